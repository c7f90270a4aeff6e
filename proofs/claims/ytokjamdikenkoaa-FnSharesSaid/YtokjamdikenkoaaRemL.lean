/- Seats by remainders, plain: the program's order and the reference's picks come to one. Of no program. No conditions. -/
import Derived.Test.YtokjamdikenkoaaSortL
import Derived.Test.YtokjamdikenkoaaIntS
namespace Go.Proofs.Ytokjamdikenkoaa
open Go.RowKit
set_option linter.unusedVariables false
set_option linter.unusedSimpArgs false

/-- The first of the greatest, of the first k. -/
def firstMax (xs : List Int) : Nat → Nat
  | 0 => 0
  | k + 1 => if xs.getD (firstMax xs k) 0 < xs.getD k 0 then k else firstMax xs k
theorem firstMax_one (xs : List Int) : firstMax xs 1 = 0 := by simp [firstMax]
theorem firstMax_on {xs : List Int} {k : Nat} (h : xs.getD (firstMax xs k) 0 < xs.getD k 0) : firstMax xs (k + 1) = k := if_pos h
theorem firstMax_off {xs : List Int} {k : Nat} (h : ¬ xs.getD (firstMax xs k) 0 < xs.getD k 0) : firstMax xs (k + 1) = firstMax xs k := if_neg h
theorem firstMax_lt (xs : List Int) (k : Nat) (h : 0 < k) : firstMax xs k < k := by
  induction k with
  | zero => omega
  | succ k ih =>
    simp only [firstMax]
    split
    · omega
    · rcases Nat.eq_zero_or_pos k with h0 | h0
      · subst h0; simp [firstMax]
      · have := ih h0; omega
theorem firstMax_eq {xs : List Int} {b : Nat} (h1 : ∀ i, i < xs.length → xs.getD i 0 ≤ xs.getD b 0) (h2 : ∀ i, i < b → xs.getD i 0 < xs.getD b 0) (hb : b < xs.length) : firstMax xs xs.length = b := by
  have H : ∀ k, k ≤ xs.length → (k ≤ b → firstMax xs k < k ∨ k = 0) ∧ (b < k → firstMax xs k = b) := by
    intro k
    induction k with
    | zero => intro _; exact ⟨fun _ => .inr rfl, fun h => by omega⟩
    | succ k ih =>
      intro hk
      obtain ⟨i1, i2⟩ := ih (by omega)
      refine ⟨fun h => .inl (firstMax_lt xs (k + 1) (by omega)), fun h => ?_⟩
      by_cases hkb : k = b
      · subst hkb
        rcases Nat.eq_zero_or_pos k with h0 | h0
        · subst h0; exact firstMax_one xs
        · exact firstMax_on (h2 _ (firstMax_lt xs k h0))
      · rw [firstMax_off, i2 (by omega)]
        rw [i2 (by omega)]
        have := h1 k (by omega)
        omega
  exact (H xs.length (Nat.le_refl _)).2 hb

/-- One more seat for each of some groups. -/
def incAll (out : List Int) (l : List Int) : List Int := l.foldl (fun o i => o.set i.toNat (o.getD i.toNat 0 + 1)) out
theorem incAll_len (out l : List Int) : (incAll out l).length = out.length := by
  unfold incAll
  induction l generalizing out with
  | nil => rfl
  | cons a r ih => rw [List.foldl_cons, ih]; simp
theorem incAll_push (out l : List Int) (x : Int) : incAll out (l ++ [x]) = (incAll out l).set x.toNat ((incAll out l).getD x.toNat 0 + 1) := by simp [incAll, List.foldl_append]
/-- The reference's picks. -/
def pickS2 (st : List Int × List Int) : List Int × List Int :=
  (st.1.set (firstMax st.2 st.2.length) (st.1.getD (firstMax st.2 st.2.length) 0 + 1), st.2.set (firstMax st.2 st.2.length) (-1))
def picks (out rests : List Int) : Nat → List Int × List Int
  | 0 => (out, rests)
  | t + 1 => pickS2 (picks out rests t)
theorem picks_len (out rests : List Int) (t : Nat) : (picks out rests t).1.length = out.length ∧ (picks out rests t).2.length = rests.length := by
  induction t with
  | zero => exact ⟨rfl, rfl⟩
  | succ t ih => simp [picks, pickS2, ih]

/-- i goes ahead of k: a greater remainder, or a like one and it stands ahead. -/
def aheadR (rests : List Int) (i k : Int) : Prop := rests.getD k.toNat 0 < rests.getD i.toNat 0 ∨ (rests.getD k.toNat 0 = rests.getD i.toNat 0 ∧ i < k)
theorem aheadR_trans (rests : List Int) : ∀ a b c, aheadR rests a b → aheadR rests b c → aheadR rests a c := by
  intro a b c h1 h2
  unfold aheadR at *
  omega
/-- what the program's comparison says: i before k -/
def ltR (rests : List Int) (i k : Int) : Bool := decide (rests.getD k.toNat 0 < rests.getD i.toNat 0)
theorem upFrom_succ (k : Nat) : upFrom 0 (k + 1) = upFrom 0 k ++ [(k : Int)] := by simp [upFrom, List.range_succ]
theorem mem_upFrom {n : Nat} {x : Int} : x ∈ upFrom 0 n ↔ 0 ≤ x ∧ x < n := by
  constructor
  · intro h
    obtain ⟨i, hi, rfl⟩ := List.mem_iff_getElem.1 h
    rw [upFrom_get _ _ _ (by simpa using hi)]
    have : i < n := by simpa using hi
    omega
  · intro h
    refine List.mem_iff_getElem.2 ⟨x.toNat, by simp; omega, ?_⟩
    rw [upFrom_get _ _ _ (by omega)]
    omega
def ordR (rests : List Int) : List Int := sortS (ltR rests) (upFrom 0 rests.length)
theorem ordR_len (rests : List Int) : (ordR rests).length = rests.length := by simp [ordR, sortS_len]
theorem ordR_mem {rests : List Int} {x : Int} : x ∈ ordR rests ↔ 0 ≤ x ∧ x < rests.length := by
  unfold ordR
  rw [(sortS_perm _ _).mem_iff, mem_upFrom]
theorem ordR_pw (rests : List Int) : (ordR rests).Pairwise (aheadR rests) := by
  unfold ordR
  have H : ∀ n, (sortS (ltR rests) (upFrom 0 n)).Pairwise (aheadR rests) := by
    intro n
    induction n with
    | zero => simp [upFrom, sortS]
    | succ n ih =>
      rw [upFrom_succ, sortS_push]
      refine insEnd_pw (aheadR_trans rests) _ _ _ (fun y hy h => ?_) (fun y hy h => ?_) ih
      · simp only [ltR, decide_eq_true_eq] at h
        exact .inl h
      · simp only [ltR, decide_eq_false_iff_not] at h
        have := mem_upFrom.1 ((sortS_perm _ _).mem_iff.1 hy)
        unfold aheadR
        omega
  exact H _
theorem ordR_nodup (rests : List Int) : (ordR rests).Nodup := by
  refine List.Pairwise.imp (fun {a b} h => ?_) (ordR_pw rests)
  unfold aheadR at h
  intro e
  subst e
  omega

/-- Behind t picks. -/
theorem picks_at {out rests : List Int} (h0 : ∀ x ∈ rests, 0 ≤ x) (t : Nat) (ht : t ≤ rests.length) :
    (picks out rests t).1 = incAll out ((ordR rests).take t) ∧ ∀ i, i < rests.length → (picks out rests t).2.getD i 0 = if (i : Int) ∈ (ordR rests).take t then -1 else rests.getD i 0 := by
  induction t with
  | zero => exact ⟨by simp [picks, incAll], fun i _ => by simp [picks]⟩
  | succ t ih =>
    obtain ⟨i1, i2⟩ := ih (by omega)
    have hol := ordR_len rests
    have htl : t < (ordR rests).length := by omega
    obtain ⟨c, hc⟩ : ∃ c, c = (ordR rests)[t] := ⟨_, rfl⟩
    have hcm : c ∈ ordR rests := by rw [hc]; exact List.getElem_mem htl
    obtain ⟨hc0, hc1⟩ := ordR_mem.1 hcm
    have hpl := (picks_len out rests t).2
    have hnt : c ∉ (ordR rests).take t := by
      intro hm
      obtain ⟨j, hj, hje⟩ := List.mem_iff_getElem.1 hm
      rw [List.getElem_take] at hje
      have hj' : j < t := by simp at hj; omega
      have := List.pairwise_iff_getElem.1 (ordR_nodup rests) j t (by omega) htl hj'
      exact this (hje.trans hc)
    have hge : ∀ i, i < rests.length → 0 ≤ rests.getD i 0 := fun i hi => by
      rw [List.getD_eq_getElem?_getD, List.getElem?_eq_getElem hi]; exact h0 _ (List.getElem_mem hi)
    have hcv : (picks out rests t).2.getD c.toNat 0 = rests.getD c.toNat 0 := by
      rw [i2 c.toNat (by omega), if_neg (by rw [show ((c.toNat : Nat) : Int) = c by omega]; exact hnt)]
    have hah : ∀ i : Nat, i < rests.length → (i : Int) ∉ (ordR rests).take t → (i : Int) ≠ c → aheadR rests c i := by
      intro i hi hni hne
      have hm : (i : Int) ∈ ordR rests := ordR_mem.2 ⟨by omega, by omega⟩
      obtain ⟨j, hj, hje⟩ := List.mem_iff_getElem.1 hm
      have hjt : t < j := by
        rcases Nat.lt_trichotomy t j with h | h | h
        · exact h
        · subst h; exact absurd (hje.symm.trans hc.symm) hne
        · exfalso
          apply hni
          rw [← hje]
          exact List.mem_iff_getElem.2 ⟨j, by simp; omega, by rw [List.getElem_take]⟩
      have := List.pairwise_iff_getElem.1 (ordR_pw rests) t j htl hj hjt
      rw [hje, ← hc] at this
      exact this
    have hfm : firstMax (picks out rests t).2 (picks out rests t).2.length = c.toNat := by
      refine firstMax_eq (fun i hi => ?_) (fun i hi => ?_) (by omega)
      · rw [hcv, i2 i (by omega)]
        split
        · have := hge c.toNat (by omega); omega
        · rename_i hni
          by_cases hne : (i : Int) = c
          · rw [show i = c.toNat by omega]; exact Int.le_refl _
          · have := hah i (by omega) hni hne
            unfold aheadR at this
            rw [Int.toNat_natCast] at this
            omega
      · rw [hcv, i2 i (by omega)]
        split
        · have := hge c.toNat (by omega); omega
        · rename_i hni
          have := hah i (by omega) hni (by omega)
          unfold aheadR at this
          rw [Int.toNat_natCast] at this
          omega
    have htk : (ordR rests).take (t + 1) = (ordR rests).take t ++ [c] := by rw [take_at htl, ← hc]
    refine ⟨?_, fun i hi => ?_⟩
    · show (pickS2 (picks out rests t)).1 = _
      unfold pickS2
      rw [hfm, htk, incAll_push, ← i1]
    · show (pickS2 (picks out rests t)).2.getD i 0 = _
      unfold pickS2
      rw [hfm, htk]
      by_cases hic : i = c.toNat
      · subst hic
        have : ((c.toNat : Nat) : Int) = c := by omega
        rw [if_pos (by rw [this]; simp)]
        rw [List.getD_eq_getElem?_getD, List.getElem?_set_self (by omega)]
        rfl
      · have h3 : ((i : Int) ∈ (ordR rests).take t ++ [c]) ↔ (i : Int) ∈ (ordR rests).take t := by
          rw [List.mem_append, List.mem_singleton]
          constructor
          · rintro (h | h)
            · exact h
            · omega
          · exact .inl
        rw [List.getD_eq_getElem?_getD, List.getElem?_set_ne (by omega), ← List.getD_eq_getElem?_getD, i2 i hi]
        simp only [h3]

def floorL (vs : List Int) (s : Int) : List Int := vs.map fun v => v * s / vs.sum
def restL (vs : List Int) (s : Int) : List Int := vs.map fun v => v * s % vs.sum
/-- Seats that are left when each has its whole ones. -/
def leftS (vs : List Int) (s : Int) : Int := s - (floorL vs s).sum
theorem rest_sum (vs : List Int) (s A : Int) : A * (vs.map fun v => v * s / A).sum + (vs.map fun v => v * s % A).sum = vs.sum * s := by
  induction vs with
  | nil => simp
  | cons a r ih =>
    simp only [List.map_cons, List.sum_cons]
    have h1 := Int.mul_ediv_add_emod (a * s) A
    rw [Int.mul_add, Int.add_mul]
    omega
theorem rest_bd (vs : List Int) (s A : Int) (hA : 0 < A) : 0 ≤ (vs.map fun v => v * s % A).sum ∧ (vs ≠ [] → (vs.map fun v => v * s % A).sum < A * vs.length) := by
  induction vs with
  | nil => simp
  | cons a r ih =>
    have h1 := Int.emod_nonneg (a * s) (by omega : A ≠ 0)
    have h2 := Int.emod_lt_of_pos (a * s) hA
    simp only [List.map_cons, List.sum_cons, List.length_cons]
    have h3 : A * ((r.length + 1 : Nat) : Int) = A * r.length + A := by rw [Int.natCast_add, Int.mul_add]; simp
    refine ⟨by omega, fun _ => ?_⟩
    rw [h3]
    by_cases hr : r = []
    · subst hr; simp; omega
    · have := ih.2 hr; omega
/-- The seats that are left are fewer than the groups, and not negative. -/
theorem leftS_bd {vs : List Int} {s : Int} (hA : 0 < vs.sum) : 0 ≤ leftS vs s ∧ leftS vs s < vs.length := by
  have h1 := rest_sum vs s vs.sum
  have h2 := rest_bd vs s vs.sum hA
  have hne : vs ≠ [] := by intro e; subst e; simp at hA
  have h3 := h2.2 hne
  have h4 := h2.1
  unfold leftS floorL
  generalize (vs.map fun v => v * s / vs.sum).sum = F at *
  generalize (vs.map fun v => v * s % vs.sum).sum = R at *
  have e : vs.sum * (s - F) = R := by rw [Int.mul_sub]; omega
  constructor
  · refine Int.not_lt.1 fun hn => ?_
    have := Int.mul_neg_of_pos_of_neg hA hn
    omega
  · refine Int.not_le.1 fun hn => ?_
    have := Int.mul_le_mul_of_nonneg_left hn (by omega : 0 ≤ vs.sum)
    omega
/-- The seats by remainders. -/
def remS (vs : List Int) (s : Int) : List Int := incAll (floorL vs s) ((ordR (restL vs s)).take (leftS vs s).toNat)
theorem remS_len (vs : List Int) (s : Int) : (remS vs s).length = vs.length := by simp [remS, incAll_len, floorL]
theorem remS_picks {vs : List Int} {s : Int} (hA : 0 < vs.sum) : (picks (floorL vs s) (restL vs s) (leftS vs s).toNat).1 = remS vs s := by
  have h := leftS_bd (s := s) hA
  have hr : (restL vs s).length = vs.length := by simp [restL]
  exact (picks_at (fun x hx => by
    obtain ⟨v, _, rfl⟩ := List.mem_map.1 hx
    exact Int.emod_nonneg _ (by omega)) _ (by omega)).1

end Go.Proofs.Ytokjamdikenkoaa
