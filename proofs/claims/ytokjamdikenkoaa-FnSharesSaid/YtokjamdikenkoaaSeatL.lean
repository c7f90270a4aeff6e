/- Plain facts on seats: their sums, the quota, one seat more. Of no program. No conditions. -/
import Derived.Test.YtokjamdikenkoaaRemV
namespace Go.Proofs.Ytokjamdikenkoaa
open Go.RowKit
set_option linter.unusedVariables false
set_option linter.unusedSimpArgs false

theorem sum_setI {xs : List Int} {k : Nat} {y : Int} (h : k < xs.length) : (xs.set k y).sum = xs.sum - xs.getD k 0 + y := by
  induction xs generalizing k with
  | nil => simp at h
  | cons a r ih =>
    cases k with
    | zero => simp; omega
    | succ k =>
      have := ih (k := k) (by simpa using h)
      simp only [List.set_cons_succ, List.sum_cons, List.getD_cons_succ]
      omega
theorem sum_zeros (n : Nat) : (List.replicate n (0 : Int)).sum = 0 := by
  induction n with
  | zero => rfl
  | succ n ih => rw [List.replicate_succ, List.sum_cons, ih]; rfl
theorem perm_sum {a b : List Int} (h : a.Perm b) : a.sum = b.sum := by
  induction h with
  | nil => rfl
  | cons x _ ih => simp only [List.sum_cons, ih]
  | swap x y l => simp only [List.sum_cons]; omega
  | trans _ _ h1 h2 => exact h1.trans h2
theorem qSeats_sum {st : Int} {vs : List Int} (h : 0 < vs.length) (s : Nat) : (qSeats st vs s).1.sum = s := by
  induction s with
  | zero => simp [qSeats, sum_zeros]
  | succ s ih =>
    have hl := qSeats_len st vs s
    have hb := qBest_lt st vs (qSeats st vs s).1 vs.length h
    simp only [qSeats]
    rw [sum_setI (by omega), ih]
    omega
/-- One seat more is one group's. -/
theorem qSeats_more {st : Int} {vs : List Int} {s i : Nat} (h : i < vs.length) : (qSeats st vs (s + 1)).1.getD i 0 = (qSeats st vs s).1.getD i 0 + (if i = (qSeats st vs (s + 1)).2 then 1 else 0) := by
  have hl := qSeats_len st vs s
  have hb := qBest_lt st vs (qSeats st vs s).1 vs.length (by omega)
  obtain ⟨b, hbe⟩ : ∃ b, b = qBest st vs (qSeats st vs s).1 vs.length := ⟨_, rfl⟩
  have e1 : (qSeats st vs (s + 1)).1 = (qSeats st vs s).1.set b ((qSeats st vs s).1.getD b 0 + 1) := by rw [hbe]; rfl
  have e2 : (qSeats st vs (s + 1)).2 = b := by rw [hbe]; rfl
  rw [e1, e2]
  rw [← hbe] at hb
  by_cases he : i = b
  · subst he
    rw [if_pos rfl, List.getD_eq_getElem?_getD, List.getElem?_set_self (by omega)]
    rfl
  · rw [if_neg he, List.getD_eq_getElem?_getD, List.getElem?_set_ne (by omega), ← List.getD_eq_getElem?_getD]
    omega

theorem incAll_sum {out : List Int} {l : List Int} (h : ∀ x ∈ l, 0 ≤ x ∧ x < out.length) : (incAll out l).sum = out.sum + l.length := by
  induction l generalizing out with
  | nil => simp [incAll]
  | cons a r ih =>
    have ha := h a (by simp)
    have hl : (out.set a.toNat (out.getD a.toNat 0 + 1)).length = out.length := by simp
    have : incAll out (a :: r) = incAll (out.set a.toNat (out.getD a.toNat 0 + 1)) r := rfl
    rw [this, ih (fun x hx => by rw [hl]; exact h x (List.mem_cons_of_mem _ hx)), sum_setI (by omega), List.length_cons]
    omega
theorem remS_sum {vs : List Int} {s : Int} (hA : 0 < vs.sum) : (remS vs s).sum = s := by
  have hL := leftS_bd (s := s) hA
  unfold remS
  rw [incAll_sum]
  · have h1 : ((ordR (restL vs s)).take (leftS vs s).toNat).length = (leftS vs s).toNat := by rw [List.length_take, ordR_len, restL_len]; omega
    rw [h1]
    unfold leftS at *
    omega
  · intro x hx
    have := ordR_mem.1 (List.mem_of_mem_take hx)
    rw [restL_len] at this
    rw [floorL_len]
    exact this
/-- How often an index is picked: at most once, and only where something is left. -/
theorem incAll_get {out : List Int} {l : List Int} (hn : l.Nodup) (h : ∀ x ∈ l, 0 ≤ x ∧ x < out.length) {i : Nat} (hi : i < out.length) : (incAll out l).getD i 0 = out.getD i 0 + (if (i : Int) ∈ l then 1 else 0) := by
  induction l generalizing out with
  | nil => simp [incAll]
  | cons a r ih =>
    obtain ⟨h1, h2⟩ := List.nodup_cons.1 hn
    have ha := h a (by simp)
    have hl : (out.set a.toNat (out.getD a.toNat 0 + 1)).length = out.length := by simp
    have e : incAll out (a :: r) = incAll (out.set a.toNat (out.getD a.toNat 0 + 1)) r := rfl
    rw [e, ih h2 (fun x hx => by rw [hl]; exact h x (List.mem_cons_of_mem _ hx)) (by omega)]
    by_cases hia : i = a.toNat
    · subst hia
      have hna : ((a.toNat : Nat) : Int) = a := by omega
      rw [hna, if_neg h1, if_pos (by simp), List.getD_eq_getElem?_getD, List.getElem?_set_self (by omega)]
      simp
    · rw [List.getD_eq_getElem?_getD (l := out.set _ _), List.getElem?_set_ne (by omega), ← List.getD_eq_getElem?_getD]
      have hne : (i : Int) ≠ a := by omega
      by_cases hir : (i : Int) ∈ r
      · rw [if_pos hir, if_pos (List.mem_cons_of_mem _ hir)]
      · rw [if_neg hir, if_neg (by simp [hne, hir])]
/-- The rests of those ahead in the order are as great at least; what is picked has a rest. -/
theorem picked_rest {vs : List Int} {s : Int} (hA : 0 < vs.sum) {i : Nat} (hi : i < vs.length) (hm : (i : Int) ∈ (ordR (restL vs s)).take (leftS vs s).toNat) : 0 < (restL vs s).getD i 0 := by
  have hL := leftS_bd (s := s) hA
  have hge : ∀ x ∈ restL vs s, 0 ≤ x ∧ x < vs.sum := by
    intro x hx
    obtain ⟨v, hv, rfl⟩ := List.mem_map.1 hx
    exact ⟨Int.emod_nonneg _ (by omega), Int.emod_lt_of_pos _ hA⟩
  have hsum := rest_sum vs s vs.sum
  have hil : i < (restL vs s).length := by rw [restL_len]; exact hi
  by_cases h0 : 0 < (restL vs s).getD i 0
  · exact h0
  · exfalso
    -- all that is not picked has no rest
    obtain ⟨L, hLe⟩ : ∃ L : Nat, leftS vs s = L := ⟨(leftS vs s).toNat, by omega⟩
    rw [hLe, Int.toNat_natCast] at hm
    obtain ⟨j, hj, hje⟩ := List.mem_iff_getElem.1 hm
    rw [List.getElem_take] at hje
    have hjL : j < L := by rw [List.length_take] at hj; omega
    have hol : (ordR (restL vs s)).length = vs.length := by rw [ordR_len, restL_len]
    have hzero : ∀ k (hk : k < (ordR (restL vs s)).length), j ≤ k → (restL vs s).getD ((ordR (restL vs s))[k]).toNat 0 = 0 := by
      intro k hk hjk
      have hmem := ordR_mem.1 (List.getElem_mem hk)
      have h1 : 0 ≤ (restL vs s).getD ((ordR (restL vs s))[k]).toNat 0 := (hge _ (mem_getD (by omega))).1
      rcases Nat.eq_or_lt_of_le hjk with he | hlt
      · subst he
        rw [hje, Int.toNat_natCast] at h1 ⊢
        omega
      · have := List.pairwise_iff_getElem.1 (ordR_pw (restL vs s)) j k (by omega) hk hlt
        unfold aheadR at this
        rw [hje, Int.toNat_natCast] at this
        omega
    -- the sum over the order
    have hperm : ((ordR (restL vs s)).map fun x => (restL vs s).getD x.toNat 0).sum = (restL vs s).sum := by
      have hp : ((ordR (restL vs s)).map fun x => (restL vs s).getD x.toNat 0).Perm ((upFrom 0 (restL vs s).length).map fun x => (restL vs s).getD x.toNat 0) := (sortS_perm _ _).map _
      rw [perm_sum hp]
      congr 1
      apply List.ext_getElem
      · simp
      · intro k h1 h2
        simp only [List.getElem_map]
        rw [upFrom_get _ _ _ (by simpa using h1)]
        rw [show ((0 : Int) + (k : Int)).toNat = k by omega, getD_at h2]
    have hbd : ∀ (l : List Int) (n : Nat), (∀ x ∈ l, 0 ≤ x ∧ x < vs.sum) → (∀ k (hk : k < l.length), n ≤ k → l[k] = 0) → l.sum ≤ (vs.sum - 1) * n := by
      intro l
      induction l with
      | nil => intro n _ _; simp; exact Int.mul_nonneg (by omega) (by omega)
      | cons a r ih =>
        intro n h1 h2
        cases n with
        | zero =>
          have ha := h2 0 (by simp) (Nat.zero_le _)
          have := ih 0 (fun x hx => h1 x (List.mem_cons_of_mem _ hx)) (fun k hk _ => by have := h2 (k + 1) (by simpa using hk) (Nat.zero_le _); simpa using this)
          simp only [List.getElem_cons_zero] at ha
          simp only [List.sum_cons]
          simp at this ⊢
          omega
        | succ n =>
          have ha := h1 a (by simp)
          have := ih n (fun x hx => h1 x (List.mem_cons_of_mem _ hx)) (fun k hk hn => by have := h2 (k + 1) (by simpa using hk) (by omega); simpa using this)
          simp only [List.sum_cons]
          have e : (vs.sum - 1) * ((n + 1 : Nat) : Int) = (vs.sum - 1) * n + (vs.sum - 1) := by rw [Int.natCast_add, Int.mul_add]; simp
          rw [e]
          omega
    have hb := hbd ((ordR (restL vs s)).map fun x => (restL vs s).getD x.toNat 0) j (fun x hx => by
      obtain ⟨y, hy, rfl⟩ := List.mem_map.1 hx
      have := ordR_mem.1 hy
      exact hge _ (mem_getD (by omega))) (fun k hk hjk => by rw [List.getElem_map]; exact hzero k (by simpa using hk) hjk)
    rw [hperm] at hb
    have hle : leftS vs s = s - (floorL vs s).sum := rfl
    have e1 : vs.sum * (s - (floorL vs s).sum) = (restL vs s).sum := by
      rw [Int.mul_sub]
      unfold floorL restL
      omega
    rw [← hle, hLe] at e1
    have e2 : (vs.sum - 1) * (j : Int) ≤ (vs.sum - 1) * ((L : Int) - 1) := Int.mul_le_mul_of_nonneg_left (by omega) (by omega)
    have e3 : (vs.sum - 1) * ((L : Int) - 1) = vs.sum * L - vs.sum - (L : Int) + 1 := by rw [Int.sub_mul, Int.mul_sub]; omega
    omega

theorem keepsB_of {A s : Int} {vs rs : List Int} (hl : rs.length = vs.length) (h : ∀ i, i < vs.length → vs.getD i 0 * s / A ≤ rs.getD i 0 ∧ rs.getD i 0 ≤ (vs.getD i 0 * s + A - 1) / A) : keepsB A s vs rs = true := by
  induction vs generalizing rs with
  | nil => cases rs <;> rfl
  | cons v vs ih =>
    cases rs with
    | nil => simp at hl
    | cons r rs =>
      simp only [keepsB, Bool.and_eq_true]
      refine ⟨inB_iff.2 (by simpa using h 0 (by simp)), ih (by simpa using hl) (fun i hi => by simpa using h (i + 1) (by simpa using hi))⟩
theorem remS_get {vs : List Int} {s : Int} {i : Nat} (hi : i < vs.length) : (remS vs s).getD i 0 = (vs.getD i 0 * s / vs.sum) + (if (i : Int) ∈ (ordR (restL vs s)).take (leftS vs s).toNat then 1 else 0) := by
  unfold remS
  rw [incAll_get (List.Nodup.sublist (List.take_sublist _ _) (ordR_nodup _)) (fun x hx => by
    have := ordR_mem.1 (List.mem_of_mem_take hx)
    rw [restL_len] at this
    rw [floorL_len]; exact this) (by rw [floorL_len]; exact hi)]
  congr 1
  rw [getD_at (by rw [floorL_len]; exact hi), getD_at hi]
  simp [floorL]
theorem ceil_up {x A : Int} (hA : 0 < A) (h : 0 < x % A) : x / A + 1 ≤ (x + A - 1) / A := by
  have h1 := Int.mul_ediv_add_emod x A
  have h2 : x + A - 1 = A * (x / A + 1) + (x % A - 1) := by rw [Int.mul_add]; omega
  rw [h2, show A * (x / A + 1) + (x % A - 1) = (x % A - 1) + A * (x / A + 1) from Int.add_comm _ _, Int.add_mul_ediv_left _ _ (by omega)]
  have := Int.ediv_nonneg (a := x % A - 1) (b := A) (by omega) (by omega)
  omega
theorem floor_up {x A : Int} (hA : 0 < A) : x / A ≤ (x + A - 1) / A := Int.ediv_le_ediv hA (by omega)
theorem remS_keeps {vs : List Int} {s : Int} (hR : RemOk vs s) : quotaOk vs (remS vs s) = true ∧ keepsB vs.sum (remS vs s).sum vs (remS vs s) = true := by
  have hA := hR.a
  have hsum := remS_sum (s := s) hA
  have hlen := remS_len vs s
  have hk : keepsB vs.sum (remS vs s).sum vs (remS vs s) = true := by
    rw [hsum]
    refine keepsB_of hlen fun i hi => ?_
    rw [remS_get hi]
    by_cases hm : (i : Int) ∈ (ordR (restL vs s)).take (leftS vs s).toNat
    · have h1 := picked_rest hA hi hm
      rw [getD_at (by rw [restL_len]; exact hi)] at h1
      simp only [restL, List.getElem_map] at h1
      rw [if_pos hm, getD_at hi]
      have := ceil_up hA h1
      omega
    · rw [if_neg hm]
      have := floor_up (x := vs.getD i 0 * s) hA
      omega
  refine ⟨?_, hk⟩
  have hv : votesOk vs = true := by
    simp only [votesOk, Bool.and_eq_true, decide_eq_true_eq]
    exact ⟨⟨inB_iff.2 ⟨by have := hR.n1; omega, by have := hR.n8; omega⟩, allIn_iff.2 hR.v⟩, hA⟩
  have h0 : ∀ x ∈ remS vs s, 0 ≤ x := fun x hx => (rem_bd hR x hx).1
  have h50 : ∀ x ∈ remS vs s, x ≤ 50 := fun x hx => by
    have hle : ∀ (l : List Int), (∀ y ∈ l, 0 ≤ y) → ∀ y ∈ l, y ≤ l.sum := by
      intro l
      induction l with
      | nil => intro _ y hy; cases hy
      | cons a r ih =>
        intro h y hy
        have hr : 0 ≤ r.sum := by
          have h9 : ∀ (l : List Int), (∀ y ∈ l, 0 ≤ y) → 0 ≤ l.sum := by
            intro l
            induction l with
            | nil => intro _; simp
            | cons b q ih2 => intro h; have := h b (by simp); have := ih2 (fun z hz => h z (List.mem_cons_of_mem _ hz)); simp only [List.sum_cons]; omega
          exact h9 r (fun z hz => h z (List.mem_cons_of_mem _ hz))
        have ha := h a (by simp)
        simp only [List.sum_cons]
        rcases List.mem_cons.1 hy with rfl | hy
        · omega
        · have := ih (fun z hz => h z (List.mem_cons_of_mem _ hz)) y hy; omega
    have := hle _ h0 x hx
    rw [hsum] at this
    have := hR.s1
    omega
  simp only [quotaOk, Bool.and_eq_true, decide_eq_true_eq]
  exact ⟨⟨⟨hv, hlen⟩, allIn_iff.2 fun x hx => ⟨h0 x hx, h50 x hx⟩⟩, by rw [hsum]; exact hR.s1⟩

end Go.Proofs.Ytokjamdikenkoaa
