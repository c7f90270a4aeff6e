/- Plain facts on shares, shrinking groups and the fewest groups. Of no program. No conditions. -/
import Derived.Test.YtokjamdikenkoaaSeatL
import Derived.Test.YtokjamdikenkoaaShare
import Derived.Test.YtokjamdikenkoaaFew
namespace Go.Proofs.Ytokjamdikenkoaa
open Go.RowKit
set_option linter.unusedVariables false
set_option linter.unusedSimpArgs false

theorem gcd_swap (n d : Nat) : n / Nat.gcd n d * d = n * (d / Nat.gcd n d) := by
  obtain ⟨a, ha⟩ := Nat.gcd_dvd_left n d
  obtain ⟨b, hb⟩ := Nat.gcd_dvd_right n d
  by_cases h0 : Nat.gcd n d = 0
  · rw [h0] at ha hb ⊢
    simp at ha hb
    subst ha hb
    simp
  · have hp : 0 < Nat.gcd n d := Nat.pos_of_ne_zero h0
    generalize hg : Nat.gcd n d = g at *
    subst ha hb
    rw [Nat.mul_div_cancel_left _ hp, Nat.mul_div_cancel_left _ hp, Nat.mul_comm g b, ← Nat.mul_assoc, Nat.mul_comm a b, Nat.mul_comm g a, Nat.mul_assoc b a g, Nat.mul_comm b (a * g)]
theorem share_eq {vs : List Int} {s g : Int} (h : shareOk vs s g = true) : shNum vs s g * vs.sum = vs.getD g.toNat 0 * s * shDen vs s g := by
  have hk := h
  simp only [shareOk, Bool.and_eq_true] at hk
  obtain ⟨h1, h2, h3⟩ := seatsOk_parts hk.1
  obtain ⟨hl, hb, hs0, hs1⟩ := votesOk_parts h1
  have hgi := inB_iff.1 hk.2
  have hv := hb _ (mem_getD (xs := vs) (k := g.toNat) (by omega))
  unfold shNum shDen
  rw [if_pos h, if_pos h]
  unfold loNum loDen
  have hm := mul_bd hv.1 hv.2 h2 h3
  obtain ⟨n, hn⟩ : ∃ n : Nat, vs.getD g.toNat 0 * s = n := ⟨(vs.getD g.toNat 0 * s).toNat, by omega⟩
  obtain ⟨d, hd⟩ : ∃ d : Nat, vs.sum = d := ⟨vs.sum.toNat, by omega⟩
  rw [hn, hd, Int.toNat_natCast, Int.toNat_natCast]
  exact_mod_cast gcd_swap n d
theorem share_bd {vs : List Int} {s g : Int} (h : shareOk vs s g = true) : 0 ≤ shNum vs s g ∧ shNum vs s g ≤ 500000 ∧ 0 ≤ shDen vs s g ∧ shDen vs s g ≤ 80000 ∧ 0 ≤ g ∧ g < vs.length ∧ 0 ≤ s ∧ s ≤ 50 ∧ votesOk vs = true := by
  have hk := h
  simp only [shareOk, Bool.and_eq_true] at hk
  obtain ⟨h1, h2, h3⟩ := seatsOk_parts hk.1
  obtain ⟨hl, hb, hs0, hs1⟩ := votesOk_parts h1
  have hgi := inB_iff.1 hk.2
  have hv := hb _ (mem_getD (xs := vs) (k := g.toNat) (by omega))
  have hm := mul_bd hv.1 hv.2 h2 h3
  unfold shNum shDen
  rw [if_pos h, if_pos h]
  unfold loNum loDen
  have d1 := Nat.div_le_self (vs.getD g.toNat 0 * s).toNat (Nat.gcd (vs.getD g.toNat 0 * s).toNat vs.sum.toNat)
  have d2 := Nat.div_le_self vs.sum.toNat (Nat.gcd (vs.getD g.toNat 0 * s).toNat vs.sum.toNat)
  generalize (vs.getD g.toNat 0 * s).toNat / Nat.gcd (vs.getD g.toNat 0 * s).toNat vs.sum.toNat = a at *
  generalize vs.sum.toNat / Nat.gcd (vs.getD g.toNat 0 * s).toNat vs.sum.toNat = b at *
  refine ⟨by omega, by omega, by omega, by omega, by omega, by omega, h2, h3, h1⟩

theorem shrI_spec {a b : List Int} {i : Nat} (h : shrI a b = some i) : i < a.length ∧ b.getD i 0 < a.getD i 0 := by
  unfold shrI at h
  have h1 := List.find?_some h
  have h2 := List.mem_of_find?_eq_some h
  exact ⟨by simpa using h2, by simpa using h1⟩
theorem shrV_spec {vs : List Int} {s : Int} (h : (shrV vs s).2 = true) : seatsOk vs s = true ∧ seatsOk vs (s + 1) = true ∧ ∃ i : Nat, (shrV vs s).1 = i ∧ i < (remS vs s).length ∧ (remS vs (s + 1)).getD i 0 < (remS vs s).getD i 0 := by
  unfold shrV at h ⊢
  split at h
  · rename_i hc
    rw [if_pos hc]
    simp only [Bool.and_eq_true, Bool.not_eq_true'] at hc
    obtain ⟨c1, c2⟩ := hc
    obtain ⟨p1, p2, p3⟩ := seatsOk_parts c1
    refine ⟨c1, ?_, ?_⟩
    · have hne : s ≠ 50 := by simpa using c2
      have e : inB (s + 1) 0 50 = true := inB_iff.2 ⟨by omega, by omega⟩
      simp only [seatsOk, p1, e, Bool.true_and]
    · cases hi : shrI (remS vs s) (remS vs (s + 1)) with
      | none => rw [hi] at h; simp at h
      | some i => exact ⟨i, rfl, shrI_spec hi⟩
  · simp at h

theorem lessL_le {a b : List Int} (h : lessL a b = true) : a.length ≤ b.length := by
  by_cases he : a.length = b.length
  · omega
  · rw [lessL_len he] at h
    have := of_decide_eq_true h
    omega
theorem lessL_ge {a b : List Int} (h : ¬ lessL a b = true) : b.length ≤ a.length := by
  by_cases he : a.length = b.length
  · omega
  · rw [lessL_len he] at h
    have : ¬ (a.length : Int) < b.length := fun hh => h (decide_eq_true hh)
    omega
theorem few_min (rs : List Int) (M : Nat) : (few rs M = none → ∀ m, m < M → ¬ rs.sum < 2 * pickS rs m rs.length) ∧ (∀ b, few rs M = some b → (∃ m, m < M ∧ b = pickL m rs.length ∧ rs.sum < 2 * pickS rs m rs.length) ∧ ∀ m, m < M → rs.sum < 2 * pickS rs m rs.length → b.length ≤ (pickL m rs.length).length) := by
  induction M with
  | zero => exact ⟨fun _ m hm => by omega, fun b h => by simp [few] at h⟩
  | succ M ih =>
    obtain ⟨i1, i2⟩ := ih
    cases hf : few rs M with
    | none =>
      have j1 := i1 hf
      by_cases hm : rs.sum < 2 * pickS rs M rs.length
      · rw [few_first hf hm]
        refine ⟨fun h => by simp at h, fun b hb => ?_⟩
        obtain rfl := Option.some.inj hb
        refine ⟨⟨M, by omega, rfl, hm⟩, fun m hlt hmm => ?_⟩
        by_cases he : m = M
        · subst he; exact Nat.le_refl _
        · exact absurd hmm (j1 m (by omega))
      · rw [few_none hf hm]
        refine ⟨fun _ m hlt => ?_, fun b h => by simp at h⟩
        by_cases he : m = M
        · subst he; exact hm
        · exact j1 m (by omega)
    | some b =>
      obtain ⟨⟨m0, k1, k2, k3⟩, j2⟩ := i2 b hf
      by_cases hm : rs.sum < 2 * pickS rs M rs.length
      · by_cases hl : lessL (pickL M rs.length) b = true
        · rw [few_more hf hm hl]
          refine ⟨fun h => by simp at h, fun c hc => ?_⟩
          obtain rfl := Option.some.inj hc
          refine ⟨⟨M, by omega, rfl, hm⟩, fun m hlt hmm => ?_⟩
          by_cases he : m = M
          · subst he; exact Nat.le_refl _
          · have := lessL_le hl; have := j2 m (by omega) hmm; omega
        · rw [few_less hf (by simpa using hl)]
          refine ⟨fun h => by simp at h, fun c hc => ?_⟩
          obtain rfl := Option.some.inj hc
          refine ⟨⟨m0, by omega, k2, k3⟩, fun m hlt hmm => ?_⟩
          by_cases he : m = M
          · subst he; exact lessL_ge hl
          · exact j2 m (by omega) hmm
      · rw [few_keep hf hm]
        refine ⟨fun h => by simp at h, fun c hc => ?_⟩
        obtain rfl := Option.some.inj hc
        refine ⟨⟨m0, by omega, k2, k3⟩, fun m hlt hmm => ?_⟩
        by_cases he : m = M
        · subst he; exact absurd hmm hm
        · exact j2 m (by omega) hmm
theorem pick_off {rs : List Int} {m m' x : Nat} (h1 : ∀ i, i ≠ x → m'.testBit i = m.testBit i) (h2 : m.testBit x = true) (h3 : m'.testBit x = false) (k : Nat) :
    pickS rs m k = pickS rs m' k + (if x < k then rs.getD x 0 else 0) ∧ (pickL m k).length = (pickL m' k).length + (if x < k then 1 else 0) := by
  induction k with
  | zero => simp [pickS, pickL]
  | succ k ih =>
    obtain ⟨a, b⟩ := ih
    by_cases he : k = x
    · subst he
      simp only [pickS, pickL, h2, h3, if_true, Bool.false_eq_true, if_false, List.length_append, List.length_singleton]
      rw [if_neg (by omega)] at a b
      rw [if_pos (by omega), if_pos (by omega)]
      omega
    · have e1 : (if x < k + 1 then rs.getD x 0 else 0) = (if x < k then rs.getD x 0 else 0) := by
        by_cases hx : x < k
        · rw [if_pos hx, if_pos (by omega)]
        · rw [if_neg hx, if_neg (by omega)]
      have e2 : (if x < k + 1 then 1 else 0) = (if x < k then 1 else 0) := by
        by_cases hx : x < k
        · rw [if_pos hx, if_pos (by omega)]
        · rw [if_neg hx, if_neg (by omega)]
      simp only [pickS, pickL, h1 k he]
      rw [e1, e2]
      cases m.testBit k
      · simp only [Bool.false_eq_true, if_false]
        exact ⟨a, b⟩
      · simp only [if_true, List.length_append, List.length_singleton]
        exact ⟨by omega, by omega⟩
theorem pickL_mem {m k : Nat} {x : Int} (h : x ∈ pickL m k) : ∃ i : Nat, x = i ∧ i < k ∧ m.testBit i = true := by
  induction k with
  | zero => simp [pickL] at h
  | succ k ih =>
    simp only [pickL] at h
    split at h
    · rename_i hb
      rcases List.mem_append.1 h with h | h
      · obtain ⟨i, h1, h2, h3⟩ := ih h
        exact ⟨i, h1, by omega, h3⟩
      · have : x = (k : Int) := by simpa using h
        exact ⟨k, this, by omega, hb⟩
    · obtain ⟨i, h1, h2, h3⟩ := ih h
      exact ⟨i, h1, by omega, h3⟩
def atL (rs : List Int) (x : Int) : Int := rs.getD x.toNat 0
theorem pickS_map (rs : List Int) (m k : Nat) : ((pickL m k).map (atL rs)).sum = pickS rs m k := by
  induction k with
  | zero => rfl
  | succ k ih =>
    simp only [pickL, pickS]
    split
    · rw [List.map_append, List.sum_append, ih]; simp [atL]
    · exact ih
/-- The set that fewV gives: a majority, and none without any one member. -/
theorem few_law {rs b : List Int} (hv : fewV rs = (b, true)) : resOk rs = true ∧ b ≠ [] ∧ (∀ x ∈ b, 0 ≤ x ∧ x < rs.length) ∧ rs.sum < 2 * (b.map (atL rs)).sum ∧ ∀ x ∈ b, 2 * ((b.map (atL rs)).sum - atL rs x) ≤ rs.sum := by
  unfold fewV at hv
  split at hv
  · rename_i hr
    cases hf : few rs (2 ^ rs.length) with
    | none => rw [hf] at hv; simp at hv
    | some c =>
      rw [hf] at hv
      simp only [Option.getD_some, Option.isSome_some, Prod.mk.injEq, and_true] at hv
      subst hv
      obtain ⟨⟨m, k1, k2, k3⟩, j2⟩ := (few_min rs _).2 _ hf
      subst k2
      rw [pickS_map]
      obtain ⟨r1, r2, r3, r4, r5⟩ := resOk_parts hr
      refine ⟨hr, ?_, fun x hx => ?_, k3, fun x hx => ?_⟩
      · intro h0
        rw [pickS_nil h0] at k3
        omega
      · obtain ⟨i, rfl, h2, _⟩ := pickL_mem hx
        omega
      · obtain ⟨i, rfl, h2, h3⟩ := pickL_mem hx
        have ht : (m ^^^ 2 ^ i).testBit i = false := by rw [Nat.testBit_xor, h3, Nat.testBit_two_pow_self]; rfl
        have ho : ∀ j, j ≠ i → (m ^^^ 2 ^ i).testBit j = m.testBit j := fun j hj => by
          rw [Nat.testBit_xor, Nat.testBit_two_pow_of_ne (fun e => hj e.symm)]; simp
        obtain ⟨p1, p2⟩ := pick_off (rs := rs) ho h3 ht rs.length
        rw [if_pos h2] at p1 p2
        have hlt : m ^^^ 2 ^ i < 2 ^ rs.length := Nat.xor_lt_two_pow k1 (Nat.pow_lt_pow_right (by omega) h2)
        have hno : ¬ rs.sum < 2 * pickS rs (m ^^^ 2 ^ i) rs.length := fun hh => by have := j2 _ hlt hh; omega
        simp only [atL, Int.toNat_natCast]
        omega
  · simp at hv
/-- The sums over the first k of the set. -/
def sumT (rs b : List Int) (k : Nat) : Int := ((b.take k).map (atL rs)).sum
structure FewSt (rs b : List Int) (k : Nat) (sm l : Int) : Prop where
  s : sm = sumT rs b k
  m : ∀ j, j < k → l ≤ atL rs (b.getD j 0)
  o : l = 50 ∨ ∃ j, j < k ∧ l = atL rs (b.getD j 0)
  s0 : 0 ≤ sm
  s1 : sm ≤ 50 * k
  l0 : 0 ≤ l
  l1 : l ≤ 50
theorem FewSt.new (rs b : List Int) : FewSt rs b 0 0 50 := ⟨by simp [sumT], fun j hj => by omega, .inl rfl, by omega, by omega, by omega, by omega⟩
theorem sumT_succ {rs b : List Int} {k : Nat} (h : k < b.length) : sumT rs b (k + 1) = sumT rs b k + atL rs (b.getD k 0) := by
  unfold sumT
  rw [take_at h, List.map_append, List.sum_append, getD_at h]
  simp
theorem FewSt.less {rs b : List Int} {k : Nat} {sm l : Int} (h : FewSt rs b k sm l) (hk : k < b.length) (h0 : 0 ≤ atL rs (b.getD k 0)) (h1 : atL rs (b.getD k 0) ≤ 50) (hl : atL rs (b.getD k 0) < l) : FewSt rs b (k + 1) (sm + atL rs (b.getD k 0)) (atL rs (b.getD k 0)) where
  s := by rw [sumT_succ hk, h.s]
  m := fun j hj => by
    by_cases he : j = k
    · subst he; exact Int.le_refl _
    · have := h.m j (by omega); omega
  o := .inr ⟨k, by omega, rfl⟩
  s0 := by have := h.s0; omega
  s1 := by have := h.s1; push_cast; omega
  l0 := h0
  l1 := h1
theorem FewSt.same {rs b : List Int} {k : Nat} {sm l : Int} (h : FewSt rs b k sm l) (hk : k < b.length) (h0 : 0 ≤ atL rs (b.getD k 0)) (h1 : atL rs (b.getD k 0) ≤ 50) (hl : ¬ atL rs (b.getD k 0) < l) : FewSt rs b (k + 1) (sm + atL rs (b.getD k 0)) l where
  s := by rw [sumT_succ hk, h.s]
  m := fun j hj => by
    by_cases he : j = k
    · subst he; omega
    · exact h.m j (by omega)
  o := h.o.imp id fun ⟨j, h1, h2⟩ => ⟨j, by omega, h2⟩
  s0 := by have := h.s0; omega
  s1 := by have := h.s1; push_cast; omega
  l0 := h.l0
  l1 := h.l1
theorem FewSt.done {rs b : List Int} {sm l : Int} (h : FewSt rs b b.length sm l) (hv : fewV rs = (b, true)) : rs.sum < 2 * sm ∧ 2 * (sm - l) ≤ rs.sum := by
  obtain ⟨hr, hb0, hb, h1, h2⟩ := few_law hv
  have hs := h.s
  unfold sumT at hs
  rw [List.take_length] at hs
  rw [← hs] at h1 h2
  refine ⟨h1, ?_⟩
  obtain ⟨x, hx, hl⟩ : ∃ x ∈ b, l = atL rs x := by
    rcases h.o with ho | ⟨j, hj, ho⟩
    · have hp : 0 < b.length := List.length_pos_iff.2 hb0
      have h5 := h.m 0 hp
      have h6 := mem_getD hp
      have h7 := hb _ h6
      have h8 := (resOk_parts hr).1 _ (mem_getD (xs := rs) (k := (b.getD 0 0).toNat) (by omega))
      refine ⟨b.getD 0 0, h6, ?_⟩
      unfold atL at h5 ⊢
      omega
    · exact ⟨_, mem_getD hj, ho⟩
  rw [hl]
  exact h2 x hx
end Go.Proofs.Ytokjamdikenkoaa
