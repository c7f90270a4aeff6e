/- Plain: a Condorcet winner is the dominant set and the Copeland winner; moving up and Borda's scores. Of no program. No conditions. -/
import Derived.Test.YtfonpkegaeebaaaRankD
import Derived.Test.YtfonpkegaeebaaaRankN
import Derived.Test.YtfonpkegaeebaaaRunL
namespace Go.Proofs.Ytfonpkegaeebaaa
open Go.RowKit
set_option linter.unusedVariables false
set_option linter.unusedSimpArgs false

theorem wins_asym {rs : List DRanking} {a b : Nat} (h : wins rs a b = true) : wins rs b a = false := by
  simp only [wins, decide_eq_true_eq, decide_eq_false_iff_not] at *
  omega
theorem wins_self (rs : List DRanking) (a : Nat) : wins rs a a = false := by simp [wins]
/-- The smallest dominant set. -/
theorem domM_min (rs : List DRanking) (N : Nat) : ∀ M m, m < M → 1 ≤ m → domB rs N m = true → pc N (domM rs N M) ≤ pc N m
  | 0, m, h, _, _ => by omega
  | M + 1, m, h, h1, h2 => by
    by_cases hc : 1 ≤ M ∧ domB rs N M = true ∧ pc N M < pc N (domM rs N M)
    · rw [domM_take hc.1 hc.2.1 hc.2.2]
      rcases Nat.lt_or_ge m M with h3 | h3
      · have := domM_min rs N M m h3 h1 h2; omega
      · obtain rfl : m = M := by omega
        exact Nat.le_refl _
    · have he : domM rs N (M + 1) = domM rs N M := by simp only [domM]; rw [if_neg hc]
      rw [he]
      rcases Nat.lt_or_ge m M with h3 | h3
      · exact domM_min rs N M m h3 h1 h2
      · obtain rfl : m = M := by omega
        rcases Nat.lt_or_ge (pc N m) (pc N (domM rs N m)) with h4 | h4
        · exact absurd ⟨h1, h2, h4⟩ hc
        · exact h4
theorem domM_ok (rs : List DRanking) {N : Nat} (hN : 1 ≤ N) : ∀ M, domB rs N (domM rs N M) = true ∧ 1 ≤ domM rs N M
  | 0 => by
    have h2 : 2 ≤ 2 ^ N := by
      have := Nat.pow_le_pow_right (n := 2) (by omega) hN
      simpa using this
    refine ⟨?_, by simp only [domM]; omega⟩
    simp only [domM, domB, List.all_eq_true, List.mem_range, okRow]
    intro a ha b hb
    exact okAB_in (by rw [Nat.testBit_two_pow_sub_one]; simpa using hb)
  | M + 1 => by
    have ih := domM_ok rs hN M
    simp only [domM]
    split
    · rename_i h; exact ⟨h.2.1, h.1⟩
    · exact ih
theorem domB_wins {rs : List DRanking} {N m a b : Nat} (h : domB rs N m = true) (ha : a < N) (hb : b < N) (h1 : m.testBit a = true) (h2 : m.testBit b = false) : wins rs a b = true := by
  simp only [domB, List.all_eq_true, List.mem_range, okRow] at h
  have := h a ha b hb
  rwa [okAB_on h1 h2] at this

/-! ### counts -/
theorem cnt_le (rs : List DRanking) (a : Nat) : ∀ k, cnt rs a k ≤ (k : Int) - (if a < k then 1 else 0)
  | 0 => by simp [cnt]
  | k + 1 => by
    have ih := cnt_le rs a k
    by_cases hk : a = k
    · subst hk
      rw [cnt_off (wins_self rs a), if_pos (Nat.lt_succ_self a)]
      rw [if_neg (Nat.lt_irrefl a)] at ih
      omega
    · have h1 := cnt_bd rs a k
      have e : (if a < k + 1 then (1 : Int) else 0) = if a < k then 1 else 0 := by
        by_cases h : a < k
        · rw [if_pos h, if_pos (by omega)]
        · rw [if_neg h, if_neg (by omega)]
      rw [e]
      have h2 : cnt rs a (k + 1) ≤ cnt rs a k + 1 := by simp only [cnt]; split <;> omega
      omega
theorem cnt_all {rs : List DRanking} {a : Nat} : ∀ {k : Nat}, cnt rs a k = (k : Int) - (if a < k then 1 else 0) → ∀ b, b < k → b ≠ a → wins rs a b = true
  | 0, _, b, hb, _ => by omega
  | k + 1, h, b, hb, hne => by
    have ih := cnt_le rs a k
    by_cases hk : a = k
    · subst hk
      rw [cnt_off (wins_self rs a), if_pos (Nat.lt_succ_self a)] at h
      refine cnt_all (k := a) ?_ b (by omega) hne
      rw [if_neg (Nat.lt_irrefl a)]
      omega
    · have e : (if a < k + 1 then (1 : Int) else 0) = if a < k then 1 else 0 := by
        by_cases h : a < k
        · rw [if_pos h, if_pos (by omega)]
        · rw [if_neg h, if_neg (by omega)]
      rw [e] at h
      cases hw : wins rs a k with
      | false => rw [cnt_off hw] at h; omega
      | true =>
        rw [cnt_on hw] at h
        rcases Nat.lt_or_ge b k with hbk | hbk
        · exact cnt_all (k := k) (by omega) b hbk hne
        · obtain rfl : b = k := by omega
          exact hw
theorem cnt_win {rs : List DRanking} {a : Nat} : ∀ {k : Nat}, (∀ b, b < k → b ≠ a → wins rs a b = true) → cnt rs a k = (k : Int) - (if a < k then 1 else 0)
  | 0, _ => by simp [cnt]
  | k + 1, h => by
    have ih := cnt_win (k := k) (fun b hb => h b (by omega))
    by_cases hk : a = k
    · subst hk
      rw [cnt_off (wins_self rs a), if_pos (Nat.lt_succ_self a), ih, if_neg (Nat.lt_irrefl a)]
      omega
    · have e : (if a < k + 1 then (1 : Int) else 0) = if a < k then 1 else 0 := by
        by_cases h : a < k
        · rw [if_pos h, if_pos (by omega)]
        · rw [if_neg h, if_neg (by omega)]
      rw [cnt_on (h k (by omega) (fun e => hk e.symm)), e, ih]
      omega
/-- How many of the first k are outside a set. -/
def outN (m : Nat) : Nat → Int
  | 0 => 0
  | k + 1 => outN m k + (if m.testBit k then 0 else 1)
theorem cnt_inside {rs : List DRanking} {N m a : Nat} (h : domB rs N m = true) (ha : a < N) (h1 : m.testBit a = true) : ∀ k, k ≤ N → outN m k ≤ cnt rs a k
  | 0, _ => by simp [outN, cnt]
  | k + 1, hk => by
    have ih := cnt_inside h ha h1 k (by omega)
    simp only [outN, cnt]
    cases hb : m.testBit k with
    | true => simp only [if_true]; split <;> omega
    | false =>
      rw [if_pos (domB_wins h ha (show k < N by omega) h1 hb)]
      simp only [Bool.false_eq_true, if_false]
      omega
theorem cnt_outside {rs : List DRanking} {N m a : Nat} (h : domB rs N m = true) (ha : a < N) (h1 : m.testBit a = false) : ∀ k, k ≤ N → cnt rs a k ≤ outN m k - (if a < k then 1 else 0)
  | 0, _ => by simp [outN, cnt]
  | k + 1, hk => by
    have ih := cnt_outside h ha h1 k (by omega)
    simp only [outN]
    by_cases hka : a = k
    · subst hka
      rw [cnt_off (wins_self rs a), if_pos (Nat.lt_succ_self a), h1]
      rw [if_neg (Nat.lt_irrefl a)] at ih
      simp only [Bool.false_eq_true, if_false]
      omega
    · have e : (if a < k + 1 then (1 : Int) else 0) = if a < k then 1 else 0 := by
        by_cases h : a < k
        · rw [if_pos h, if_pos (by omega)]
        · rw [if_neg h, if_neg (by omega)]
      rw [e]
      cases hb : m.testBit k with
      | true =>
        rw [cnt_off (wins_asym (domB_wins h (show k < N by omega) ha hb h1))]
        simp only [if_true]
        omega
      | false =>
        simp only [cnt, Bool.false_eq_true, if_false]
        split <;> omega
theorem mem_winL {M : Int} {xs : List Int} {x : Int} : ∀ {k : Nat}, x ∈ winL M xs k ↔ ∃ i : Nat, i < k ∧ x = (i : Int) ∧ xs.getD i 0 = M
  | 0 => by simp [winL]
  | k + 1 => by
    simp only [winL, List.mem_append, mem_winL (k := k)]
    constructor
    · rintro (⟨i, h1, h2, h3⟩ | h)
      · exact ⟨i, by omega, h2, h3⟩
      · split at h
        · rename_i hc
          exact ⟨k, by omega, by simpa using h, by simpa using hc⟩
        · cases h
    · rintro ⟨i, h1, h2, h3⟩
      rcases Nat.lt_or_ge i k with h | h
      · exact .inl ⟨i, h, h2, h3⟩
      · obtain rfl : i = k := by omega
        refine .inr ?_
        rw [if_pos (by simpa using h3)]
        simpa using h2
theorem winL_one {M : Int} {xs : List Int} {a : Nat} : ∀ {k : Nat}, (∀ i, i < k → (xs.getD i 0 = M ↔ i = a)) → winL M xs k = if a < k then [(a : Int)] else []
  | 0, _ => by simp [winL]
  | k + 1, h => by
    have ih := winL_one (k := k) (fun i hi => h i (by omega))
    by_cases hk : k = a
    · subst hk
      rw [winL_on (by simpa using (h k (Nat.lt_succ_self k)).2 rfl), ih, if_neg (Nat.lt_irrefl k), if_pos (Nat.lt_succ_self k)]
      rfl
    · have h1 : ¬ xs.getD k 0 = M := fun e => hk ((h k (Nat.lt_succ_self k)).1 e)
      rw [winL_off (by simpa using h1), ih]
      by_cases h2 : a < k
      · rw [if_pos h2, if_pos (by omega)]
      · rw [if_neg h2, if_neg (by omega)]
theorem beatsL_get {N : Nat} {rs : List DRanking} {a : Nat} (h : a < N) : (beatsL N rs).getD a 0 = cnt rs a N := tab_getD h
theorem pc_sub {m : Nat} : ∀ {N : Nat}, ∀ {a b : Nat}, a < b → b < N → m.testBit a = true → m.testBit b = true → 2 ≤ pc N m
  | 0, a, b, _, h, _, _ => by omega
  | N + 1, a, b, hab, hb, h1, h2 => by
    unfold pc
    simp only [pickL]
    rcases Nat.lt_or_ge b N with h | h
    · have := pc_sub hab h h1 h2
      unfold pc at this
      split
      · simp; omega
      · exact this
    · obtain rfl : b = N := by omega
      rw [if_pos h2]
      have : 0 < (pickL m b).length := List.length_pos_of_mem (mem_pickL.2 ⟨a, hab, h1, rfl⟩)
      simp; omega
theorem pickL_single : ∀ {N a : Nat}, a < N → pickL (2 ^ a) N = [(a : Int)]
  | 0, a, h => by omega
  | N + 1, a, h => by
    simp only [pickL]
    rcases Nat.lt_or_ge a N with h1 | h1
    · rw [pickL_single h1, if_neg]
      rw [Nat.testBit_two_pow]
      simp; omega
    · obtain rfl : a = N := by omega
      rw [if_pos (by rw [Nat.testBit_two_pow]; simp)]
      have : pickL (2 ^ a) a = [] := by
        cases hp : pickL (2 ^ a) a with
        | nil => rfl
        | cons x r =>
          have hx : x ∈ pickL (2 ^ a) a := by rw [hp]; exact List.mem_cons_self
          obtain ⟨i, hi, h2, _⟩ := mem_pickL.1 hx
          rw [Nat.testBit_two_pow] at h2
          simp at h2; omega
      rw [this]; rfl
/-- A Condorcet winner. -/
theorem condV_win {n : Int} {rs : List DRanking} (h : (condV n rs).2 = true) : ∃ N a : Nat, n = N ∧ 1 ≤ N ∧ electOk n rs = true ∧ (condV n rs).1 = (a : Int) ∧ a < N ∧ ∀ b, b < N → b ≠ a → wins rs a b = true := by
  unfold condV at h
  split at h
  · rename_i hok
    split at h
    · cases h
    · rename_i hi
      obtain ⟨N, rfl, hN1, _⟩ := electOk_parts hok
      have hb : hasB (beatsL N rs) ((N : Int) - 1) = true := by
        cases hc : hasB (beatsL N rs) ((N : Int) - 1) with
        | true => rfl
        | false => exact absurd (idx_none hc) hi
      obtain ⟨a, ha, h1, h2⟩ := idx_spec hb
      have haN : a < N := by rw [beatsL_len] at ha; exact ha
      refine ⟨N, a, rfl, hN1, hok, ?_, haN, ?_⟩
      · unfold condV
        rw [if_pos hok, if_neg hi]
        exact h1
      · have h3 : cnt rs a N = (N : Int) - (if a < N then 1 else 0) := by
          rw [if_pos haN, ← beatsL_get haN, List.getD_eq_getElem?_getD, List.getElem?_eq_getElem ha]
          exact h2
        exact cnt_all h3
  · cases h
theorem condV_of {N a : Nat} {rs : List DRanking} (hok : electOk N rs = true) (ha : a < N) (h : ∀ b, b < N → b ≠ a → wins rs a b = true) : (condV N rs).2 = true := by
  have h1 := cnt_win (k := N) h
  rw [if_pos ha] at h1
  have hb : hasB (beatsL N rs) ((N : Int) - 1) = true := by
    rw [hasB_iff]
    have h2 : (beatsL N rs).getD a 0 = (N : Int) - 1 := by rw [beatsL_get ha, h1]
    rw [← h2]
    exact getD_memy (by rw [beatsL_len]; exact ha)
  obtain ⟨i, hi, h3, _⟩ := idx_spec hb
  unfold condV
  rw [if_pos hok, if_neg (by simp only [Int.toNat_natCast]; rw [h3]; omega)]
/-- The first third of the law. -/
theorem dom_cond {n : Int} {rs : List DRanking} (hok : electOk n rs = true) : (condV n rs).2 = decide ((domV n rs).1.length = 1) ∧ ((condV n rs).2 = true → (domV n rs).1 = [(condV n rs).1]) := by
  obtain ⟨N, rfl, hN1, hN5, _⟩ := electOk_parts hok
  have hD := domM_ok rs hN1 (2 ^ N)
  have hlt := domM_lt rs N (2 ^ N) (Nat.le_refl _)
  have hV : domV N rs = (pickL (domM rs N (2 ^ N)) N, true) := by unfold domV; rw [if_pos hok]; rfl
  have hone : (condV N rs).2 = true → (domV N rs).1 = [(condV N rs).1] := by
    intro hc
    obtain ⟨N', a, he, _, _, h1, ha, hw⟩ := condV_win hc
    obtain rfl : N = N' := by omega
    rw [h1, hV]
    have hda : domB rs N (2 ^ a) = true := by
      simp only [domB, List.all_eq_true, List.mem_range, okRow]
      intro x hx y hy
      cases hxb : (2 ^ a).testBit x with
      | false => exact okAB_off hxb
      | true =>
        cases hyb : (2 ^ a).testBit y with
        | true => exact okAB_in hyb
        | false =>
          rw [okAB_on hxb hyb]
          rw [Nat.testBit_two_pow] at hxb hyb
          obtain rfl : a = x := by simpa using hxb
          exact hw y hy (fun e => by simp [e] at hyb)
    have hp1 : 1 ≤ 2 ^ a := Nat.one_le_two_pow
    have hpl : 2 ^ a < 2 ^ N := Nat.pow_lt_pow_right (by omega) ha
    have hmin := domM_min rs N (2 ^ N) (2 ^ a) hpl hp1 hda
    have hpc : pc N (2 ^ a) = 1 := by unfold pc; rw [pickL_single ha]; rfl
    rw [hpc] at hmin
    -- the winner is in each dominant set
    have hin : (domM rs N (2 ^ N)).testBit a = true := by
      cases hb : (domM rs N (2 ^ N)).testBit a with
      | true => rfl
      | false =>
        obtain ⟨i, hi⟩ : ∃ i, (domM rs N (2 ^ N)).testBit i = true := by
          refine Nat.exists_testBit_of_ne_zero ?_
          omega
        have hiN : i < N := by
          rcases Nat.lt_or_ge i N with h | h
          · exact h
          · have h9 := Nat.testBit_lt_two_pow (Nat.lt_of_lt_of_le hlt (Nat.pow_le_pow_right (n := 2) (by omega) h))
            rw [h9] at hi; cases hi
        have h2 := domB_wins hD.1 hiN ha hi hb
        have h3 := hw i hiN (fun e => by rw [e, hb] at hi; cases hi)
        rw [wins_asym h3] at h2; cases h2
    have hmem : (a : Int) ∈ pickL (domM rs N (2 ^ N)) N := mem_pickL.2 ⟨a, ha, hin, rfl⟩
    unfold pc at hmin
    show pickL (domM rs N (2 ^ N)) N = _
    generalize pickL (domM rs N (2 ^ N)) N = l at *
    match l, hmin, hmem with
    | [x], _, hm => rw [List.mem_singleton.1 hm]
  refine ⟨?_, hone⟩
  cases hc : (condV N rs).2 with
  | true => rw [hone hc]; rfl
  | false =>
    symm
    rw [decide_eq_false_iff_not, hV]
    intro hl
    have hl' : (pickL (domM rs N (2 ^ N)) N).length = 1 := hl
    obtain ⟨x, hx⟩ : ∃ x, pickL (domM rs N (2 ^ N)) N = [x] := by
      generalize pickL (domM rs N (2 ^ N)) N = l at hl'
      match l, hl' with
      | [x], _ => exact ⟨x, rfl⟩
    have hm : x ∈ pickL (domM rs N (2 ^ N)) N := by rw [hx]; exact List.mem_cons_self
    obtain ⟨a, ha, hab, rfl⟩ := mem_pickL.1 hm
    have := condV_of hok ha (fun b hb hne => by
      cases hbb : (domM rs N (2 ^ N)).testBit b with
      | false => exact domB_wins hD.1 ha hb hab hbb
      | true =>
        have h5 : (b : Int) ∈ pickL (domM rs N (2 ^ N)) N := mem_pickL.2 ⟨b, hb, hbb, rfl⟩
        rw [hx] at h5
        have := List.mem_singleton.1 h5
        omega)
    rw [hc] at this; cases this
/-- Copeland's winners lie in the dominant set; a Condorcet winner is the only one. -/
theorem cope_dom {n : Int} {rs : List DRanking} (hok : electOk n rs = true) : (∀ x ∈ (copeV n rs).1, hasB (domV n rs).1 x = true) ∧ ((condV n rs).2 = true → (copeV n rs).1 = [(condV n rs).1]) := by
  obtain ⟨N, rfl, hN1, hN5, _⟩ := electOk_parts hok
  have hV : domV N rs = (pickL (domM rs N (2 ^ N)) N, true) := by unfold domV; rw [if_pos hok]; rfl
  have hC : copeV N rs = (winL (mxK (beatsL N rs) N) (beatsL N rs) N, true) := by unfold copeV best; rw [if_pos hok]; simp only [Int.toNat_natCast, beatsL_len]
  have hge := mxK_ge (beatsL N rs) N (by rw [beatsL_len]; exact Nat.le_refl _)
  have hD := domM_ok rs hN1 (2 ^ N)
  have hlt := domM_lt rs N (2 ^ N) (Nat.le_refl _)
  constructor
  · intro x hx
    rw [hC] at hx
    obtain ⟨i, hi, rfl, hi2⟩ := mem_winL.1 hx
    rw [hV]
    show hasB (pickL _ N) (i : Int) = true
    rw [has_pickL hi]
    cases hb : (domM rs N (2 ^ N)).testBit i with
    | true => rfl
    | false =>
      obtain ⟨s, hs⟩ : ∃ s, (domM rs N (2 ^ N)).testBit s = true := Nat.exists_testBit_of_ne_zero (by omega)
      have hsN : s < N := by
        rcases Nat.lt_or_ge s N with h | h
        · exact h
        · have h9 := Nat.testBit_lt_two_pow (Nat.lt_of_lt_of_le hlt (Nat.pow_le_pow_right (n := 2) (by omega) h))
          rw [h9] at hs; cases hs
      have h1 := cnt_inside hD.1 hsN hs N (Nat.le_refl _)
      have h2 := cnt_outside hD.1 hi hb N (Nat.le_refl _)
      rw [if_pos hi] at h2
      have h3 := hge s hsN
      rw [beatsL_get hsN] at h3
      rw [beatsL_get hi] at hi2
      omega
  · intro hc
    obtain ⟨N', a, he, _, _, h1, ha, hw⟩ := condV_win hc
    obtain rfl : N = N' := by omega
    have h2 := cnt_win (k := N) hw
    rw [if_pos ha] at h2
    have hoth : ∀ i, i < N → i ≠ a → cnt rs i N < (N : Int) - 1 := by
      intro i hi hne
      have h3 := cnt_le rs i N
      rw [if_pos hi] at h3
      rcases Int.lt_or_eq_of_le h3 with h4 | h4
      · exact h4
      · have h5 := cnt_all (k := N) (by rw [if_pos hi]; exact h4) a ha (fun e => hne e.symm)
        rw [wins_asym (hw i hi hne)] at h5; cases h5
    have hmx : mxK (beatsL N rs) N = (N : Int) - 1 := by
      have h3 := hge a ha
      rw [beatsL_get ha, h2] at h3
      obtain ⟨j, hj, hj2⟩ := List.mem_iff_getElem.1 (mxK_mem (beatsL N rs) N (by rw [beatsL_len]; omega) (by rw [beatsL_len]; exact Nat.le_refl _))
      have hjN : j < N := by rw [beatsL_len] at hj; exact hj
      have h4 : (beatsL N rs).getD j 0 = mxK (beatsL N rs) N := by rw [← hj2]; exact getD_eqy hj
      rw [beatsL_get hjN] at h4
      by_cases hja : j = a
      · subst hja; omega
      · have := hoth j hjN hja; omega
    rw [hC, h1]
    show winL _ _ N = _
    rw [winL_one (a := a), if_pos ha]
    intro i hi
    rw [beatsL_get hi, hmx]
    constructor
    · intro e
      by_cases hia : i = a
      · exact hia
      · have := hoth i hi hia; omega
    · intro e; subst e; exact h2

theorem domV_ok (n : Int) (rs : List DRanking) : (domV n rs).2 = electOk n rs := by
  unfold domV
  split
  · rename_i h; exact h.symm
  · rename_i h; simp at h; exact h.symm
theorem copeV_ok (n : Int) (rs : List DRanking) : (copeV n rs).2 = electOk n rs := by
  unfold copeV
  split
  · rename_i h; exact h.symm
  · rename_i h; simp at h; exact h.symm
theorem bordaV_ok (n : Int) (rs : List DRanking) : (bordaV n rs).2 = electOk n rs := by
  unfold bordaV
  split
  · rename_i h; exact h.symm
  · rename_i h; simp at h; exact h.symm
theorem RanksAt.get2 {w : World} {ao : Option Addr} {cap : Nat} {rs : List DRanking} (h : RanksAt w (.slice ao rs.length cap) rs) {k : Nat} (hk : k < rs.length) :
    ∃ b off u, ao = some ⟨b, off, none⟩ ∧ b < w.heap.size ∧ IntsAt w u rs[k].order ∧ w.cell? ⟨b, off + k * 2, none⟩ = some u ∧ w.cell? ⟨b, off + k * 2 + 1, none⟩ = some (.int .i64 rs[k].weight) := by
  obtain ⟨b, off, u, h1, h2, h3, h4⟩ := NestAt.get (f := rcell) (fun _ _ => rfl) h hk
  exact ⟨b, off, u, h1, h2, h3, h4 0 (by omega), h4 1 (by omega)⟩

/-! ### moving up, and scores -/
/-- What the first k places of a ranking give to c. -/
def scK (N : Nat) (r : DRanking) (c : Int) : Nat → Int
  | 0 => 0
  | k + 1 => scK N r c k + (if r.order.getD k 0 = c then r.weight * ((N : Int) - 1 - k) else 0)
theorem scK_one {N p : Nat} {r : DRanking} {c : Int} : ∀ {k : Nat}, (∀ j, j < k → (r.order.getD j 0 = c ↔ j = p)) → scK N r c k = if p < k then r.weight * ((N : Int) - 1 - p) else 0
  | 0, _ => by simp [scK]
  | k + 1, h => by
    have ih := scK_one (N := N) (p := p) (k := k) (fun j hj => h j (by omega))
    simp only [scK]
    by_cases hk : k = p
    · subst hk
      rw [if_pos ((h k (Nat.lt_succ_self k)).2 rfl), ih, if_neg (Nat.lt_irrefl k), if_pos (Nat.lt_succ_self k)]
      omega
    · rw [if_neg (fun e => hk ((h k (Nat.lt_succ_self k)).1 e)), ih]
      by_cases h2 : p < k
      · rw [if_pos h2, if_pos (by omega)]; omega
      · rw [if_neg h2, if_neg (by omega)]; omega
theorem bRow_get {N : Nat} {r : DRanking} {acc : List Int} (hl : acc.length = N) (ho : r.order.length = N) (hx : ∀ x ∈ r.order, 0 ≤ x ∧ x < N) {c : Nat} : ∀ k, k ≤ N → (bRow N r acc k).getD c 0 = acc.getD c 0 + scK N r c k
  | 0, _ => by simp [bRow, scK]
  | k + 1, hk => by
    have ih := bRow_get hl ho hx (c := c) k (by omega)
    have hb := hx _ (List.getElem_mem (show k < r.order.length by omega))
    obtain ⟨m, hm⟩ : ∃ m : Nat, r.order[k]'(by omega) = (m : Int) := ⟨(r.order[k]'(by omega)).toNat, by omega⟩
    rw [hm] at hb
    rw [bRow_at (by omega) hm]
    simp only [scK]
    rw [getD_eqy (show k < r.order.length by omega), hm]
    by_cases hc : c = m
    · subst hc
      rw [if_pos rfl, List.getD_eq_getElem?_getD, List.getElem?_set_self (by rw [bRow_len]; omega)]
      simp only [Option.getD_some]
      rw [ih]
      omega
    · rw [if_neg (by omega), List.getD_eq_getElem?_getD, List.getElem?_set_ne (fun e => hc e.symm), ← List.getD_eq_getElem?_getD, ih]
      omega
theorem triK {N : Nat} {r : DRanking} {acc : List Int} (hl : acc.length = N) (ho : r.order.length = N) (hx : ∀ x ∈ r.order, 0 ≤ x ∧ x < N) : ∀ k, k ≤ N → (bRow N r acc k).sum = acc.sum + r.weight * (k * ((N : Int) - 1)) - r.weight * (((List.range k).map (fun j : Nat => (j : Int))).sum)
  | 0, _ => by simp [bRow]
  | k + 1, hk => by
    have ih := triK hl ho hx k (by omega)
    have hb := hx _ (List.getElem_mem (show k < r.order.length by omega))
    obtain ⟨m, hm⟩ : ∃ m : Nat, r.order[k]'(by omega) = (m : Int) := ⟨(r.order[k]'(by omega)).toNat, by omega⟩
    rw [hm] at hb
    rw [bRow_at (by omega) hm, sum_set (by rw [bRow_len]; omega), ih, List.range_succ, List.map_append, List.sum_append]
    simp only [List.map_cons, List.map_nil, List.sum_cons, List.sum_nil, Int.natCast_add, Int.cast_ofNat_Int, Int.add_mul, Int.mul_add, Int.mul_sub, Int.one_mul, Int.mul_one, Int.add_zero]
    omega
/-- All of a list of rankings that are in order. -/
def Fits (N : Nat) (rs : List DRanking) : Prop := ∀ r ∈ rs, r.order.length = N ∧ ∀ x ∈ r.order, 0 ≤ x ∧ x < N
theorem bAll_get {N : Nat} {rs : List DRanking} (h : Fits N rs) {c : Nat} : ∀ i, i ≤ rs.length → (bAll N rs i).getD c 0 = ((rs.take i).map (fun r => scK N r c N)).sum
  | 0, _ => by
    simp only [bAll, List.getD_eq_getElem?_getD, List.getElem?_replicate]
    split <;> rfl
  | i + 1, hi => by
    have hf := h _ (List.getElem_mem (show i < rs.length by omega))
    rw [bAll_at (by omega), bRow_get (bAll_len _ _ _) hf.1 hf.2 N (Nat.le_refl _), bAll_get h i (by omega), take_at (by omega), List.map_append, List.sum_append]
    simp
theorem bAll_sum {N : Nat} {rs : List DRanking} (h : Fits N rs) : ∀ i, i ≤ rs.length → (bAll N rs i).sum = ((rs.take i).map (fun r => r.weight * (N * ((N : Int) - 1)) - r.weight * (((List.range N).map (fun j : Nat => (j : Int))).sum))).sum
  | 0, _ => by simp [bAll, sum_zero]
  | i + 1, hi => by
    have hf := h _ (List.getElem_mem (show i < rs.length by omega))
    rw [bAll_at (by omega), triK (bAll_len _ _ _) hf.1 hf.2 N (Nat.le_refl _), bAll_sum h i (by omega), take_at (by omega), List.map_append, List.sum_append]
    simp only [List.map_cons, List.map_nil, List.sum_cons, List.sum_nil]
    omega
/-- Where a place's candidate was before the change. -/
def sig (p i : Nat) : Nat := if i = p - 1 then p else if i = p then p - 1 else i
theorem sig_inj {p i j : Nat} (hp : 1 ≤ p) (h : sig p i = sig p j) : i = j := by
  unfold sig at h
  split at h <;> split at h <;> (try split at h) <;> (try split at h) <;> omega
theorem sig_lt {p i n : Nat} (hp : 1 ≤ p) (hpn : p < n) (hi : i < n) : sig p i < n := by
  unfold sig
  split
  · exact hpn
  · split <;> omega
theorem swap_get {o : List Int} {p : Nat} (hp : 1 ≤ p) (hl : p < o.length) {i : Nat} (hi : i < o.length) : (swapAt o p).getD i 0 = o.getD (sig p i) 0 := by
  unfold swapAt sig
  rw [List.getD_eq_getElem?_getD, List.getElem?_set]
  by_cases h1 : i = p - 1
  · rw [if_neg (by omega), if_pos h1, List.getElem?_set, if_pos (by omega), if_pos (by omega)]
    rfl
  · rw [if_neg h1]
    by_cases h2 : i = p
    · rw [if_pos h2.symm, if_pos (by simpa using hl), if_pos h2]
      rfl
    · rw [if_neg (fun e => h2 e.symm), if_neg h2, List.getElem?_set_ne (fun e => h1 e.symm), ← List.getD_eq_getElem?_getD]
theorem permF_of {n : Int} : ∀ {xs pre : List Int}, xs.Nodup → (∀ x ∈ xs, inB x 0 (n - 1) = true) → (∀ x ∈ xs, x ∉ pre) → permF n pre xs = true
  | [], pre, _, _, _ => rfl
  | a :: r, pre, h1, h2, h3 => by
    obtain ⟨h4, h5⟩ := List.nodup_cons.1 h1
    simp only [permF, Bool.and_eq_true, Bool.not_eq_true']
    refine ⟨⟨h2 a List.mem_cons_self, by simpa [hasB] using h3 a List.mem_cons_self⟩, permF_of h5 (fun x hx => h2 x (List.mem_cons_of_mem _ hx)) (fun x hx => ?_)⟩
    rw [List.mem_append, List.mem_singleton]
    rintro (h6 | h6)
    · exact h3 x (List.mem_cons_of_mem _ hx) h6
    · subst h6; exact h4 hx
theorem swap_perm {N p : Nat} {o : List Int} (hp : 1 ≤ p) (hl : p < o.length) (h : permOk N o = true) : permOk N (swapAt o p) = true := by
  simp only [permOk, Bool.and_eq_true, decide_eq_true_eq] at h ⊢
  obtain ⟨h1, h2⟩ := h
  have h3 := (permF_nodup h2).1
  have h4 := permF_mem h2
  refine ⟨by rw [swapAt_len]; exact h1, permF_of ?_ ?_ (fun x _ => by simp)⟩
  · unfold List.Nodup
    rw [List.pairwise_iff_getElem]
    intro i j hi hj hij
    rw [swapAt_len] at hi hj
    have e1 := swap_get hp hl hi
    have e2 := swap_get hp hl hj
    rw [getD_eqy (by rw [swapAt_len]; exact hi), getD_eqy (sig_lt hp hl hi)] at e1
    rw [getD_eqy (by rw [swapAt_len]; exact hj), getD_eqy (sig_lt hp hl hj)] at e2
    rw [e1, e2]
    intro e
    have hne : sig p i ≠ sig p j := fun e => by have := sig_inj hp e; omega
    unfold List.Nodup at h3
    rw [List.pairwise_iff_getElem] at h3
    rcases Nat.lt_or_gt_of_ne hne with h5 | h5
    · exact h3 _ _ (sig_lt hp hl hi) (sig_lt hp hl hj) h5 e
    · exact h3 _ _ (sig_lt hp hl hj) (sig_lt hp hl hi) h5 e.symm
  · intro x hx
    obtain ⟨i, hi, rfl⟩ := List.mem_iff_getElem.1 hx
    rw [swapAt_len] at hi
    have e1 := swap_get hp hl hi
    rw [getD_eqy (by rw [swapAt_len]; exact hi), getD_eqy (sig_lt hp hl hi)] at e1
    rw [e1]
    exact h4 _ (List.getElem_mem _)
/-- The last third of the law. -/
theorem move_borda {n : Int} {rs : List DRanking} {v c : Int} (h : (moveV n rs v c).2 = true) : ∃ k : Nat, ∃ hk : k < rs.length, v = (k : Int) ∧ 0 ≤ c ∧ c < n ∧ electOk n rs = true ∧ electOk n (moveV n rs v c).1 = true ∧ (bordaV n rs).1.length = n ∧ (bordaV n (moveV n rs v c).1).1.length = n ∧
    (bordaV n (moveV n rs v c).1).1.getD c.toNat 0 = (bordaV n rs).1.getD c.toNat 0 + rs[k].weight ∧ (bordaV n (moveV n rs v c).1).1.sum = (bordaV n rs).1.sum ∧ (∀ x ∈ (bordaV n rs).1, 0 ≤ x ∧ x ≤ 18000) ∧ (∀ x ∈ (bordaV n (moveV n rs v c).1).1, 0 ≤ x ∧ x ≤ 18000) ∧ 1 ≤ rs[k].weight ∧ rs[k].weight ≤ 100 := by
  cases hok : electOk n rs with
  | false => simp [moveV, hok] at h
  | true =>
    cases hin : inB v 0 ((rs.length : Int) - 1) with
    | false => simp [moveV, hin] at h
    | true =>
      have hv := inB_iff.1 hin
      obtain ⟨k, rfl⟩ : ∃ k : Nat, v = k := ⟨v.toNat, by omega⟩
      have hk : k < rs.length := by omega
      rw [moveV_at hk hok hin] at h ⊢
      split at h
      case isFalse => cases h
      case isTrue h1 =>
        rw [if_pos h1]
        obtain ⟨N, rfl, hN1, hN5, hl1, hl9, hall⟩ := electOk_parts hok
        have hperm := elect_perm hok _ (List.getElem_mem hk)
        have hkk := hall _ (List.getElem_mem hk)
        obtain ⟨pf1, pf2⟩ := posR_facts hperm c
        have hcin : inB c 0 ((N : Int) - 1) = true := by
          cases hc : inB c 0 ((N : Int) - 1) with
          | true => rfl
          | false => have := pf1 hc; omega
        obtain ⟨j, hj, hj1, hj2, hj3⟩ := pf2 hcin
        have hc := inB_iff.1 hcin
        rw [hj1] at h1 ⊢
        obtain ⟨cn, rfl⟩ : ∃ cn : Nat, c = cn := ⟨c.toNat, by omega⟩
        simp only [Int.toNat_natCast]
        have hp1 : 1 ≤ j := by omega
        have hp2 := swap_perm hp1 hj hperm
        have hw := hkk.2.2
        have hfit : Fits N rs := fun r hr => ⟨(hall r hr).1, (hall r hr).2.1⟩
        have hall' : ∀ r ∈ rs.set k ⟨swapAt rs[k].order j, rs[k].weight⟩, permOk N r.order = true ∧ inB r.weight 1 100 = true := by
          intro r hr
          rcases List.mem_or_eq_of_mem_set hr with h2 | h2
          · have := hall r h2
            exact ⟨elect_perm hok r h2, inB_iff.2 this.2.2⟩
          · subst h2
            exact ⟨hp2, inB_iff.2 hw⟩
        have hok' : electOk N (rs.set k ⟨swapAt rs[k].order j, rs[k].weight⟩) = true := by
          simp only [electOk, Bool.and_eq_true, List.all_eq_true] at hok ⊢
          refine ⟨⟨hok.1.1, by rw [List.length_set]; exact hok.1.2⟩, fun r hr => ?_⟩
          simp only [rankOk, Bool.and_eq_true]
          exact hall' r hr
        obtain ⟨N', he', _, _, _, _, hallp⟩ := electOk_parts hok'
        obtain rfl : N = N' := by omega
        have hfit' : Fits N (rs.set k ⟨swapAt rs[k].order j, rs[k].weight⟩) := fun r hr => ⟨(hallp r hr).1, (hallp r hr).2.1⟩
        have b1 : bordaV N rs = (bAll N rs rs.length, true) := by unfold bordaV; rw [if_pos hok]; rfl
        have b2 : bordaV N (rs.set k ⟨swapAt rs[k].order j, rs[k].weight⟩) = (bAll N (rs.set k ⟨swapAt rs[k].order j, rs[k].weight⟩) (rs.set k ⟨swapAt rs[k].order j, rs[k].weight⟩).length, true) := by unfold bordaV; rw [if_pos hok']; rfl
        rw [b1, b2]
        have hbd1 := bAll_bd (fun r hr => (hall r hr).2.2) hN5 rs.length
        have hbd2 := bAll_bd (rs := rs.set k ⟨swapAt rs[k].order j, rs[k].weight⟩) (fun r hr => inB_iff.1 (hall' r hr).2) hN5 rs.length
        have hjN : j < N := by rw [← hkk.1]; exact hj
        refine ⟨k, hk, rfl, hc.1, by omega, (by first | exact hok | trivial), hok', by simp, by simp, ?_, ?_, fun x hx => by have := hbd1 x hx; omega, fun x hx => by rw [List.length_set] at hx; have := hbd2 x hx; omega, hw.1, hw.2⟩
        · have g1 := bAll_get hfit (c := cn) rs.length (Nat.le_refl _)
          have g2 := bAll_get hfit' (c := cn) (rs.set k ⟨swapAt rs[k].order j, rs[k].weight⟩).length (Nat.le_refl _)
          rw [List.take_length] at g1 g2
          show (bAll _ _ _).getD _ _ = (bAll _ _ _).getD _ _ + _
          rw [g1, g2, List.map_set, sum_set (by simpa using hk)]
          have e1 : (rs.map (fun r => scK N r cn N)).getD k 0 = scK N rs[k] cn N := by
            rw [getD_eqy (by simpa using hk), List.getElem_map]
          rw [e1]
          have s1 : scK N rs[k] cn N = rs[k].weight * ((N : Int) - 1 - j) := by
            rw [scK_one (p := j), if_pos hjN]
            intro i hi
            have hil : i < rs[k].order.length := by rw [hkk.1]; exact hi
            rw [getD_eqy hil]
            constructor
            · intro e
              by_cases hij : i = j
              · exact hij
              · exact absurd e (hj3 i hil hij)
            · intro e; subst e; exact hj2
          have s2 : scK N ⟨swapAt rs[k].order j, rs[k].weight⟩ cn N = rs[k].weight * ((N : Int) - 1 - ((j - 1 : Nat) : Int)) := by
            rw [scK_one (p := j - 1), if_pos (by omega)]
            intro i hi
            have hil : i < rs[k].order.length := by rw [hkk.1]; exact hi
            show (swapAt rs[k].order j).getD i 0 = (cn : Int) ↔ _
            rw [swap_get hp1 hj hil, getD_eqy (sig_lt hp1 hj hil)]
            constructor
            · intro e
              by_cases hij : sig j i = j
              · unfold sig at hij
                split at hij
                · assumption
                · split at hij <;> omega
              · exact absurd e (hj3 _ (sig_lt hp1 hj hil) hij)
            · intro e
              have hs : sig j i = j := by unfold sig; rw [if_pos e]
              simp only [hs]
              exact hj2
          rw [s1, s2]
          have e3 : ((j - 1 : Nat) : Int) = (j : Int) - 1 := by omega
          rw [e3]
          have e4 : (N : Int) - 1 - ((j : Int) - 1) = ((N : Int) - 1 - j) + 1 := by omega
          rw [e4, Int.mul_add, Int.mul_one]
          omega
        · have g1 := bAll_sum hfit rs.length (Nat.le_refl _)
          have g2 := bAll_sum hfit' (rs.set k ⟨swapAt rs[k].order j, rs[k].weight⟩).length (Nat.le_refl _)
          rw [List.take_length] at g1 g2
          show (bAll _ _ _).sum = (bAll _ _ _).sum
          rw [g1, g2, List.map_set, sum_set (by simpa using hk), getD_eqy (by simpa using hk), List.getElem_map]
          dsimp only
          omega

end Go.Proofs.Ytfonpkegaeebaaa
