/- Plain: what is left at the end of a runoff. Of no program. No conditions. -/
import Derived.Test.YtgjgdephpliolaaRunL
import Derived.Test.YtgjgdephpliolaaRankX
namespace Go.Proofs.Ytgjgdephpliolaa
open Go.RowKit
set_option linter.unusedVariables false
set_option linter.unusedSimpArgs false

/-- The candidates that are not out. -/
def leftL (N : Nat) (out : List Int) : List Int := (upFrom 0 N).filter (fun x => !hasB out x)
theorem erase_filter : ∀ {l : List Int} {k : Nat} (hk : k < l.length), l.Nodup → l.eraseIdx k = l.filter (fun x => !(x == l[k]))
  | [], k, hk, _ => by simp at hk
  | a :: r, 0, hk, hn => by
    obtain ⟨h1, h2⟩ := List.nodup_cons.1 hn
    simp only [List.eraseIdx_cons_zero, List.getElem_cons_zero]
    rw [List.filter_cons_of_neg (by simp), List.filter_eq_self.2]
    intro x hx
    have : x ≠ a := fun e => h1 (e ▸ hx)
    simp [this]
  | a :: r, k + 1, hk, hn => by
    obtain ⟨h1, h2⟩ := List.nodup_cons.1 hn
    have hk' : k < r.length := by simpa using hk
    simp only [List.eraseIdx_cons_succ, List.getElem_cons_succ]
    have hne : a ≠ r[k] := fun e => h1 (e ▸ List.getElem_mem hk')
    rw [List.filter_cons_of_pos (by simpa using hne), erase_filter hk' h2]
theorem run_spec {N : Nat} {rs : List DRanking} (hr : ∀ r ∈ rs, permOk N r.order = true ∧ 1 ≤ r.weight ∧ r.weight ≤ 100) (h1 : 1 ≤ rs.length) : ∀ (f : Nat) (am out : List Int), Left N am → am.length ≤ f → am = leftL N out →
    ∃ am' k, ∃ hk : k < am'.length, Left N am' ∧ am' = leftL N (runIt rs f am out).2 ∧ majI (totW rs) (fAll am' rs rs.length) = some k ∧ (runIt rs f am out).1 = am'[k]
  | 0, am, out, hL, hf, _ => by have := hL.2.2; omega
  | f + 1, am, out, hL, hf, he => by
    cases hm : majI (totW rs) (fAll am rs rs.length) with
    | some k =>
      obtain ⟨hk, _⟩ := majI_spec hm
      rw [fAll_len] at hk
      refine ⟨am, k, hk, hL, ?_, hm, ?_⟩
      · rw [runIt_win hm]; exact he
      · rw [runIt_win hm, List.getD_eq_getElem?_getD, List.getElem?_eq_getElem hk]; rfl
    | none =>
      have h2 := run_last hL hr h1 hm
      rw [runIt_on hm]
      have hlt := leastI_lt (fAll am rs rs.length) am.length (by rw [fAll_len]; omega) (by rw [fAll_len]; exact Nat.le_refl _)
      rw [fAll_len] at hlt
      generalize leastI (fAll am rs rs.length) am.length = k at *
      have hk : am.getD k 0 = am[k] := by rw [List.getD_eq_getElem?_getD, List.getElem?_eq_getElem hlt]; rfl
      rw [hk]
      refine run_spec hr h1 f _ _ (hL.erase h2 hlt) (by rw [List.length_eraseIdx, if_pos hlt]; omega) ?_
      rw [erase_filter hlt (pw_nodup hL.1)]
      generalize am[k] = y
      rw [he]
      unfold leftL
      rw [List.filter_filter]
      congr 1
      funext x
      simp only [hasB, List.contains_append, List.contains_cons, List.contains_nil, Bool.or_false, Bool.not_or]
      rw [Bool.and_comm]
theorem ris_of {lo hi : Int} : ∀ {xs : List Int} {p : Option Int}, xs.Pairwise (· < ·) → (∀ x ∈ xs, lo ≤ x ∧ x ≤ hi) → (∀ y, p = some y → ∀ x ∈ xs, y < x) → risB lo hi p xs = true
  | [], p, _, _, _ => by simp [risB]
  | a :: r, p, h1, h2, h3 => by
    obtain ⟨h4, h5⟩ := List.pairwise_cons.1 h1
    simp only [risB, Bool.and_eq_true]
    refine ⟨⟨inB_iff.2 (h2 a List.mem_cons_self), ?_⟩, ris_of h5 (fun x hx => h2 x (List.mem_cons_of_mem _ hx)) (fun y hy x hx => by cases hy; exact h4 x hx)⟩
    cases p with
    | none => rfl
    | some y => simpa using h3 y rfl a List.mem_cons_self
/-- The end of a runoff. -/
theorem runV_end {n : Int} {rs : List DRanking} (h : electOk n rs = true) : ∃ (N k : Nat), n = N ∧ 1 ≤ N ∧ N ≤ 5 ∧ (runV n rs).2.1.length ≤ 5 ∧ Left N (leftL N (runV n rs).2.1) ∧ ∃ hk : k < (leftL N (runV n rs).2.1).length,
    (leftL N (runV n rs).2.1)[k] = (runV n rs).1 ∧ firstV n rs (leftL N (runV n rs).2.1) = (fAll (leftL N (runV n rs).2.1) rs rs.length, true) ∧ hasB (runV n rs).2.1 (runV n rs).1 = false ∧
    (∀ x ∈ fAll (leftL N (runV n rs).2.1) rs rs.length, 0 ≤ x ∧ x ≤ 900) ∧ (∀ i (hi : i < (leftL N (runV n rs).2.1).length), decide ((fAll (leftL N (runV n rs).2.1) rs rs.length).sum < 2 * (fAll (leftL N (runV n rs).2.1) rs rs.length).getD i 0) = ((leftL N (runV n rs).2.1)[i] == (runV n rs).1)) := by
  obtain ⟨N, rfl, hN1, hN5, h9, hr, _⟩ := elect_facts h
  have hrl : 1 ≤ rs.length := by
    simp only [electOk, Bool.and_eq_true, inB_iff] at h
    omega
  have h' := h
  have hV : runV N rs = ((runIt rs N (upFrom 0 N) []).1, (runIt rs N (upFrom 0 N) []).2, true) := by unfold runV; rw [if_pos h]; rfl
  have hLa := Left.all (N := N) (by omega)
  obtain ⟨am, k, hk, hL, he, hm, hw⟩ := run_spec hr hrl N (upFrom 0 N) [] hLa (by simp) (by unfold leftL; rw [List.filter_eq_self.2]; intro x _; rfl)
  have hlen := runIt_len (rs := rs) N (upFrom 0 N) []
  have hsum := fAll_tot (hL.one (fun r hrr => (hr r hrr).1))
  have hbd := fAll_bd (am := am) (fun r hrr => (hr r hrr).2) rs.length
  have hfl := fAll_len am rs rs.length
  have hnd := pw_nodup hL.1
  obtain ⟨hk2, hk3, _⟩ := majI_spec hm
  rw [hV]
  dsimp only
  refine ⟨N, k, rfl, hN1, hN5, by simp only [List.length_nil] at hlen; omega, ?_⟩
  rw [← he]
  refine ⟨hL, hk, hw.symm, ?_, ?_, fun x hx => by have := hbd x hx; omega, ?_⟩
  · unfold firstV
    rw [if_pos]
    simp only [Bool.and_eq_true, Bool.not_eq_true', beq_eq_false_iff_ne]
    exact ⟨⟨h', by have := hL.2.2; omega⟩, ris_of hL.1 (fun x hx => by have := hL.2.1 x hx; omega) (fun y hy => by cases hy)⟩
  · rw [hw]
    have hmem := List.getElem_mem hk
    have h5 : am[k] ∈ leftL N (runIt rs N (upFrom 0 N) []).2 := by rw [← he]; exact hmem
    have := (List.mem_filter.1 h5).2
    simpa using this
  · intro i hi
    rw [hw, hsum, List.getD_eq_getElem?_getD, List.getElem?_eq_getElem (by omega)]
    show decide (totW rs < 2 * (fAll am rs rs.length)[i]) = (am[i] == am[k])
    by_cases hik : i = k
    · subst hik
      rw [decide_eq_true hk3]
      simp
    · have h6 : ¬ totW rs < 2 * (fAll am rs rs.length)[i]'(by omega) := fun hc => by
        rw [← hsum] at hc hk3
        exact hik (maj_one (fun x hx => (hbd x hx).1) (by omega) hk2 hc hk3)
      rw [decide_eq_false h6]
      symm
      rw [beq_eq_false_iff_ne]
      intro e
      rcases Nat.lt_or_gt_of_ne hik with h7 | h7
      · have := List.pairwise_iff_getElem.1 hL.1 i k hi hk h7; omega
      · have := List.pairwise_iff_getElem.1 hL.1 k i hk hi h7; omega

theorem runV_ok (n : Int) (rs : List DRanking) : (runV n rs).2.2 = electOk n rs := by
  unfold runV
  split
  · rename_i h; exact h.symm
  · rename_i h; simp at h; exact h.symm
theorem leftL_off {k : Nat} {out : List Int} (h : hasB out (k : Int) = true) : leftL (k + 1) out = leftL k out := by
  unfold leftL
  rw [upFrom_push, List.filter_append]
  simp [h]
theorem leftL_on {k : Nat} {out : List Int} (h : hasB out (k : Int) = false) : leftL (k + 1) out = leftL k out ++ [(k : Int)] := by
  unfold leftL
  rw [upFrom_push, List.filter_append]
  simp [h]
theorem leftL_len (k : Nat) (out : List Int) : (leftL k out).length ≤ k := by
  have := List.length_filter_le (fun x => !hasB out x) (upFrom 0 k)
  simpa [leftL] using this

/-! ### two candidates -/
theorem two_orders {r : DRanking} (h : permOk 2 r.order = true) : r.order = [0, 1] ∨ r.order = [1, 0] := by
  simp only [permOk, Bool.and_eq_true, decide_eq_true_eq] at h
  obtain ⟨h1, h2⟩ := h
  obtain ⟨h3, _⟩ := permF_nodup h2
  have h4 := permF_mem h2
  generalize r.order = xs at *
  match xs, h1 with
  | [a, b], _ =>
    have ha := inB_iff.1 (h4 a (by simp))
    have hb := inB_iff.1 (h4 b (by simp))
    have hne : a ≠ b := by simpa using h3
    rcases (by omega : (a = 0 ∧ b = 1) ∨ (a = 1 ∧ b = 0)) with ⟨rfl, rfl⟩ | ⟨rfl, rfl⟩
    · exact .inl rfl
    · exact .inr rfl
theorem fAll_two {rs : List DRanking} (hr : ∀ r ∈ rs, permOk 2 r.order = true) : ∀ k, k ≤ rs.length → fAll [0, 1] rs k = [partP rs 0 1 k, partP rs 1 0 k]
  | 0, _ => rfl
  | k + 1, hk => by
    rw [fAll_at (by omega), fAll_two hr k (by omega), partP_at (by omega), partP_at (by omega)]
    have h := hr _ (List.getElem_mem (show k < rs.length by omega))
    generalize rs[k]'(by omega) = r at h
    obtain ⟨o, wt⟩ := r
    rcases two_orders h with h1 | h1
    · dsimp only at h1; subst h1
      simp [fRow, fSt, fPos, beatsB, posR, idxFrom, hasB, List.find?]
    · dsimp only at h1; subst h1
      simp [fRow, fSt, fPos, beatsB, posR, idxFrom, hasB, List.find?]
theorem two_first {rs : List DRanking} (hr : ∀ r ∈ rs, permOk 2 r.order = true ∧ 1 ≤ r.weight ∧ r.weight ≤ 100) (h1 : 1 ≤ rs.length) (h : electOk 2 rs = true) (hc : (condV 2 rs).2 = true) : (condV 2 rs).1 = (runV 2 rs).1 := by
  have hF := fAll_two (fun r hrr => (hr r hrr).1) rs.length (Nat.le_refl _)
  have hL := Left.all (N := 2) (by omega)
  have hsum := fAll_tot (hL.one (fun r hrr => (hr r hrr).1))
  have hup : upFrom 0 2 = [0, 1] := rfl
  rw [hup, hF] at hsum
  have hB : beatsL 2 rs = [if wins rs 0 1 then 1 else 0, if wins rs 1 0 then 1 else 0] := by
    have h00 : wins rs 0 0 = false := by simp [wins]
    have h11 : wins rs 1 1 = false := by simp [wins]
    simp [beatsL, tab, List.range_succ, cnt, h00, h11]
  have hw0 : wins rs 0 1 = decide (partP rs 1 0 rs.length < partP rs 0 1 rs.length) := rfl
  have hw1 : wins rs 1 0 = decide (partP rs 0 1 rs.length < partP rs 1 0 rs.length) := rfl
  have hpb := partP_bd (fun r hrr => (hr r hrr).2) 0 1 rs.length
  have hpb' := partP_bd (fun r hrr => (hr r hrr).2) 1 0 rs.length
  have hV : (runV 2 rs).1 = (runIt rs 2 [0, 1] []).1 := by unfold runV; rw [if_pos h]; rfl
  rw [hV]
  unfold condV at hc ⊢
  rw [if_pos h] at hc ⊢
  have h2n : (2 : Int).toNat = 2 := rfl
  rw [h2n, hB] at hc ⊢
  simp only [List.sum_cons, List.sum_nil] at hsum
  rcases Int.lt_trichotomy (partP rs 0 1 rs.length) (partP rs 1 0 rs.length) with hlt | heq | hgt
  · have hm : majI (totW rs) (fAll [0, 1] rs rs.length) = some 1 := by
      rw [hF]
      exact majI_some (k := 1) (by simp) (fun j hj hj1 => by obtain rfl : j = 0 := (by omega); simp; omega) (by simp; omega)
    rw [runIt_win hm, hw0, hw1, decide_eq_false (by omega), decide_eq_true hlt]
    simp [idxFrom]
  · rw [hw0, hw1, decide_eq_false (by omega), decide_eq_false (by omega)] at hc
    simp [idxFrom] at hc
  · have hm : majI (totW rs) (fAll [0, 1] rs rs.length) = some 0 := by
      rw [hF]
      exact majI_some (k := 0) (by simp) (fun j hj hj1 => by omega) (by simp; omega)
    rw [runIt_win hm, hw0, hw1, decide_eq_true hgt]
    simp [idxFrom]

end Go.Proofs.Ytgjgdephpliolaa
