/- Plain: the spans of business hold the counts with a quorum, and are apart. Of no program. No conditions. -/
import Derived.Test.YtjijcjcfefkpbaaDoorSpanI
namespace Go.Proofs.YtjijcjcfefkpbaaDoor
open Go.RowKit
set_option linter.unusedVariables false
set_option linter.unusedSimpArgs false

/-- The session behind k moves. -/
def nowS (s : DSess) (ms : List Int) : Nat → DSess
  | 0 => s
  | k + 1 => (moveS (nowS s ms k) (ms.getD k 0)).1
/-- The spans of the counts below k. -/
def spanT (s : DSess) (ms : List Int) : Nat → List (List Int)
  | 0 => []
  | k + 1 => spanQ (nowS s ms k) (spanT s ms k) (k : Int)
theorem getD_m {ms : List Int} {k : Nat} (h : k < ms.length) : ms.getD k 0 = ms[k] := by simp [List.getD_eq_getElem?_getD, List.getElem?_eq_getElem h]
theorem spanF_all {s : DSess} {ms : List Int} {sp : List (List Int)} : ∀ (d k : Nat), k + d = ms.length → spanF (ms.drop k) (k : Int) (nowS s ms k) (spanT s ms k) = (sp, true) →
    sp = spanT s ms (ms.length + 1) ∧ ∀ j, k ≤ j → j < ms.length → (moveS (nowS s ms j) (ms.getD j 0)).2 = true
  | 0, k, hk, h => by
    obtain rfl : k = ms.length := by omega
    rw [List.drop_length] at h
    exact ⟨(congrArg Prod.fst h).symm, fun j h1 h2 => by omega⟩
  | d + 1, k, hk, h => by
    have hlt : k < ms.length := by omega
    rw [drop_at hlt] at h
    simp only [spanF] at h
    cases hm : (moveS (nowS s ms k) ms[k]).2 with
    | false => rw [if_neg (by rw [hm]; simp)] at h; cases congrArg Prod.snd h
    | true =>
      rw [if_pos hm] at h
      have e : nowS s ms (k + 1) = (moveS (nowS s ms k) ms[k]).1 := by simp only [nowS, getD_m hlt]
      have h2 : spanF (ms.drop (k + 1)) ((k + 1 : Nat) : Int) (nowS s ms (k + 1)) (spanT s ms (k + 1)) = (sp, true) := by
        rw [e]; exact h
      obtain ⟨h3, h4⟩ := spanF_all d (k + 1) (by omega) h2
      refine ⟨h3, fun j h5 h6 => ?_⟩
      rcases Nat.eq_or_lt_of_le h5 with rfl | h7
      · rw [getD_m hlt]; exact hm
      · exact h4 j h7 h6
theorem spansV_ok {s : DSess} {ms : List Int} {sp : List (List Int)} (h : spansV s ms = (sp, true)) :
    sessOk s.en s.nu s.de s.pr s.re = true ∧ ms.length ≤ 20 ∧ sp = spanT s ms (ms.length + 1) ∧ ∀ j, j < ms.length → (moveS (nowS s ms j) (ms.getD j 0)).2 = true := by
  unfold spansV at h
  split at h
  · rename_i ho
    simp only [spanOk, Bool.and_eq_true, decide_eq_true_eq] at ho
    obtain ⟨h1, h2⟩ := spanF_all (s := s) (ms := ms) (sp := sp) ms.length 0 (by omega) h
    exact ⟨ho.1, ho.2.2, h1, fun j hj => h2 j (Nat.zero_le _) hj⟩
  · cases congrArg Prod.snd h
/-- The session stays valid; its members alone turn. -/
theorem nowS_ok {s : DSess} {ms : List Int} (h0 : sessOk s.en s.nu s.de s.pr s.re = true) (hm : ∀ j, j < ms.length → (moveS (nowS s ms j) (ms.getD j 0)).2 = true) : ∀ k, k ≤ ms.length →
    (nowS s ms k).en = s.en ∧ (nowS s ms k).nu = s.nu ∧ (nowS s ms k).de = s.de ∧ (nowS s ms k).re = s.re ∧ sessOk s.en s.nu s.de (nowS s ms k).pr s.re = true
  | 0, _ => ⟨rfl, rfl, rfl, rfl, h0⟩
  | k + 1, hk => by
    obtain ⟨e1, e2, e3, e4, e5⟩ := nowS_ok h0 hm k (by omega)
    have h1 := hm k (by omega)
    have h2 : ((moveS (nowS s ms k) (ms.getD k 0)).1, true) = moveS (nowS s ms k) (ms.getD k 0) := by rw [← h1]
    obtain ⟨f1, f2, f3, f4, _⟩ := moveS_ok h2
    have h3 := moveS_valid h2
    simp only [nowS]
    rw [f1, f2, f3, f4, e1, e2, e3, e4] at *
    exact ⟨rfl, rfl, rfl, rfl, h3⟩

/-! ### the spans -/
def inSp (t : List (List Int)) (i : Int) : Bool := t.any (fun r => decide (r.getD 0 0 ≤ i) && decide (i ≤ r.getD 1 0))
theorem inSp_app (a b : List (List Int)) (i : Int) : inSp (a ++ b) i = (inSp a i || inSp b i) := by simp [inSp]
theorem inSp_one (a b i : Int) : inSp [[a, b]] i = (decide (a ≤ i) && decide (i ≤ b)) := by simp [inSp]
structure SpInv (t : List (List Int)) (k : Nat) (q : Nat → Bool) : Prop where
  row : ∀ r ∈ t, ∃ a b : Int, r = [a, b] ∧ 0 ≤ a ∧ a ≤ b ∧ b < k
  apart : t.Pairwise (fun r r' => r.getD 1 0 + 1 < r'.getD 0 0)
  cov : ∀ i : Nat, i < k → inSp t i = q i
theorem inSp_out {t : List (List Int)} {k : Nat} (h : ∀ r ∈ t, ∃ a b : Int, r = [a, b] ∧ 0 ≤ a ∧ a ≤ b ∧ b < k) : inSp t k = false := by
  cases hc : inSp t k with
  | false => rfl
  | true =>
    simp only [inSp, List.any_eq_true, Bool.and_eq_true, decide_eq_true_eq] at hc
    obtain ⟨r, hr, h1, h2⟩ := hc
    obtain ⟨a, b, rfl, _, _, h3⟩ := h r hr
    simp at h2
    omega
theorem SpInv.skip {t : List (List Int)} {k : Nat} {q : Nat → Bool} (h : SpInv t k q) (hq : q k = false) : SpInv t (k + 1) q := by
  refine ⟨fun r hr => ?_, h.apart, fun i hi => ?_⟩
  · obtain ⟨a, b, e, h1, h2, h3⟩ := h.row r hr
    exact ⟨a, b, e, h1, h2, by omega⟩
  · rcases Nat.lt_or_ge i k with h1 | h1
    · exact h.cov i h1
    · obtain rfl : i = k := by omega
      rw [hq]; exact inSp_out h.row
theorem snoc_of {t : List (List Int)} (h : 0 < t.length) : ∃ pre l, t = pre ++ [l] :=
  ⟨t.dropLast, t.getLast (List.ne_nil_of_length_pos h), (List.dropLast_concat_getLast (List.ne_nil_of_length_pos h)).symm⟩
theorem rowEnd_snoc (pre : List (List Int)) (l : List Int) : rowEnd (pre ++ [l]) = l.getD 1 0 := by simp [rowEnd]
theorem rowBeg_snoc (pre : List (List Int)) (l : List Int) : rowBeg (pre ++ [l]) = l.getD 0 0 := by simp [rowBeg]
theorem set_snoc (pre : List (List Int)) (l x : List Int) : (pre ++ [l]).set ((pre ++ [l]).length - 1) x = pre ++ [x] := by
  rw [List.set_append_right _ _ (by simp)]
  simp
theorem SpInv.put {t : List (List Int)} {k : Nat} {q : Nat → Bool} (h : SpInv t k q) (hq : q k = true) : SpInv (spanPut t (k : Int)) (k + 1) q := by
  unfold spanPut
  by_cases hc : 0 < t.length ∧ rowEnd t = (k : Int) - 1
  · rw [if_pos hc]
    obtain ⟨hp, he⟩ := hc
    obtain ⟨pre, l, rfl⟩ := snoc_of hp
    rw [rowBeg_snoc, set_snoc]
    rw [rowEnd_snoc] at he
    obtain ⟨a, b, rfl, h1, h2, h3⟩ := h.row l (by simp)
    have hb : b = (k : Int) - 1 := by simpa using he
    have hap := List.pairwise_append.1 h.apart
    refine ⟨fun r hr => ?_, ?_, fun i hi => ?_⟩
    · rcases List.mem_append.1 hr with hr | hr
      · obtain ⟨a', b', e, g1, g2, g3⟩ := h.row r (by simp [hr])
        exact ⟨a', b', e, g1, g2, by omega⟩
      · rw [List.mem_singleton.1 hr]
        exact ⟨a, k, by simp, h1, by omega, by omega⟩
    · refine List.pairwise_append.2 ⟨hap.1, by simp, fun r hr r' hr' => ?_⟩
      rw [List.mem_singleton.1 hr']
      have := hap.2.2 r hr [a, b] (by simp)
      simpa using this
    · have e : ([a, b] : List Int).getD 0 0 = a := rfl
      rw [e, inSp_app, inSp_one]
      rcases Nat.lt_or_ge i k with h4 | h4
      · have h5 := h.cov i h4
        rw [inSp_app, inSp_one] at h5
        rw [← h5, decide_eq_true (show (i : Int) ≤ (k : Int) by omega), decide_eq_true (show (i : Int) ≤ b by omega)]
      · obtain rfl : i = k := by omega
        rw [hq, decide_eq_true (show a ≤ (i : Int) by omega), decide_eq_true (Int.le_refl _)]
        simp
  · rw [if_neg hc]
    have hlast : ∀ r ∈ t, r.getD 1 0 + 1 < (k : Int) := fun r hr => by
      have hp : 0 < t.length := List.length_pos_of_mem hr
      obtain ⟨pre, l, rfl⟩ := snoc_of hp
      have hne : ¬ l.getD 1 0 = (k : Int) - 1 := fun e => hc ⟨hp, by rw [rowEnd_snoc]; exact e⟩
      obtain ⟨a, b, rfl, h1, h2, h3⟩ := h.row l (by simp)
      have hne' : ¬ b = (k : Int) - 1 := by simpa using hne
      have hap := List.pairwise_append.1 h.apart
      rcases List.mem_append.1 hr with hr | hr
      · have h4 := hap.2.2 r hr [a, b] (by simp)
        have h5 : r.getD 1 0 + 1 < a := by simpa using h4
        omega
      · rw [List.mem_singleton.1 hr]
        have e : ([a, b] : List Int).getD 1 0 = b := rfl
        rw [e]; omega
    refine ⟨fun r hr => ?_, ?_, fun i hi => ?_⟩
    · rcases List.mem_append.1 hr with hr | hr
      · obtain ⟨a', b', e, g1, g2, g3⟩ := h.row r hr
        exact ⟨a', b', e, g1, g2, by omega⟩
      · rw [List.mem_singleton.1 hr]
        exact ⟨k, k, rfl, by omega, Int.le_refl _, by omega⟩
    · refine List.pairwise_append.2 ⟨h.apart, by simp, fun r hr r' hr' => ?_⟩
      rw [List.mem_singleton.1 hr']
      exact hlast r hr
    · rw [inSp_app, inSp_one]
      rcases Nat.lt_or_ge i k with h4 | h4
      · rw [h.cov i h4, decide_eq_false (show ¬ (k : Int) ≤ (i : Int) by omega)]; simp
      · obtain rfl : i = k := by omega
        rw [hq, decide_eq_true (Int.le_refl _)]; simp
def quoS (s : DSess) (ms : List Int) (i : Nat) : Bool := quorumB (nowS s ms i).en (nowS s ms i).nu (nowS s ms i).de (nowS s ms i).pr
theorem spanT_inv (s : DSess) (ms : List Int) : ∀ k, SpInv (spanT s ms k) k (quoS s ms)
  | 0 => ⟨fun r hr => (by cases hr), List.Pairwise.nil, fun i hi => by omega⟩
  | k + 1 => by
    have h := spanT_inv s ms k
    simp only [spanT, spanQ]
    cases hq : quorumB (nowS s ms k).en (nowS s ms k).nu (nowS s ms k).de (nowS s ms k).pr with
    | true => rw [if_pos rfl]; exact h.put hq
    | false => rw [if_neg (by simp)]; exact h.skip hq
theorem inSp_take {t : List (List Int)} {k : Nat} (hk : k < t.length) {a b : Int} (h : t[k] = [a, b]) (i : Int) : inSp (t.take (k + 1)) i = (inSp (t.take k) i || (decide (a ≤ i) && decide (i ≤ b))) := by
  rw [List.take_succ_eq_append_getElem hk, inSp_app, h, inSp_one]

end Go.Proofs.YtjijcjcfefkpbaaDoor
