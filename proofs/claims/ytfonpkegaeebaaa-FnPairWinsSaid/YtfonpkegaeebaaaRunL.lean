/- Plain facts on runoffs: sums of first votes, majorities, the last of the least. No conditions. -/
import Derived.Test.YtfonpkegaeebaaaRankW
namespace Go.Proofs.Ytfonpkegaeebaaa
open Go.RowKit
set_option linter.unusedVariables false
set_option linter.unusedSimpArgs false

def totW (rs : List DRanking) : Int := (rs.map DRanking.weight).sum
theorem sum_set {xs : List Int} {k : Nat} {y : Int} (h : k < xs.length) : (xs.set k y).sum = xs.sum - xs.getD k 0 + y := by
  induction xs generalizing k with
  | nil => simp at h
  | cons a r ih =>
    cases k with
    | zero => simp; omega
    | succ k =>
      have := ih (k := k) (by simpa using h)
      simp only [List.set_cons_succ, List.sum_cons, List.getD_cons_succ]
      omega
theorem sum_zero (n : Nat) : (List.replicate n (0 : Int)).sum = 0 := by
  induction n with
  | zero => rfl
  | succ n ih => rw [List.replicate_succ, List.sum_cons, ih]; rfl
theorem sum_one {l : List Int} (h : l.length = 1) : l[0] = l.sum := by
  match l, h with
  | [y], _ => simp
/-- Each ranking has one of the candidates. -/
def HasOne (am : List Int) (rs : List DRanking) : Prop := ∀ r ∈ rs, ∃ x ∈ r.order, hasB am x = true
theorem fRow_sum {am : List Int} {r : DRanking} {acc : List Int} (h : ∃ x ∈ r.order, hasB am x = true) (hl : acc.length = am.length) : (fRow am r acc).sum = acc.sum + r.weight := by
  obtain ⟨K, hK, h1, h2, _⟩ := first_pos h
  obtain ⟨i, hi, h3, h4⟩ := idx_spec h2
  unfold fRow
  rw [h1]
  show (fSt acc (fPos am r.order[K]) r.weight).sum = _
  rw [fPos_eq h3, fSt, sum_set (by omega)]
  omega
theorem fAll_sum {am : List Int} {rs : List DRanking} (h : HasOne am rs) (k : Nat) (hk : k ≤ rs.length) : (fAll am rs k).sum = totW (rs.take k) := by
  induction k with
  | zero => simp [fAll, totW, sum_zero]
  | succ k ih =>
    rw [fAll_at (by omega), fRow_sum (h _ (List.getElem_mem _)) (fAll_len am rs k), ih (by omega), take_at (by omega : k < rs.length)]
    simp only [totW, List.map_append, List.sum_append, List.map_cons, List.map_nil, List.sum_cons, List.sum_nil]
    omega
theorem fAll_tot {am : List Int} {rs : List DRanking} (h : HasOne am rs) : (fAll am rs rs.length).sum = totW rs := by
  rw [fAll_sum h _ (Nat.le_refl _), List.take_length]
theorem totW_bd {rs : List DRanking} (hw : ∀ r ∈ rs, 1 ≤ r.weight ∧ r.weight ≤ 100) : (rs.length : Int) ≤ totW rs ∧ totW rs ≤ 100 * rs.length := by
  induction rs with
  | nil => simp [totW]
  | cons a r ih =>
    have h1 := hw a (by simp)
    have h2 := ih (fun x hx => hw x (List.mem_cons_of_mem _ hx))
    simp only [totW, List.map_cons, List.sum_cons, List.length_cons] at h2 ⊢
    omega

/-! ### majorities -/
theorem sum_ge {xs : List Int} (h : ∀ x ∈ xs, 0 ≤ x) : 0 ≤ xs.sum := by
  induction xs with
  | nil => simp
  | cons a r ih => have := h a (by simp); have := ih (fun x hx => h x (List.mem_cons_of_mem _ hx)); simp only [List.sum_cons]; omega
theorem get_le_sum {xs : List Int} (h : ∀ x ∈ xs, 0 ≤ x) {i : Nat} (hi : i < xs.length) : xs[i] ≤ xs.sum := by
  induction xs generalizing i with
  | nil => simp at hi
  | cons a r ih =>
    have h0 := h a (by simp)
    have hr : ∀ x ∈ r, 0 ≤ x := fun x hx => h x (List.mem_cons_of_mem _ hx)
    cases i with
    | zero => have := sum_ge hr; simp only [List.getElem_cons_zero, List.sum_cons]; omega
    | succ i => have := ih hr (i := i) (by simpa using hi); simp only [List.getElem_cons_succ, List.sum_cons]; omega
theorem two_le_sum {xs : List Int} (h : ∀ x ∈ xs, 0 ≤ x) {i j : Nat} (hij : i < j) (hj : j < xs.length) : xs[i]'(by omega) + xs[j] ≤ xs.sum := by
  induction xs generalizing i j with
  | nil => simp at hj
  | cons a r ih =>
    have h0 := h a (by simp)
    have hr : ∀ x ∈ r, 0 ≤ x := fun x hx => h x (List.mem_cons_of_mem _ hx)
    cases j with
    | zero => omega
    | succ j =>
      have hj' : j < r.length := by simpa using hj
      cases i with
      | zero => have := get_le_sum hr hj'; simp only [List.getElem_cons_zero, List.getElem_cons_succ, List.sum_cons]; omega
      | succ i => have := ih hr (i := i) (j := j) (by omega) hj'; simp only [List.getElem_cons_succ, List.sum_cons]; omega
/-- Two have not both more than half. -/
theorem maj_one {xs : List Int} (h : ∀ x ∈ xs, 0 ≤ x) {i j : Nat} (hi : i < xs.length) (hj : j < xs.length) (h1 : xs.sum < 2 * xs[i]) (h2 : xs.sum < 2 * xs[j]) : i = j := by
  rcases Nat.lt_trichotomy i j with h3 | h3 | h3
  · have := two_le_sum h h3 hj; omega
  · exact h3
  · have := two_le_sum h h3 hi; omega

/-- The first that has more than half of T, from place k on. -/
def majI (T : Int) (vs : List Int) : Option Nat := vs.findIdx? fun x => decide (T < 2 * x)
theorem majI_some {T : Int} {vs : List Int} {k : Nat} (hk : k < vs.length) (h0 : ∀ j (h : j < vs.length), j < k → ¬ T < 2 * vs[j]) (h1 : T < 2 * vs[k]) : majI T vs = some k := by
  unfold majI
  rw [List.findIdx?_eq_some_iff_getElem]
  exact ⟨hk, by simpa using h1, fun j hj => by have := h0 j (by omega) hj; simpa using this⟩
theorem majI_none {T : Int} {vs : List Int} (h0 : ∀ j (h : j < vs.length), ¬ T < 2 * vs[j]) : majI T vs = none := by
  unfold majI
  rw [List.findIdx?_eq_none_iff]
  intro x hx
  obtain ⟨j, hj, rfl⟩ := List.mem_iff_getElem.1 hx
  have := h0 j hj
  simpa using this
theorem majI_spec {T : Int} {vs : List Int} {k : Nat} (h : majI T vs = some k) : ∃ hk : k < vs.length, T < 2 * vs[k] ∧ ∀ j (h : j < k), ¬ T < 2 * (vs[j]'(by omega)) := by
  unfold majI at h
  obtain ⟨h1, h2, h3⟩ := List.findIdx?_eq_some_iff_getElem.1 h
  exact ⟨h1, by simpa using h2, fun j hj => by have := h3 j hj; simpa using this⟩
theorem majI_no {T : Int} {vs : List Int} (h : majI T vs = none) : ∀ j (h : j < vs.length), ¬ T < 2 * vs[j] := by
  intro j hj hc
  unfold majI at h
  rw [List.findIdx?_eq_none_iff] at h
  have := h vs[j] (List.getElem_mem hj)
  simp at this
  omega

theorem mxK_ge (xs : List Int) (k : Nat) (hk : k ≤ xs.length) : ∀ j, j < k → xs.getD j 0 ≤ mxK xs k := by
  induction k with
  | zero => intro j hj; omega
  | succ k ih =>
    intro j hj
    by_cases h : mxK xs k ≤ xs.getD k 0
    · rw [mxK_up h]
      by_cases hjk : j = k
      · subst hjk; exact Int.le_refl _
      · have := ih (by omega) j (by omega); omega
    · rw [mxK_stay h]
      by_cases hjk : j = k
      · subst hjk; omega
      · exact ih (by omega) j (by omega)
theorem mxK_mem (xs : List Int) (k : Nat) (h0 : 0 < xs.length) (hk : k ≤ xs.length) : mxK xs k ∈ xs := by
  induction k with
  | zero => simp only [mxK]; exact getD_memy h0
  | succ k ih =>
    by_cases h : mxK xs k ≤ xs.getD k 0
    · rw [mxK_up h]; exact getD_memy (by omega)
    · rw [mxK_stay h]; exact ih (by omega)
/-- The greatest has more than half: it stands where the first does that has. -/
theorem majI_max {vs : List Int} (h : ∀ x ∈ vs, 0 ≤ x) (h0 : 0 < vs.length) (hm : vs.sum < 2 * mxK vs vs.length) : ∃ k, ∃ hk : k < vs.length, majI vs.sum vs = some k ∧ idxFrom (fun x => mxK vs vs.length == x) 0 vs = (k : Int) ∧ vs[k] = mxK vs vs.length := by
  have hmem := mxK_mem vs vs.length h0 (Nat.le_refl _)
  obtain ⟨k, hk, h1, h2⟩ := idx_spec (am := vs) (c := mxK vs vs.length) (hasB_iff.2 hmem)
  refine ⟨k, hk, majI_some hk (fun j hj hjk hc => ?_) (by rw [h2]; exact hm), h1, h2⟩
  have := maj_one h hj hk hc (by rw [h2]; exact hm)
  omega
theorem majI_low {vs : List Int} (h0 : 0 < vs.length) (hm : ¬ vs.sum < 2 * mxK vs vs.length) : majI vs.sum vs = none := by
  refine majI_none fun j hj hc => ?_
  have := mxK_ge vs vs.length (Nat.le_refl _) j hj
  rw [getD_eqy hj] at this
  omega

/-- The last of the least, of the first k. -/
def leastI (vs : List Int) : Nat → Nat
  | 0 => 0
  | k + 1 => if vs.getD k 0 ≤ vs.getD (leastI vs k) 0 then k else leastI vs k
theorem leastI_on {vs : List Int} {k : Nat} (h : vs.getD k 0 ≤ vs.getD (leastI vs k) 0) : leastI vs (k + 1) = k := if_pos h
theorem leastI_off {vs : List Int} {k : Nat} (h : ¬ vs.getD k 0 ≤ vs.getD (leastI vs k) 0) : leastI vs (k + 1) = leastI vs k := if_neg h
theorem leastI_lt (vs : List Int) (k : Nat) (h : 0 < vs.length) (hk : k ≤ vs.length) : leastI vs k < vs.length := by
  induction k with
  | zero => simpa [leastI] using h
  | succ k ih =>
    have := ih (by omega)
    simp only [leastI]
    split <;> omega

/-! ### the rounds -/
def runIt (rs : List DRanking) : Nat → List Int → List Int → Int × List Int
  | 0, _, out => (0, out)
  | f + 1, am, out => match majI (totW rs) (fAll am rs rs.length) with
    | some i => (am.getD i 0, out)
    | none => runIt rs f (am.eraseIdx (leastI (fAll am rs rs.length) am.length)) (out ++ [am.getD (leastI (fAll am rs rs.length) am.length) 0])
theorem runIt_win {rs : List DRanking} {f k : Nat} {am out : List Int} (h : majI (totW rs) (fAll am rs rs.length) = some k) : runIt rs (f + 1) am out = (am.getD k 0, out) := by simp [runIt, h]
theorem runIt_on {rs : List DRanking} {f : Nat} {am out : List Int} (h : majI (totW rs) (fAll am rs rs.length) = none) :
    runIt rs (f + 1) am out = runIt rs f (am.eraseIdx (leastI (fAll am rs rs.length) am.length)) (out ++ [am.getD (leastI (fAll am rs rs.length) am.length) 0]) := by simp [runIt, h]
def runV (n : Int) (rs : List DRanking) : Int × List Int × Bool := if electOk n rs then ((runIt rs n.toNat (upFrom 0 n.toNat) []).1, (runIt rs n.toNat (upFrom 0 n.toNat) []).2, true) else (0, [], false)

/-- The candidates that are left: some of those there are, each once. -/
def Left (N : Nat) (am : List Int) : Prop := am.Pairwise (· < ·) ∧ (∀ x ∈ am, 0 ≤ x ∧ x < N) ∧ 0 < am.length
theorem Left.all {N : Nat} (h : 0 < N) : Left N (upFrom 0 N) := by
  refine ⟨?_, ?_, by simpa using h⟩
  · rw [List.pairwise_iff_getElem]
    intro i j hi hj hij
    rw [upFrom_get _ _ _ (by simpa using hi), upFrom_get _ _ _ (by simpa using hj)]
    omega
  · intro x hx
    obtain ⟨i, hi, rfl⟩ := List.mem_iff_getElem.1 hx
    have hi' : i < N := by simpa using hi
    rw [upFrom_get _ _ _ hi']
    omega
theorem pw_nodup {am : List Int} (h : am.Pairwise (· < ·)) : am.Nodup := by
  refine List.Pairwise.imp (fun h => ?_) h
  omega
theorem Left.len {N : Nat} {am : List Int} (h : Left N am) : am.length ≤ N := pigeon N am (pw_nodup h.1) h.2.1
theorem Left.one {N : Nat} {am : List Int} {rs : List DRanking} (h : Left N am) (hr : ∀ r ∈ rs, permOk N r.order = true) : HasOne am rs := by
  intro r hrr
  obtain ⟨x, hx⟩ : ∃ x, x ∈ am := List.exists_mem_of_length_pos h.2.2
  exact ⟨x, perm_all (hr r hrr) (h.2.1 x hx), hasB_iff.2 hx⟩
theorem Left.erase {N : Nat} {am : List Int} {k : Nat} (h : Left N am) (h2 : 2 ≤ am.length) (hk : k < am.length) : Left N (am.eraseIdx k) :=
  ⟨List.Pairwise.sublist (List.eraseIdx_sublist am k) h.1, fun x hx => h.2.1 x (List.mem_of_mem_eraseIdx hx), by rw [List.length_eraseIdx, if_pos hk]; omega⟩
/-- One alone has all votes. -/
theorem run_last {N : Nat} {am : List Int} {rs : List DRanking} (h : Left N am) (hr : ∀ r ∈ rs, permOk N r.order = true ∧ 1 ≤ r.weight ∧ r.weight ≤ 100) (h1 : 1 ≤ rs.length) (hn : majI (totW rs) (fAll am rs rs.length) = none) : 2 ≤ am.length := by
  rcases Nat.lt_or_ge am.length 2 with hlt | hge
  · exfalso
    have hl : am.length = 1 := by have := h.2.2; omega
    have hs := fAll_tot (h.one (fun r hrr => (hr r hrr).1))
    have ht := totW_bd (fun r hrr => (hr r hrr).2)
    have hfl := fAll_len am rs rs.length
    have hno := majI_no hn 0 (by omega)
    have he : (fAll am rs rs.length)[0]'(by omega) = totW rs := by rw [← hs]; exact sum_one (by omega)
    rw [he] at hno
    omega
  · exact hge
theorem runIt_len {rs : List DRanking} : ∀ (f : Nat) (am out : List Int), (runIt rs f am out).2.length ≤ out.length + f := by
  intro f
  induction f with
  | zero => intro am out; simp [runIt]
  | succ f ih =>
    intro am out
    simp only [runIt]
    split
    · simp
    · have := ih (am.eraseIdx (leastI (fAll am rs rs.length) am.length)) (out ++ [am.getD (leastI (fAll am rs rs.length) am.length) 0])
      simp only [List.length_append, List.length_cons, List.length_nil] at this
      omega
theorem runV_len (n : Int) (rs : List DRanking) : (runV n rs).2.1.length ≤ 4000000 := by
  unfold runV
  split
  · rename_i h
    obtain ⟨N, rfl, _, h5, _⟩ := electOk_parts h
    have := runIt_len (rs := rs) N (upFrom 0 N) []
    simp only [Int.toNat_natCast, List.length_nil] at this ⊢
    omega
  · simp
theorem erase_eq (am : List Int) (k : Nat) : am.take k ++ am.drop (k + 1) = am.eraseIdx k := by rw [List.eraseIdx_eq_take_drop_succ]

end Go.Proofs.Ytfonpkegaeebaaa
