/- Contracts: FirstVotes, the reference's and the program's. No conditions beyond sizes. -/
import Derived.Test.YtfonpkegaeebaaaRankB
namespace Go.Proofs.Ytfonpkegaeebaaa
open Go.RowKit
set_option linter.unusedVariables false
set_option linter.unusedSimpArgs false

/-! ### plain facts -/
theorem idx_specF {am : List Int} {c : Int} : ∀ (k : Nat), hasB am c = true → ∃ i, ∃ h : i < am.length, idxFrom (fun x => c == x) k am = ((i + k : Nat) : Int) ∧ am[i] = c := by
  induction am with
  | nil => intro k h; simp [hasB] at h
  | cons a r ih =>
    intro k h
    simp only [idxFrom]
    by_cases ha : (c == a) = true
    · exact ⟨0, by simp, by rw [if_pos ha]; simp, by simpa using (eq_of_beq ha).symm⟩
    · have h' : hasB r c = true := by
        simp only [hasB, List.contains_cons] at h
        have : (c == a) = false := by simpa using ha
        simpa [this, hasB] using h
      obtain ⟨i, hi, h1, h2⟩ := ih (k + 1) h'
      exact ⟨i + 1, by simp; omega, by rw [if_neg ha, h1]; congr 1; omega, by simpa using h2⟩
theorem idx_spec {am : List Int} {c : Int} (h : hasB am c = true) : ∃ i, ∃ h : i < am.length, idxFrom (fun x => c == x) 0 am = (i : Int) ∧ am[i] = c := by simpa using idx_specF 0 h
theorem idx_none {am : List Int} {c : Int} (h : hasB am c = false) : idxFrom (fun x => c == x) 0 am < 0 := by
  have := idxBy_neg (fun x => c == x) am
  rw [idxFrom_eq]
  have h2 : am.any (fun x => c == x) = false := by rw [← h]; unfold hasB; rw [List.contains_eq_any_beq]
  rw [h2] at this
  simpa using this
theorem first_pos {am : List Int} {xs : List Int} (h : ∃ x ∈ xs, hasB am x = true) : ∃ K, ∃ hK : K < xs.length, xs.find? (hasB am) = some xs[K] ∧ hasB am xs[K] = true ∧ ∀ q (hq : q < K), hasB am (xs[q]'(by omega)) = false := by
  induction xs with
  | nil => obtain ⟨x, hx, _⟩ := h; cases hx
  | cons a r ih =>
    cases ha : hasB am a with
    | true => exact ⟨0, by simp, by simp [List.find?_cons, ha], by simpa using ha, fun q hq => absurd hq (by omega)⟩
    | false =>
      obtain ⟨x, hx, hb⟩ := h
      have hxr : x ∈ r := by
        rcases List.mem_cons.1 hx with rfl | h1
        · rw [ha] at hb; cases hb
        · exact h1
      obtain ⟨K, hK, h1, h2, h3⟩ := ih ⟨x, hxr, hb⟩
      refine ⟨K + 1, by simp; omega, by simp [List.find?_cons, ha, h1], by simpa using h2, fun q hq => ?_⟩
      cases q with
      | zero => simpa using ha
      | succ q => simpa using h3 q (by omega)
theorem rising_chain {lo hi : Int} {xs : List Int} : ∀ {p : Option Int}, risB lo hi p xs = true → (∀ y, p = some y → ∀ x ∈ xs, y < x) ∧ xs.Pairwise (· < ·) := by
  induction xs with
  | nil => intro p h; exact ⟨fun y _ x hx => (by cases hx), List.Pairwise.nil⟩
  | cons a r ih =>
    intro p h
    simp only [risB, Bool.and_eq_true] at h
    obtain ⟨h1, h2⟩ := ih h.2
    refine ⟨fun y hy x hx => ?_, List.pairwise_cons.2 ⟨fun x hx => h1 a rfl x hx, h2⟩⟩
    subst hy
    have ha : y < a := by simpa using h.1.2
    rcases List.mem_cons.1 hx with rfl | h3
    · exact ha
    · have := h1 a rfl x h3; omega
theorem rising_inj {lo hi : Int} {xs : List Int} (h : rising lo hi xs = true) {i j : Nat} (hi : i < xs.length) (hj : j < xs.length) (hne : i ≠ j) : xs[i] ≠ xs[j] := by
  have hp := (rising_chain h).2
  rcases Nat.lt_or_ge i j with h1 | h1
  · have := List.pairwise_iff_getElem.1 hp i j hi hj h1; omega
  · have := List.pairwise_iff_getElem.1 hp j i hj hi (by omega); omega
theorem rising_memx {lo hi : Int} {xs : List Int} : ∀ {p : Option Int}, risB lo hi p xs = true → ∀ x ∈ xs, lo ≤ x ∧ x ≤ hi := by
  induction xs with
  | nil => intro p h x hx; cases hx
  | cons a r ih =>
    intro p h x hx
    simp only [risB, Bool.and_eq_true] at h
    rcases List.mem_cons.1 hx with rfl | hx
    · exact inB_iff.1 h.1.1
    · exact ih h.2 x hx
theorem pigeon : ∀ (N : Nat) (xs : List Int), xs.Nodup → (∀ x ∈ xs, 0 ≤ x ∧ x < N) → xs.length ≤ N := by
  intro N
  induction N with
  | zero =>
    intro xs _ h
    cases xs with
    | nil => simp
    | cons a r => have := h a (by simp); omega
  | succ N ih =>
    intro xs hn h
    by_cases hm : (N : Int) ∈ xs
    · have h1 := ih (xs.erase N) (hn.erase _) (fun x hx => by
        have h2 := (List.Nodup.mem_erase_iff hn).1 hx
        have h3 := h x h2.2
        have := h2.1
        omega)
      rw [List.length_erase_of_mem hm] at h1
      omega
    · have h1 := ih xs hn (fun x hx => by
        have h3 := h x hx
        have : x ≠ N := fun e => hm (e ▸ hx)
        omega)
      omega
theorem permF_nodup {n : Int} {xs : List Int} : ∀ {pre : List Int}, permF n pre xs = true → xs.Nodup ∧ ∀ x ∈ xs, x ∉ pre := by
  induction xs with
  | nil => intro pre h; exact ⟨List.nodup_nil, fun x hx => (by cases hx)⟩
  | cons a r ih =>
    intro pre h
    simp only [permF, Bool.and_eq_true, Bool.not_eq_true'] at h
    obtain ⟨⟨h1, h2⟩, h3⟩ := h
    obtain ⟨h4, h5⟩ := ih h3
    have h2' : a ∉ pre := by simpa [hasB] using h2
    refine ⟨List.nodup_cons.2 ⟨fun hm => ?_, h4⟩, fun x hx => ?_⟩
    · have := h5 a hm; simp at this
    · rcases List.mem_cons.1 hx with rfl | hx
      · exact h2'
      · have := h5 x hx; simp at this; exact this.1
/-- A valid ranking has every candidate. -/
theorem perm_all {N : Nat} {xs : List Int} (h : permOk N xs = true) {c : Int} (hc : 0 ≤ c ∧ c < N) : c ∈ xs := by
  simp only [permOk, Bool.and_eq_true, decide_eq_true_eq] at h
  obtain ⟨h1, h2⟩ := h
  obtain ⟨h3, _⟩ := permF_nodup h2
  by_cases hm : c ∈ xs
  · exact hm
  · have := pigeon N (c :: xs) (List.nodup_cons.2 ⟨hm, h3⟩) (fun x hx => by
      rcases List.mem_cons.1 hx with rfl | hx
      · exact hc
      · have := inB_iff.1 (permF_mem h2 x hx); omega)
    simp at this
    omega
theorem elect_perm {n : Int} {rs : List DRanking} (h : electOk n rs = true) : ∀ r ∈ rs, permOk n r.order = true := by
  intro r hr
  simp only [electOk, Bool.and_eq_true, List.all_eq_true] at h
  have := h.2 r hr
  simp only [rankOk, Bool.and_eq_true] at this
  exact this.1

def fPos (am : List Int) (c : Int) : Nat := (idxFrom (fun x => c == x) 0 am).toNat
theorem fPos_eq {am : List Int} {c : Int} {i : Nat} (h : idxFrom (fun x => c == x) 0 am = (i : Int)) : fPos am c = i := by simp [fPos, h]
def fSt (acc : List Int) (P : Nat) (wt : Int) : List Int := acc.set P (acc.getD P 0 + wt)
def fRow (am : List Int) (r : DRanking) (acc : List Int) : List Int := match r.order.find? (hasB am) with | some c => fSt acc (fPos am c) r.weight | none => acc
def fAll (am : List Int) (rs : List DRanking) : Nat → List Int
  | 0 => List.replicate am.length 0
  | i + 1 => match rs[i]? with | some r => fRow am r (fAll am rs i) | none => fAll am rs i
theorem fAll_at {am : List Int} {rs : List DRanking} {i : Nat} (h : i < rs.length) : fAll am rs (i + 1) = fRow am rs[i] (fAll am rs i) := by simp [fAll, List.getElem?_eq_getElem h]
@[simp] theorem fSt_len (acc : List Int) (P : Nat) (wt : Int) : (fSt acc P wt).length = acc.length := by simp [fSt]
theorem fRow_len (am : List Int) (r : DRanking) (acc : List Int) : (fRow am r acc).length = acc.length := by unfold fRow; split <;> simp
theorem fAll_len (am : List Int) (rs : List DRanking) (i : Nat) : (fAll am rs i).length = am.length := by
  induction i with
  | zero => simp [fAll]
  | succ i ih =>
    simp only [fAll]
    split
    · rw [fRow_len, ih]
    · exact ih
theorem fSt_bd {acc : List Int} {P : Nat} {wt B : Int} (hB : 0 ≤ B) (ha : ∀ e ∈ acc, 0 ≤ e ∧ e ≤ B) (hw : 1 ≤ wt ∧ wt ≤ 100) : ∀ e ∈ fSt acc P wt, 0 ≤ e ∧ e ≤ B + 100 := by
  intro e he
  rcases List.mem_or_eq_of_mem_set he with h1 | h1
  · have := ha e h1; omega
  · by_cases hm : P < acc.length
    · have := ha _ (getD_memy hm); omega
    · have : acc.getD P 0 = 0 := by rw [List.getD_eq_getElem?_getD, List.getElem?_eq_none (by omega)]; rfl
      omega
theorem fAll_bd {am : List Int} {rs : List DRanking} (hr : ∀ r ∈ rs, 1 ≤ r.weight ∧ r.weight ≤ 100) (i : Nat) : ∀ e ∈ fAll am rs i, 0 ≤ e ∧ e ≤ 100 * i := by
  induction i with
  | zero => intro e he; simp [fAll] at he; omega
  | succ i ih =>
    intro e he
    simp only [fAll] at he
    split at he
    · rename_i r hri
      have hw := hr r (List.mem_of_getElem? hri)
      unfold fRow at he
      split at he
      · have := fSt_bd (B := 100 * i) (by omega) ih hw e he; omega
      · have := ih e he; omega
    · have := ih e he; omega
def firstV (n : Int) (rs : List DRanking) (am : List Int) : List Int × Bool :=
  if electOk n rs && !(am.length == 0) && rising 0 (n - 1) am then (fAll am rs rs.length, true) else ([], false)
theorem firstV_len (n : Int) (rs : List DRanking) (am : List Int) (h : am.length ≤ 1048576) : (firstV n rs am).1.length ≤ 4000000 := by
  unfold firstV
  split
  · rw [fAll_len]; omega
  · simp

theorem rising_len {N : Nat} {xs : List Int} (h : rising 0 ((N : Int) - 1) xs = true) : xs.length ≤ N := by
  refine pigeon N xs ?_ (fun x hx => by have := rising_memx h x hx; omega)
  exact (rising_chain h).2.imp (fun h => by omega)
theorem first_facts {n : Int} {rs : List DRanking} {am : List Int} (hok : electOk n rs = true) (hz : am.length ≠ 0) (hri : rising 0 (n - 1) am = true) :
    rs.length ≤ 9 ∧ am.length ≤ 5 ∧ (∀ r ∈ rs, r.order.length ≤ 5 ∧ 1 ≤ r.weight ∧ r.weight ≤ 100) ∧ (∀ r ∈ rs, ∃ x ∈ r.order, hasB am x = true) ∧ (∀ i j (hi : i < am.length) (hj : j < am.length), i ≠ j → am[i] ≠ am[j]) := by
  have hp := elect_perm hok
  obtain ⟨N, rfl, hN1, hN5, _, hr9, hrs⟩ := electOk_parts hok
  have hl := rising_len hri
  have h0 : 0 < am.length := by omega
  refine ⟨hr9, by omega, fun r hr => ⟨by have := (hrs r hr).1; omega, (hrs r hr).2.2⟩, fun r hr => ⟨am[0], perm_all (hp r hr) (by have := rising_memx hri _ (List.getElem_mem h0); omega), by simp [hasB]⟩, fun i j hi hj hne => rising_inj hri hi hj hne⟩

end Go.Proofs.Ytfonpkegaeebaaa
