/- A number put into a rising list; the sorted list. Of no program. No conditions. -/
import Derived.Test.YtjijcjcfefkpbaaDoorSmall
import Derived.Test.YtjijcjcfefkpbaaDoorInts2
namespace Go.Proofs.YtjijcjcfefkpbaaDoor
open Go.RowKit
set_option linter.unusedVariables false
set_option linter.unusedSimpArgs false

/-- How many numbers of a list's head are less than x. -/
def putAt (x : Int) : List Int → Nat
  | [] => 0
  | y :: r => if y < x then putAt x r + 1 else 0
def putL (x : Int) (l : List Int) : List Int := l.take (putAt x l) ++ x :: l.drop (putAt x l)
theorem putAt_le (x : Int) (l : List Int) : putAt x l ≤ l.length := by
  induction l with
  | nil => simp [putAt]
  | cons y r ih => simp only [putAt]; split <;> simp <;> omega
theorem putL_cons (x y : Int) (r : List Int) : putL x (y :: r) = if y < x then y :: putL x r else x :: y :: r := by
  unfold putL
  by_cases h : y < x <;> simp [putAt, h]
theorem putL_len (x : Int) (l : List Int) : (putL x l).length = l.length + 1 := by
  have := putAt_le x l
  simp [putL]; omega
theorem putL_perm (x : Int) (l : List Int) : (putL x l).Perm (l ++ [x]) := by
  unfold putL
  have h1 : (l.take (putAt x l) ++ x :: l.drop (putAt x l)).Perm (x :: (l.take (putAt x l) ++ l.drop (putAt x l))) := List.perm_middle
  rw [List.take_append_drop] at h1
  exact h1.trans (List.perm_append_singleton x l).symm
theorem mem_putL {x y : Int} {l : List Int} : y ∈ putL x l ↔ y = x ∨ y ∈ l := by
  rw [(putL_perm x l).mem_iff]; simp [or_comm]
theorem ris_pair {lo hi : Int} {xs : List Int} : ∀ {p : Option Int}, risB lo hi p xs = true → xs.Pairwise (· < ·) ∧ ∀ y, p = some y → ∀ x ∈ xs, y < x := by
  induction xs with
  | nil => intro p _; simp
  | cons a r ih =>
    intro p h
    simp only [risB, Bool.and_eq_true] at h
    obtain ⟨⟨h1, h2⟩, h3⟩ := h
    obtain ⟨h4, h5⟩ := ih h3
    have h6 := h5 a rfl
    refine ⟨List.pairwise_cons.2 ⟨h6, h4⟩, fun y hy x hx => ?_⟩
    subst hy
    have h7 : y < a := by simpa using h2
    rcases List.mem_cons.1 hx with rfl | hx
    · exact h7
    · have := h6 x hx; omega
theorem rising_pair {lo hi : Int} {xs : List Int} (h : rising lo hi xs = true) : xs.Pairwise (· < ·) := (ris_pair h).1
theorem putL_sorted {x : Int} {l : List Int} (h : l.Pairwise (· < ·)) : (putL x l).Pairwise (· ≤ ·) := by
  induction l with
  | nil => simp [putL, putAt]
  | cons y r ih =>
    obtain ⟨h1, h2⟩ := List.pairwise_cons.1 h
    rw [putL_cons]
    split
    · refine List.pairwise_cons.2 ⟨fun z hz => ?_, ih h2⟩
      rcases mem_putL.1 hz with rfl | hz
      · omega
      · have := h1 z hz; omega
    · rename_i hn
      refine List.pairwise_cons.2 ⟨fun z hz => ?_, List.pairwise_cons.2 ⟨fun z hz => by have := h1 z hz; omega, h2.imp (fun h => by omega)⟩⟩
      rcases List.mem_cons.1 hz with rfl | hz
      · omega
      · have := h1 z hz; omega
/-- The sort of a rising list with one more number. -/
theorem merge_put {x : Int} {l : List Int} (h : l.Pairwise (· < ·)) : (l ++ [x]).mergeSort (fun a b => decide (a ≤ b)) = putL x l := by
  have h1 := List.pairwise_mergeSort (le := fun a b : Int => decide (a ≤ b)) (by intro a b c; simp; omega) (by intro a b; simp; omega) (l ++ [x])
  refine List.Perm.eq_of_pairwise (le := (· ≤ ·)) (fun a b _ _ h3 h4 => by omega) ?_ (putL_sorted h) ((List.mergeSort_perm _ _).trans (putL_perm x l).symm)
  exact h1.imp (fun h => by simpa using h)
theorem putAt_spec (x : Int) (l : List Int) : (∀ k (h : k < l.length), k < putAt x l → l[k] < x) ∧ ∀ h : putAt x l < l.length, ¬ l[putAt x l] < x := by
  induction l with
  | nil => simp
  | cons y r ih =>
    by_cases hy : y < x
    · have he : putAt x (y :: r) = putAt x r + 1 := by simp [putAt, hy]
      generalize putAt x (y :: r) = m at he ⊢
      subst he
      refine ⟨fun k h hk => ?_, fun h => ?_⟩
      · cases k with
        | zero => simpa using hy
        | succ k => simpa using ih.1 k (by simpa using h) (by omega)
      · simpa using ih.2 (by simpa using h)
    · have he : putAt x (y :: r) = 0 := by simp [putAt, hy]
      generalize putAt x (y :: r) = m at he ⊢
      subst he
      exact ⟨fun k h hk => by omega, fun h => by simpa using hy⟩
/-- A walk along the list ends there. -/
theorem putAt_eq {x : Int} {l : List Int} {k : Nat} (h1 : ∀ j (h : j < l.length), j < k → l[j] < x) (hk : k ≤ l.length) (h2 : ∀ h : k < l.length, ¬ l[k] < x) : k = putAt x l := by
  obtain ⟨h3, h4⟩ := putAt_spec x l
  have h5 := putAt_le x l
  rcases Nat.lt_trichotomy k (putAt x l) with h | h | h
  · exact absurd (h3 k (by omega) h) (h2 (by omega))
  · exact h
  · exact absurd (h1 _ (by omega) h) (h4 (by omega))

end Go.Proofs.YtjijcjcfefkpbaaDoor
