/- Contracts: slices.SortStableFunc at ints (insertion sort, at most 19 elements). Condition: the order's function keeps all that lies outside. -/
import Derived.Test.YtpjmcjdnobihbaaSortL
import Derived.Test.YtpjmcjdnobihbaaIntS
import Derived.Test.YtpjmcjdnobihbaaDelete
import Derived.Test.YtpjmcjdnobihbaaBw
import Derived.BigRegion
namespace Go.Proofs.Ytpjmcjdnobihbaa
open Go.RowKit
set_option linter.unusedVariables false
set_option linter.unusedSimpArgs false

section
variable {α : Type}
/-- The list in the middle of an insertion: x stands at place j. -/
def midL (P R : List α) (x : α) (j : Nat) : List α := P.take j ++ x :: (P.drop j ++ R)
theorem midL_len (P R : List α) (x : α) (j : Nat) : (midL P R x j).length = P.length + 1 + R.length := by
  simp only [midL, List.length_append, List.length_cons, List.length_take, List.length_drop]; omega
theorem midL_at {P R : List α} {x : α} {j : Nat} (h : j ≤ P.length) : (midL P R x j)[j]? = some x := by
  unfold midL
  rw [List.getElem?_append_right (by rw [List.length_take]; omega), List.length_take, Nat.min_eq_left h, Nat.sub_self]; rfl
theorem midL_pre {P R : List α} {x : α} {j : Nat} (h : j ≤ P.length) (h0 : 0 < j) : (midL P R x j)[j - 1]? = some (P[j - 1]'(by omega)) := by
  unfold midL
  rw [List.getElem?_append_left (by simp; omega), List.getElem?_take_of_lt (by omega), List.getElem?_eq_getElem (by omega)]
theorem midL_swap {P R : List α} {x : α} {j : Nat} (h : j ≤ P.length) (h0 : 0 < j) : ((midL P R x j).set j (P[j - 1]'(by omega))).set (j - 1) x = midL P R x (j - 1) := by
  obtain ⟨i, rfl⟩ : ∃ i, j = i + 1 := ⟨j - 1, by omega⟩
  simp only [Nat.add_sub_cancel]
  have hi : i < P.length := by omega
  unfold midL
  rw [take_at hi, drop_at hi]
  have e1 : ((P.take i ++ [P[i]]) ++ x :: (P.drop (i + 1) ++ R)).set (i + 1) P[i] = (P.take i ++ [P[i]]) ++ P[i] :: (P.drop (i + 1) ++ R) := set_mid _ _ _ _ _ (by simp; omega)
  rw [e1]
  have e2 : (P.take i ++ [P[i]]) ++ P[i] :: (P.drop (i + 1) ++ R) = P.take i ++ P[i] :: (P[i] :: (P.drop (i + 1) ++ R)) := by rw [List.append_assoc]; rfl
  rw [e2, set_mid _ _ _ _ _ (by simp; omega)]
  rfl
theorem midL_start {P R : List α} {x : α} : midL P R x P.length = P ++ x :: R := by simp [midL]
theorem midL_done {lt : α → α → Bool} {P R : List α} {x : α} {j : Nat} (hj : j ≤ P.length) (h1 : ∀ y ∈ P.drop j, lt x y = true) (h2 : ∀ h : 0 < j, lt x (P[j - 1]'(by omega)) = false) : midL P R x j = insEnd lt P x ++ R := by
  rw [insEnd_at lt x hj h1 h2]; simp [midL]
theorem below_more {lt : α → α → Bool} {P : List α} {x : α} {j : Nat} (hj : j ≤ P.length) (h0 : 0 < j) (h1 : ∀ y ∈ P.drop j, lt x y = true) (h2 : lt x (P[j - 1]'(by omega)) = true) : ∀ y ∈ P.drop (j - 1), lt x y = true := by
  obtain ⟨i, rfl⟩ : ∃ i, j = i + 1 := ⟨j - 1, by omega⟩
  simp only [Nat.add_sub_cancel] at h2 ⊢
  rw [drop_at (by omega)]
  intro y hy
  rcases List.mem_cons.1 hy with rfl | hy
  · exact h2
  · exact h1 y hy
/-- All that stands behind place j goes behind x. -/
def Behind (lt : α → α → Bool) (P : List α) (x : α) (j : Nat) : Prop := ∀ y ∈ P.drop j, lt x y = true
theorem Behind.out {lt : α → α → Bool} {P : List α} {x : α} {j : Nat} (h : Behind lt P x j) : ∀ y ∈ P.drop j, lt x y = true := h
end

end Go.Proofs.Ytpjmcjdnobihbaa
