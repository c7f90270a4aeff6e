/- The stable insertion sort, plain: how it stands in the middle, what it gives. Of no program. No conditions. -/
import Derived.Test.YtpjmcjdnobihbaaBase
namespace Go.Proofs.Ytpjmcjdnobihbaa
open Go.RowKit
set_option linter.unusedVariables false
set_option linter.unusedSimpArgs false

section
variable {α : Type}
/-- x put into a list that is held turned round. -/
def insRev (lt : α → α → Bool) (x : α) : List α → List α
  | [] => [x]
  | y :: r => if lt x y then y :: insRev lt x r else x :: y :: r
/-- x put into a list from its end on. -/
def insEnd (lt : α → α → Bool) (P : List α) (x : α) : List α := (insRev lt x P.reverse).reverse
def sortS (lt : α → α → Bool) (xs : List α) : List α := xs.foldl (insEnd lt) []
theorem insRev_len (lt : α → α → Bool) (x : α) (l : List α) : (insRev lt x l).length = l.length + 1 := by
  induction l with
  | nil => rfl
  | cons y r ih => simp only [insRev]; split <;> simp [ih]
theorem insEnd_len (lt : α → α → Bool) (P : List α) (x : α) : (insEnd lt P x).length = P.length + 1 := by simp [insEnd, insRev_len]
theorem insRev_perm (lt : α → α → Bool) (x : α) (l : List α) : (insRev lt x l).Perm (x :: l) := by
  induction l with
  | nil => exact .refl _
  | cons y r ih =>
    simp only [insRev]
    split
    · exact (List.Perm.cons y ih).trans (List.Perm.swap x y r)
    · exact .refl _
theorem insEnd_perm (lt : α → α → Bool) (P : List α) (x : α) : (insEnd lt P x).Perm (x :: P) := by
  unfold insEnd
  exact (List.reverse_perm _).trans ((insRev_perm lt x P.reverse).trans (List.Perm.cons x (List.reverse_perm P)))
/-- Where x stands when the walk from the end stops. -/
theorem insRev_at (lt : α → α → Bool) (x : α) : ∀ (a b : List α), (∀ y ∈ a, lt x y = true) → (∀ y r, b = y :: r → lt x y = false) → insRev lt x (a ++ b) = a ++ x :: b := by
  intro a
  induction a with
  | nil =>
    intro b _ h
    cases b with
    | nil => rfl
    | cons y r => simp [insRev, h y r rfl]
  | cons y a ih =>
    intro b h1 h2
    simp only [List.cons_append, insRev, h1 y (by simp), if_true]
    rw [ih b (fun z hz => h1 z (List.mem_cons_of_mem _ hz)) h2]
theorem insEnd_at (lt : α → α → Bool) (x : α) {P : List α} {j : Nat} (hj : j ≤ P.length) (h1 : ∀ y ∈ P.drop j, lt x y = true) (h2 : ∀ h : 0 < j, lt x (P[j - 1]'(by omega)) = false) : insEnd lt P x = P.take j ++ x :: P.drop j := by
  unfold insEnd
  have e : P.reverse = (P.drop j).reverse ++ (P.take j).reverse := by rw [← List.reverse_append, List.take_append_drop]
  rw [e, insRev_at lt x _ _ (fun y hy => h1 y (List.mem_reverse.1 hy)) ?_]
  · simp
  · intro y r hyr
    have hj0 : 0 < j := by
      rcases Nat.eq_zero_or_pos j with h0 | h0
      · subst h0; simp at hyr
      · exact h0
    have : y = P[j - 1]'(by omega) := by
      have h3 : (P.take j).reverse[0]? = some y := by rw [hyr]; rfl
      rw [List.getElem?_reverse (by simp; omega), List.getElem?_take] at h3
      simp only [List.length_take] at h3
      rw [if_pos (by omega), List.getElem?_eq_getElem (by omega)] at h3
      injection h3 with h3
      rw [← h3]
      congr 1
      omega
    rw [this]
    exact h2 hj0
theorem sortS_push (lt : α → α → Bool) (xs : List α) (x : α) : sortS lt (xs ++ [x]) = insEnd lt (sortS lt xs) x := by simp [sortS, List.foldl_append]
theorem sortS_len (lt : α → α → Bool) (xs : List α) : (sortS lt xs).length = xs.length := by
  unfold sortS
  have H : ∀ (l acc : List α), (l.foldl (insEnd lt) acc).length = acc.length + l.length := by
    intro l
    induction l with
    | nil => intro acc; simp
    | cons a r ih => intro acc; rw [List.foldl_cons, ih, insEnd_len, List.length_cons]; omega
  simpa using H xs []
theorem sortS_perm (lt : α → α → Bool) (xs : List α) : (sortS lt xs).Perm xs := by
  unfold sortS
  have H : ∀ (l acc : List α), (l.foldl (insEnd lt) acc).Perm (acc ++ l) := by
    intro l
    induction l with
    | nil => intro acc; simp
    | cons a r ih =>
      intro acc
      rw [List.foldl_cons]
      refine (ih _).trans ?_
      refine ((insEnd_perm lt acc a).append_right r).trans ?_
      exact (List.perm_middle (l₁ := acc) (l₂ := r) (a := a)).symm
  simpa using H xs []
theorem sortS_take (lt : α → α → Bool) {xs : List α} {k : Nat} (h : k < xs.length) : sortS lt (xs.take (k + 1)) = insEnd lt (sortS lt (xs.take k)) xs[k] := by
  rw [take_at h, sortS_push]

/-- What it gives is in order. -/
theorem insRev_pw {R : α → α → Prop} (ht : ∀ a b c, R a b → R b c → R a c) (lt : α → α → Bool) (x : α) (l : List α) (h1 : ∀ y ∈ l, lt x y = true → R x y) (h2 : ∀ y ∈ l, lt x y = false → R y x) (hl : l.Pairwise (fun a b => R b a)) :
    (insRev lt x l).Pairwise (fun a b => R b a) := by
  induction l with
  | nil => simp [insRev]
  | cons y r ih =>
    obtain ⟨h3, h4⟩ := List.pairwise_cons.1 hl
    simp only [insRev]
    cases hx : lt x y with
    | true =>
      simp only [if_true]
      refine List.pairwise_cons.2 ⟨fun z hz => ?_, ih (fun z hz => h1 z (List.mem_cons_of_mem _ hz)) (fun z hz => h2 z (List.mem_cons_of_mem _ hz)) h4⟩
      rcases List.mem_cons.1 ((insRev_perm lt x r).mem_iff.1 hz) with rfl | hz
      · exact h1 y (by simp) hx
      · exact h3 z hz
    | false =>
      simp only [Bool.false_eq_true, if_false]
      refine List.pairwise_cons.2 ⟨fun z hz => ?_, hl⟩
      rcases List.mem_cons.1 hz with rfl | hz
      · exact h2 z (by simp) hx
      · exact ht _ _ _ (h3 z hz) (h2 y (by simp) hx)
theorem insEnd_pw {R : α → α → Prop} (ht : ∀ a b c, R a b → R b c → R a c) (lt : α → α → Bool) (P : List α) (x : α) (h1 : ∀ y ∈ P, lt x y = true → R x y) (h2 : ∀ y ∈ P, lt x y = false → R y x) (hl : P.Pairwise R) : (insEnd lt P x).Pairwise R := by
  unfold insEnd
  rw [List.pairwise_reverse]
  exact insRev_pw ht lt x _ (fun y hy => h1 y (List.mem_reverse.1 hy)) (fun y hy => h2 y (List.mem_reverse.1 hy)) (List.pairwise_reverse.2 hl)
end

end Go.Proofs.Ytpjmcjdnobihbaa
