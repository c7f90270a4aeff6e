/- A slice of structs that an argument holds reads as a list. Of no program. No conditions. -/
import Derived.Test.YtapkicfbknoioaaOpen
namespace Go.Proofs.Ytapkicfbknoioaa
open Go.RowKit Go.ChangeShapes Go.WideShapes Go.Deep Go.Joins
set_option linter.unusedVariables false
set_option linter.unusedSimpArgs false

section
variable {H : Type} {enc : TypeId × Value → H} {P : Program} {w : World} {base : Nat} {spare : Nat → Bool} {held : Bool}

theorem flat_length {α : Type} (f : α → List Value) (size : Nat) (hsz : ∀ x, (f x).length = size) (xs : List α) : (xs.flatMap f).length = xs.length * size := by
  induction xs with
  | nil => simp
  | cons a r ih => simp only [List.flatMap_cons, List.length_append, ih, hsz, List.length_cons, Nat.add_mul]; omega
theorem flat_get {α : Type} (f : α → List Value) (size : Nat) (hsz : ∀ x, (f x).length = size) (xs : List α) (k j : Nat) (hk : k < xs.length) (hj : j < size) : (xs.flatMap f)[k * size + j]? = (f xs[k])[j]? := by
  induction xs generalizing k with
  | nil => simp at hk
  | cons a r ih =>
    have hl := hsz a
    simp only [List.flatMap_cons]
    cases k with
    | zero => rw [List.getElem?_append_left (by omega)]; simp
    | succ k =>
      rw [List.getElem?_append_right (by rw [hl, Nat.add_mul]; omega)]
      have e : (k + 1) * size + j - (f a).length = k * size + j := by rw [hl, Nat.add_mul]; omega
      rw [e]
      simpa using ih k (by simpa using hk)

theorem rd_row {α : Type} [Inhabited α] (f : α → List Value) (size : Nat) (hsz : ∀ x, (f x).length = size) (h0 : 0 < size) {t e : TypeId} {fuel : Nat} {cs : List Value} {x : DataW H × List MemPlace}
    (ht : P.underlying t = some (.slice e)) (hc : P.cellsOf e = size)
    (helem : ∀ (n : Nat) (cs' : List Value) (y : DataW H × List MemPlace), DataW.trod enc P w base spare held n e cs' = some y → ∃ x, cs' = f x)
    (h : DataW.trod enc P w base spare held fuel t cs = some x) : ∃ (v : Value) (xs : List α), cs = [v] ∧ RowAt w v xs.length size (xs.flatMap f) := by
  rcases open_slice ht h with ⟨rfl, _⟩ | ⟨a, len, cap, m, n, D, Pl, rfl, hb, hl, hm, hmm, _, hx⟩
  · exact ⟨_, [], rfl, RowAt.nil w size⟩
  · have hlm : len ≤ m := by rw [hmm]; split <;> omega
    rw [hc] at hx
    obtain ⟨X, hX⟩ := choose_lt (α := α) (n := len) (p := fun i x => ∀ j, j < size → w.cell? ((a.add (i * size)).add j) = (f x)[j]?) (fun i hi => by
      obtain ⟨cs', h1, h2⟩ := hx i (by omega)
      obtain ⟨_, _, h3⟩ := World.cells?_some h1
      obtain ⟨x, rfl⟩ := helem _ _ _ h2
      exact ⟨x, h3⟩)
    refine ⟨_, (List.range len).map X, rfl, by rw [flat_length f size hsz], some a, cap, by simp, by simpa using hl, hm, fun hn => ?_⟩
    have hn' : 0 < len := by simpa using hn
    have hf0 : ∃ u, (f (X 0))[0]? = some u := ⟨_, List.getElem?_eq_getElem (by rw [hsz]; exact h0)⟩
    obtain ⟨u0, hu0⟩ := hf0
    have hc0 := hX 0 hn' 0 h0
    rw [hu0] at hc0
    obtain ⟨b', off', he', hb'⟩ : ∃ b' off', a = ⟨b', off', none⟩ ∧ b' < w.heap.size := by
      refine addr_form (u := u0) ?_
      simpa [Addr.add] using hc0
    subst he'
    refine ⟨b', off', rfl, hb', fun k hk => ?_⟩
    have hk' : k < len * size := by rw [flat_length f size hsz] at hk; simpa using hk
    have hi : k / size < len := Nat.div_lt_of_lt_mul (by rw [Nat.mul_comm]; exact hk')
    have hj : k % size < size := Nat.mod_lt _ h0
    have hkk : k / size * size + k % size = k := Nat.div_add_mod' k size
    have h4 := hX _ hi _ hj
    have h5 := flat_get f size hsz ((List.range len).map X) (k / size) (k % size) (by simpa using hi) hj
    rw [hkk] at h5
    simp only [List.getElem_map, List.getElem_range] at h5
    rw [← h5, List.getElem?_eq_getElem hk, add_add, hkk, Addr.add_lit] at h4
    exact h4
end

end Go.Proofs.Ytapkicfbknoioaa
