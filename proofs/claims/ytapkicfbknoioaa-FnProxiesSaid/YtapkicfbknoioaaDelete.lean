/- Contracts: slices.DeleteFunc at ints, removal of a number. No conditions beyond sizes. -/
import Derived.Test.YtapkicfbknoioaaInts2
import Derived.Test.YtapkicfbknoioaaIdxF
import Derived.Lib.SliceRun
namespace Go.Proofs.Ytapkicfbknoioaa
open Go.RowKit
set_option linter.unusedVariables false
set_option linter.unusedSimpArgs false

theorem ints_put (xs : List Int) (k : Nat) (x : Int) : (ints xs).set k (.int .i64 x) = ints (xs.set k x) := by simp [ints, List.map_set]

theorem own_setCells {e base g cap N : Nat} (news : List Value) : ∀ (w : World) (i : Nat) (cs : List Value), w.ownsRow base e 1 (.slice (some ⟨g, 0, none⟩) N cap) N cs → i + news.length ≤ N →
    (w.setCells g i news).ownsRow base e 1 (.slice (some ⟨g, 0, none⟩) N cap) N (cs.take i ++ news ++ cs.drop (i + news.length)) ∧ w.grownBy (w.setCells g i news) (some g) := by
  induction news with
  | nil => intro w i cs h hi; exact ⟨by simpa [World.setCells] using h, World.grownBy.refl _ _⟩
  | cons v r ih =>
    intro w i cs h hi
    simp only [List.length_cons] at hi
    have h1 := h.stored i v
    have h2 := ih _ (i + 1) _ h1.1 (by omega)
    have hl : cs.length = N := by simpa using h.1
    refine ⟨?_, h1.2.trans h2.2⟩
    have e1 : (cs.set i v).take (i + 1) ++ r ++ (cs.set i v).drop (i + 1 + r.length) = cs.take i ++ v :: r ++ cs.drop (i + (r.length + 1)) := by
      have hd : (cs.set i v).drop (i + 1 + r.length) = cs.drop (i + (r.length + 1)) := by
        rw [List.drop_set, if_pos (by omega)]
        congr 1; omega
      have ht : (cs.set i v).take (i + 1) = cs.take i ++ [v] := by
        rw [List.take_set, take_at (by omega : i < cs.length), set_mid _ _ _ [] _ (by simp; omega)]
      rw [hd, ht]
      simp
    have e2 : i + (v :: r).length = i + (r.length + 1) := by simp
    rw [e2, ← e1]
    exact h2.1

theorem own_cut {w : World} {base e size n m cap : Nat} {ao : Option Addr} {cs : List Value} (h : w.ownsRow base e size (.slice ao n cap) n cs) (hm : m ≤ n) : ao ≠ none → w.ownsRow base e size (.slice ao m cap) m (cs.take (m * size)) := by
  intro hne
  obtain ⟨hl, h2⟩ := h
  rcases h2 with ⟨hv, _⟩ | ⟨g, cap', cur, hv, hg, hh, h1, h3, h4, h5⟩
  · injection hv with h6; exact absurd h6 hne
  · injection hv with h6 h7 h8
    subst h6 h8
    have hms : m * size ≤ n * size := Nat.mul_le_mul_right _ hm
    refine ⟨by rw [List.length_take, hl]; omega, .inr ⟨g, _, cur, rfl, hg, hh, by omega, h3, h4, ?_⟩⟩
    rw [← h5, List.take_take, Nat.min_eq_left hms]

section
variable {P : Program}
theorem wpList_clear {w : World} {ops : Array Oper} {rest : List Oper} {o : Oper} {a : Act} {Q : Exit → Act → World → Prop} (hgd : o.guard = none) (x : Operand) (t : TypeId)
    (ho : o.op = .call { callee := .builtin .clear, args := #[x], argTypes := #[t] }) (e : TypeId) (z : Value) (ht : P.underlying t = some (.slice e)) (hv : ∀ w, (zeroValue e).run P w = .ok z w) (hz : z.cells = #[z]) (h1 : z.oneCell' = true)
    (b off n c : Nat) (hx : a.eval x = .slice (some ⟨b, off, none⟩) n c) (hn : 0 < n)
    (hc : ∀ j, j < n → (w.cell? ⟨b, off + j, none⟩).isSome = true) (hf : ∀ j, j < n → w.frozen? ⟨b, off + j, none⟩ = false)
    (h : wpList P ops Q rest (a.put o.dst (.tuple #[])) (w.setCells b off (List.replicate n z))) : wpList P ops Q (o :: rest) a w := by
  refine wpList_plain hgd fun _ hK => ?_
  have hr := Lib.run_clear_slice (P := P) w t e o.type z ht hv hz h1 b off n c hn hc hf
  unfold Oper.wp execOp
  simp only [ho, resolve, invoke, builtin, Sem.run_bind, Sem.run_pure, Result.andThen_ok, List.map_toArray, List.map_cons, List.map_nil, hx, hr]
  exact hK _ _ h
end

/-- What is kept of a list. -/
def keepF {α : Type} (p : α → Bool) (xs : List α) : List α := xs.filter fun x => !p x

theorem keep_idx {α : Type} (p : α → Bool) (xs : List α) (i : Nat) (h : idxFrom p 0 xs = i) : i < xs.length ∧ keepF p (xs.take (i + 1)) = xs.take i := by
  have H : ∀ (i : Nat) (xs : List α) (k : Nat), idxFrom p k xs = ((k + i : Nat) : Int) → i < xs.length ∧ keepF p (xs.take (i + 1)) = xs.take i := by
    clear h xs i
    intro i
    induction i with
    | zero =>
      intro xs k h
      cases xs with
      | nil => simp [idxFrom] at h
      | cons a r =>
        simp only [idxFrom] at h
        cases hp : p a with
        | true => simp [keepF, hp]
        | false =>
          rw [hp] at h
          simp only [Bool.false_eq_true, if_false] at h
          have hb : ∀ (l : List α) (k m : Nat), idxFrom p k l = (m : Int) → k ≤ m := by
            intro l
            induction l with
            | nil => intro k m h; simp [idxFrom] at h
            | cons b l ih =>
              intro k m h
              simp only [idxFrom] at h
              split at h
              · omega
              · have := ih _ _ h; omega
          have := hb _ _ _ h
          omega
    | succ i ih =>
      intro xs k h
      cases xs with
      | nil => simp [idxFrom] at h; omega
      | cons a r =>
        simp only [idxFrom] at h
        cases hp : p a with
        | true => rw [hp] at h; simp at h; omega
        | false =>
          rw [hp] at h
          simp only [Bool.false_eq_true, if_false] at h
          obtain ⟨h1, h2⟩ := ih r (k + 1) (by rw [h]; congr 1; omega)
          refine ⟨by simp; omega, ?_⟩
          simp only [List.take_succ_cons]
          simp only [keepF] at h2 ⊢
          rw [List.filter_cons, hp]
          simp [h2]
  exact H i xs 0 (by simpa using h)

theorem keep_none {α : Type} (p : α → Bool) (xs : List α) (h : idxFrom p 0 xs = -1) : keepF p xs = xs := by
  have := idxBy_neg p xs
  rw [← idxFrom_eq, h] at this
  unfold keepF
  rw [List.filter_eq_self]
  intro x hx
  have hn : ¬ p x = true := fun hp => by
    have : xs.any p = true := List.any_eq_true.2 ⟨x, hx, hp⟩
    simp_all
  simpa using hn

/-- One more number is looked at. -/
theorem keep_out {α : Type} (p : α → Bool) {xs : List α} {j : Nat} (hj : j < xs.length) (h : p xs[j] = true) : keepF p (xs.take (j + 1)) = keepF p (xs.take j) := by
  rw [take_at hj]; simp only [keepF, List.filter_append]; simp [h]
theorem keep_in {α : Type} (p : α → Bool) {xs : List α} {j : Nat} (hj : j < xs.length) (h : p xs[j] = false) : keepF p (xs.take (j + 1)) = keepF p (xs.take j) ++ [xs[j]] := by
  rw [take_at hj]; simp only [keepF, List.filter_append]; simp [h]

/-- Where a removal stands: cs is what lies there, i are kept of the first j of xs. -/
def Kept (p : Int → Bool) (xs cs : List Int) (i j : Nat) : Prop := cs.length = xs.length ∧ i < j ∧ j ≤ xs.length ∧ cs.take i = keepF p (xs.take j) ∧ cs.drop j = xs.drop j
theorem Kept.get {p : Int → Bool} {xs cs : List Int} {i j : Nat} (h : Kept p xs cs i j) (hj : j < xs.length) : cs[j]'(by rw [h.1]; exact hj) = xs[j] := by
  obtain ⟨h1, h2, h3, h4, h5⟩ := h
  rw [drop_at hj, drop_at (by omega)] at h5
  exact (List.cons.inj h5).1
theorem Kept.out {p : Int → Bool} {xs cs : List Int} {i j : Nat} (h : Kept p xs cs i j) (hj : j < xs.length) (hp : p xs[j] = true) : Kept p xs cs i (j + 1) := by
  obtain ⟨h1, h2, h3, h4, h5⟩ := h
  refine ⟨h1, by omega, by omega, by rw [keep_out p hj hp]; exact h4, ?_⟩
  rw [drop_at hj, drop_at (by omega)] at h5
  exact (List.cons.inj h5).2
theorem Kept.into {p : Int → Bool} {xs cs : List Int} {i j : Nat} (h : Kept p xs cs i j) (hj : j < xs.length) (hp : p xs[j] = false) : Kept p xs (cs.set i xs[j]) (i + 1) (j + 1) := by
  obtain ⟨h1, h2, h3, h4, h5⟩ := h
  refine ⟨by simpa using h1, by omega, by omega, ?_, ?_⟩
  · rw [keep_in p hj hp, ← h4, List.take_set, take_at (by omega : i < cs.length), set_mid _ _ _ [] _ (by simp; omega)]
  · rw [drop_at hj, drop_at (by omega)] at h5
    rw [List.drop_set, if_pos (by omega)]
    exact (List.cons.inj h5).2
theorem Kept.done {p : Int → Bool} {xs cs : List Int} {i : Nat} (h : Kept p xs cs i xs.length) : cs.take i = keepF p xs ∧ (keepF p xs).length = i := by
  obtain ⟨h1, h2, h3, h4, h5⟩ := h
  rw [List.take_length] at h4
  exact ⟨h4, by rw [← h4]; simp; omega⟩

end Go.Proofs.Ytapkicfbknoioaa
