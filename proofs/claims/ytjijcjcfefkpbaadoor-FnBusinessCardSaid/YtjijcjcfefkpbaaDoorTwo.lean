/- Two slices of ints that the call owns, apart. No conditions. -/
import Derived.Test.YtjijcjcfefkpbaaDoorPush
import Derived.Test.YtjijcjcfefkpbaaDoorIntS
namespace Go.Proofs.YtjijcjcfefkpbaaDoor
open Go.RowKit
set_option linter.unusedVariables false
set_option linter.unusedSimpArgs false

/-- One int appended, where another slice of the call's own lies beside. -/
theorem wpList_push_int2 {P : Program} {w : World} {ops : Array Oper} {rest : List Oper} {o : Oper} {a : Act} {Q : Exit → Act → World → Prop} (hgd : o.guard = none) (s x : Operand) (t : TypeId)
    (ho : o.op = .call { callee := .builtin .append, args := #[s, x], argTypes := #[t, t] })
    (B : Nat) (e e' : TypeId) (hinfo : (P.info? e).map (fun i => (i.zero, i.size, i.bytes)) = some (some (.int .i64 0), 1, 8)) (ht : P.underlying t = some (.slice e))
    (v : Value) (xs : List Int) (y : Int) (hs : a.eval s = v) (hown : OwnI e w B v xs) (hx : a.eval x = .slice (some ⟨w.heap.size, 0, none⟩) 1 1) (hB : B ≤ w.heap.size) (hn : xs.length ≤ 4000000)
    (h : ∀ v' w', OwnI e w' B v' (xs ++ [y]) → w.grownBy w' v.ownBlock → (v'.ownBlock = v.ownBlock ∨ v'.ownBlock = some (w.heap.size + 1)) → wpList P ops Q rest (a.put o.dst v') w') :
    wpList P ops Q (o :: rest) a (w.alloc (.cells #[.int .i64 y] e')) := by
  obtain ⟨i0, hi, hz0, hz1, hz2⟩ := info_parts hinfo
  have hal : Below w.heap.size w (w.alloc (.cells #[.int .i64 y] e')) := (Below.refl _ _).alloc (Nat.le_refl _) _
  refine wpList_append_row _ hgd s x t ho B e i0 (.int .i64 0) 1 8 ht hi hz0 hz1 hz2 rfl (by decide) v _ _ hs (own_below hown hal) _ 1 [.int .i64 y] hx (row_one w (.int .i64 y) e') (ints_one [y]) (by unfold maxLen; omega) (by omega) (by simp; omega) ?_
  intro v' w' h1 h2 h3
  refine h v' w' (by unfold OwnI; simpa [ints] using h1) ?_ (by simpa using h3)
  have hsz : w.heap.size ≤ w'.heap.size := by have := h2.size; simp at this; omega
  exact ⟨h2.os, h2.tape, h2.output, hsz, fun k hk hne => (h2.block k (by simp; omega) hne).trans (hal.block k hk)⟩

/-- Two slices of the call's own, apart. -/
def Two (w : World) (B : Nat) (u : Value) (am : List Int) (v : Value) (o : List Int) : Prop :=
  OwnI 3 w B u am ∧ OwnI 3 w B v o ∧ (u.ownBlock = none ∨ u.ownBlock ≠ v.ownBlock)
theorem Two.below {w w' : World} {B : Nat} {u v : Value} {am o : List Int} (h : Two w B u am v o) (hb : Below w.heap.size w w') : Two w' B u am v o := ⟨OwnI.below h.1 hb, OwnI.below h.2.1 hb, h.2.2⟩
/-- The second one has grown. -/
theorem Two.push {w w' : World} {B : Nat} {u v v' : Value} {am o o' : List Int} (h : Two w B u am v o) (ho : OwnI 3 w' B v' o') (hg : w.grownBy w' v.ownBlock) (hv : v'.ownBlock = v.ownBlock ∨ v'.ownBlock = some (w.heap.size + 1)) : Two w' B u am v' o' := by
  obtain ⟨h1, h2, h3⟩ := h
  refine ⟨h1.kept hg h3, ho, ?_⟩
  rcases hv with hv | hv
  · rw [hv]; exact h3
  · rw [hv]
    cases hu : u.ownBlock with
    | none => exact .inl rfl
    | some g =>
      refine .inr fun hc => ?_
      have := (h1.lt g hu).2
      simp only [Option.some.injEq] at hc
      omega
/-- The first one is another one, new. -/
theorem Two.fresh {w w' : World} {B : Nat} {u u' v : Value} {am am' o : List Int} (h : Two w B u am v o) (hB : B ≤ w.heap.size) (hb : Below w.heap.size w w') (hn : OwnI 3 w' w.heap.size u' am') : Two w' B u' am' v o := by
  refine ⟨own_base hn hB, OwnI.below h.2.1 hb, ?_⟩
  cases hu : u'.ownBlock with
  | none => exact .inl rfl
  | some g =>
    refine .inr fun hc => ?_
    have h1 := (hn.lt g hu).1
    have h2 := (h.2.1.lt g hc.symm).2
    omega

theorem Two.swap {w : World} {B : Nat} {u v : Value} {am o : List Int} (h : Two w B u am v o) : Two w B v o u am := by
  refine ⟨h.2.1, h.1, ?_⟩
  cases hv : v.ownBlock with
  | none => exact .inl rfl
  | some g =>
    refine .inr fun hc => ?_
    rcases h.2.2 with h4 | h4
    · rw [h4] at hc; cases hc
    · exact h4 (by rw [hv]; exact hc.symm)
/-- A number of the second one is written. -/
theorem Two.set {w : World} {B g n c : Nat} {u : Value} {am o : List Int} (h : Two w B u am (.slice (some ⟨g, 0, none⟩) n c) o) (i : Nat) (y : Int) : Two (w.setCell ⟨g, i, none⟩ (.int .i64 y)) B u am (.slice (some ⟨g, 0, none⟩) n c) (o.set i y) := by
  have hf := (rowAt_of_own h.2.1)
  obtain ⟨_, ao, cp, hv, h1, h2, _⟩ := hf
  cases hv
  have hs := World.ownsRow.stored h.2.1 i (.int .i64 y)
  have e : (ints o).set i (.int .i64 y) = ints (o.set i y) := by simp [ints, List.map_set]
  rw [e] at hs
  refine ⟨h.1.kept hs.2 ?_, ?_, h.2.2⟩
  · rcases h.2.2 with h4 | h4
    · exact .inl h4
    · exact .inr h4
  · unfold OwnI
    rw [List.length_set]
    exact hs.1
theorem Two.len {w : World} {B g n c : Nat} {u : Value} {am o : List Int} (h : Two w B u am (.slice (some ⟨g, 0, none⟩) n c) o) : n = o.length := by
  obtain ⟨_, ao, cp, hv, _⟩ := rowAt_of_own h.2.1
  cases hv
  rfl
theorem Two.cell {w : World} {B g n c : Nat} {u : Value} {am o : List Int} (h : Two w B u am (.slice (some ⟨g, 0, none⟩) n c) o) {i : Nat} (hi : i < o.length) : w.cell? ⟨g, i, none⟩ = some (.int .i64 (o.getD i 0)) := by
  obtain ⟨_, ao, cp, hv, h1, h2, h3⟩ := rowAt_of_own h.2.1
  cases hv
  obtain ⟨b, off, hb, hlt, hc⟩ := h3 (by omega)
  cases hb
  have := hc.int hi
  rw [Nat.zero_add] at this
  rw [this]
  simp [List.getD_eq_getElem?_getD, List.getElem?_eq_getElem hi]
theorem Two.free {w : World} {B g n c : Nat} {u : Value} {am o : List Int} (h : Two w B u am (.slice (some ⟨g, 0, none⟩) n c) o) (i : Nat) : w.frozen? ⟨g, i, none⟩ = false := by
  have := h.len
  subst this
  exact World.ownsRow.frozenAt h.2.1 i
theorem Two.form {w : World} {B : Nat} {u v : Value} {am o : List Int} (h : Two w B u am v o) (h0 : 0 < o.length) : ∃ g c, v = .slice (some ⟨g, 0, none⟩) o.length c ∧ B ≤ g ∧ g < w.heap.size ∧ o.length ≤ c := by
  rcases h.2.1.2 with ⟨_, h2⟩ | ⟨g, cap, cur, hv, hb, hh, h1, _⟩
  · omega
  · exact ⟨g, cap, hv, hb, (Array.getElem?_eq_some_iff.1 hh).1, h1⟩

end Go.Proofs.YtjijcjcfefkpbaaDoor
