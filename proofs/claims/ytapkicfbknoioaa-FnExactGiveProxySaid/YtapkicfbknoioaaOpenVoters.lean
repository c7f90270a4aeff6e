/- Voters that an argument holds read as lists. No conditions. -/
import Derived.Test.YtapkicfbknoioaaOpenRow
import Derived.Test.YtapkicfbknoioaaVoterS
namespace Go.Proofs.Ytapkicfbknoioaa
open Go.RowKit Go.ChangeShapes Go.WideShapes Go.Deep Go.Joins
set_option linter.unusedVariables false
set_option linter.unusedSimpArgs false

instance : Inhabited DProxy := ⟨⟨0, 0⟩⟩

section
variable {H : Type} {enc : TypeId × Value → H} {w : World} {base : Nat} {spare : Nat → Bool} {held : Bool}

theorem rd_proxy (n : Nat) (cs : List Value) (y : DataW H × List MemPlace) (h : DataW.trod enc Try.prog w base spare held n 84 cs = some y) : ∃ x : DProxy, cs = x.cs := by
  obtain ⟨hl, hf⟩ := rd_fields Try.underlying84 (by kernel_rfl) (by kernel_rfl) h
  obtain ⟨c0, c1, rfl⟩ := list2 hl
  obtain ⟨_, _, _, e0, h0⟩ := hf 0 _ rfl
  obtain ⟨_, _, _, e1, h1⟩ := hf 1 _ rfl
  simp only [List.getElem?_cons_zero, List.getElem?_cons_succ, Option.some.injEq] at e0 e1
  subst e0 e1
  obtain ⟨a, rfl, _⟩ := rd_int Try.underlying3 h0
  obtain ⟨b, rfl, _⟩ := rd_int Try.underlying3 h1
  exact ⟨⟨a, b⟩, rfl⟩

set_option maxRecDepth 100000 in
theorem open_voters {r : Reach} {b0 : Nat} {v : Value} {d : DataW H} {p : List MemPlace} (hv : Value.okWide Try.prog w r b0 25 v) (h : DataW.Trod enc Try.prog w base spare held 25 v d p) :
    ∃ (c e : Value) (d : DVoters), v = .agg #[c, e] ∧ VotersAt w c e d := by
  obtain ⟨cs, rfl, hl, hf⟩ := rd_agg Try.underlying25 (by kernel_rfl) (by kernel_rfl) hv h
  obtain ⟨c0, c1, rfl⟩ := list2 hl
  obtain ⟨_, _, _, e0, h0⟩ := hf 0 _ rfl
  obtain ⟨_, _, _, e1, h1⟩ := hf 1 _ rfl
  simp only [List.getElem?_cons_zero, List.getElem?_cons_succ, Option.some.injEq] at e0 e1
  subst e0 e1
  obtain ⟨u, xs, e, hi⟩ := rd_ints Try.underlying22 Try.underlying3 (by kernel_rfl) h0
  obtain ⟨u', ps, e', hi'⟩ := rd_row DProxy.cs 2 (fun _ => rfl) (by omega) Try.underlying23 (by kernel_rfl) rd_proxy h1
  simp only [List.cons.injEq, and_true] at e e'
  subst e e'
  exact ⟨_, _, ⟨xs, ps⟩, rfl, hi, hi'⟩

end
end Go.Proofs.Ytapkicfbknoioaa
