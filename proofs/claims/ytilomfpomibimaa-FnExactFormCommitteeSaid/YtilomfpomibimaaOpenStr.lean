/- A text that an argument holds. No conditions. -/
import Derived.Test.YtilomfpomibimaaOpen
namespace Go.Proofs.Ytilomfpomibimaa
open Go.RowKit Go.ChangeShapes Go.WideShapes Go.Deep Go.Joins
set_option linter.unusedVariables false
set_option linter.unusedSimpArgs false

set_option maxRecDepth 100000 in
theorem open_str {H : Type} {enc : TypeId × Value → H} {w : World} {base : Nat} {spare : Nat → Bool} {held : Bool} {r : Reach} {b0 : Nat} {v : Value} {d : DataW H} {p : List MemPlace} (hv : Value.okWide Try.prog w r b0 9 v) (h : DataW.Trod enc Try.prog w base spare held 9 v d p) :
    ∃ s : ByteArray, v = .string s ∧ s.size ≤ maxLen := by
  obtain ⟨s', rfl⟩ := okWide_string Try.underlying9 hv
  obtain ⟨fuel, hf⟩ := h
  obtain ⟨s, e, _, hs⟩ := DataW.trod_string Try.underlying9 hf
  simp only [Value.cells, List.cons.injEq, and_true, Value.string.injEq] at e
  subst e
  exact ⟨_, rfl, hs⟩
end Go.Proofs.Ytilomfpomibimaa
