/- Rankings that an argument holds read as a list. No conditions. -/
import Derived.Test.YtgjgdephpliolaaOpenNest
import Derived.Test.YtgjgdephpliolaaRankS
namespace Go.Proofs.Ytgjgdephpliolaa
open Go.RowKit Go.ChangeShapes Go.WideShapes Go.Deep Go.Joins
set_option linter.unusedVariables false
set_option linter.unusedSimpArgs false

instance : Inhabited DRanking := ⟨⟨[], 0⟩⟩
instance : Inhabited (Value × DRanking) := ⟨(.bool false, ⟨[], 0⟩)⟩

section
variable {H : Type} {enc : TypeId × Value → H} {w : World} {base : Nat} {spare : Nat → Bool} {held : Bool}

theorem rd_ranking (n : Nat) (cs : List Value) (y : DataW H × List MemPlace) (h : DataW.trod enc Try.prog w base spare held n 74 cs = some y) : ∃ x : Value × DRanking, cs = rcell x.1 x.2 ∧ IntsAt w x.1 x.2.order := by
  obtain ⟨hl, hf⟩ := rd_fields Try.underlying74 (by kernel_rfl) (by kernel_rfl) h
  obtain ⟨c0, c1, rfl⟩ := list2 hl
  obtain ⟨_, _, _, e0, h0⟩ := hf 0 _ rfl
  obtain ⟨_, _, _, e1, h1⟩ := hf 1 _ rfl
  simp only [List.getElem?_cons_zero, List.getElem?_cons_succ, Option.some.injEq] at e0 e1
  subst e0 e1
  obtain ⟨u, xs, e, hi⟩ := rd_ints Try.underlying27 Try.underlying3 (by kernel_rfl) h0
  obtain ⟨b, rfl, _⟩ := rd_int Try.underlying3 h1
  simp only [List.cons.injEq, and_true] at e
  subst e
  exact ⟨(_, ⟨xs, b⟩), rfl, hi⟩

set_option maxRecDepth 100000 in
theorem open_rankings {r : Reach} {b0 : Nat} {v : Value} {d : DataW H} {p : List MemPlace} (hv : Value.okWide Try.prog w r b0 46 v) (h : DataW.Trod enc Try.prog w base spare held 46 v d p) :
    ∃ xs : List DRanking, RanksAt w v xs := by
  obtain ⟨a, l, c, rfl⟩ := okWide_slice Try.underlying46 hv
  obtain ⟨fuel, hf⟩ := h
  obtain ⟨v', es, e, hi, hR⟩ := rd_nest (fun p : Value × DRanking => rcell p.1 p.2) (fun p => IntsAt w p.1 p.2.order) 2 (fun _ => rfl) (by omega) Try.underlying46 (by kernel_rfl) rd_ranking hf
  simp only [Value.cells, List.cons.injEq, and_true] at e
  subst e
  exact ⟨es.map Prod.snd, es, rfl, hi, hR⟩

end
end Go.Proofs.Ytgjgdephpliolaa
