/- Committees that an argument holds read as a list. No conditions. -/
import Derived.Test.YtilomfpomibimaaOpenRow
import Derived.Test.YtilomfpomibimaaOpenNest
import Derived.Test.YtilomfpomibimaaCommS
namespace Go.Proofs.Ytilomfpomibimaa
open Go.RowKit Go.ChangeShapes Go.WideShapes Go.Deep Go.Joins
set_option linter.unusedVariables false
set_option linter.unusedSimpArgs false

instance : Inhabited DCommittee := ⟨⟨ByteArray.empty, [], 0⟩⟩
instance : Inhabited (Value × DCommittee) := ⟨(.bool false, ⟨ByteArray.empty, [], 0⟩)⟩

section
variable {H : Type} {enc : TypeId × Value → H} {w : World} {base : Nat} {spare : Nat → Bool} {held : Bool}

theorem rd_committee (n : Nat) (cs : List Value) (y : DataW H × List MemPlace) (h : DataW.trod enc Try.prog w base spare held n 67 cs = some y) : ∃ x : Value × DCommittee, cs = ccell x.1 x.2 ∧ (IntsAt w x.1 x.2.members ∧ x.2.name.size ≤ maxLen) := by
  obtain ⟨hl, hf⟩ := rd_fields Try.underlying67 (by kernel_rfl) (by kernel_rfl) h
  obtain ⟨c0, c1, c2, rfl⟩ := list3 hl
  obtain ⟨_, _, _, e0, h0⟩ := hf 0 _ rfl
  obtain ⟨_, _, _, e1, h1⟩ := hf 1 _ rfl
  obtain ⟨_, _, _, e2, h2⟩ := hf 2 _ rfl
  simp only [List.getElem?_cons_zero, List.getElem?_cons_succ, Option.some.injEq] at e0 e1 e2
  subst e0 e1 e2
  obtain ⟨s, e, _, hs⟩ := DataW.trod_string Try.underlying9 h0
  obtain ⟨u, xs, e', hi⟩ := rd_ints Try.underlying40 Try.underlying3 (by kernel_rfl) h1
  obtain ⟨b, rfl, _⟩ := rd_int Try.underlying3 h2
  simp only [List.cons.injEq, and_true] at e e'
  subst e e'
  exact ⟨(_, ⟨s, xs, b⟩), rfl, hi, hs⟩

set_option maxRecDepth 100000 in
theorem open_committees {r : Reach} {b0 : Nat} {v : Value} {d : DataW H} {p : List MemPlace} (hv : Value.okWide Try.prog w r b0 22 v) (h : DataW.Trod enc Try.prog w base spare held 22 v d p) :
    ∃ xs : List DCommittee, CommsAt w v xs ∧ NamesOk xs := by
  obtain ⟨a, l, c, rfl⟩ := okWide_slice Try.underlying22 hv
  obtain ⟨fuel, hf⟩ := h
  obtain ⟨v', es, e, hi, hR⟩ := rd_nest (fun p : Value × DCommittee => ccell p.1 p.2) (fun p => IntsAt w p.1 p.2.members ∧ p.2.name.size ≤ maxLen) 3 (fun _ => rfl) (by omega) Try.underlying22 (by kernel_rfl) rd_committee hf
  simp only [Value.cells, List.cons.injEq, and_true] at e
  subst e
  exact ⟨es.map Prod.snd, ⟨es, rfl, hi, fun p hp => (hR p hp).1⟩, fun x hx => by
    obtain ⟨p, hp, rfl⟩ := List.mem_map.1 hx
    exact (hR p hp).2⟩

end
end Go.Proofs.Ytilomfpomibimaa
