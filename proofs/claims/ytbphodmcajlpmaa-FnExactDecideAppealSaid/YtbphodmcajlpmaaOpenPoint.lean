/- A slice of points that an argument holds reads as a list. No conditions. -/
import Derived.Test.YtbphodmcajlpmaaOpenRow
import Derived.Test.YtbphodmcajlpmaaPointS
namespace Go.Proofs.Ytbphodmcajlpmaa
open Go.RowKit Go.ChangeShapes Go.WideShapes Go.Deep Go.Joins
set_option linter.unusedVariables false
set_option linter.unusedSimpArgs false

instance : Inhabited DPoint := ⟨⟨0, 0, false, 0, 0, 0, 0⟩⟩
theorem list7 {α : Type} {l : List α} (h : l.length = 7) : ∃ a b c d e f g, l = [a, b, c, d, e, f, g] := by
  match l, h with
  | [a, b, c, d, e, f, g], _ => exact ⟨a, b, c, d, e, f, g, rfl⟩

section
variable {H : Type} {enc : TypeId × Value → H} {w : World} {base : Nat} {spare : Nat → Bool} {held : Bool}

theorem rd_point (n : Nat) (cs : List Value) (y : DataW H × List MemPlace) (h : DataW.trod enc Try.prog w base spare held n 77 cs = some y) : ∃ x : DPoint, cs = x.cs := by
  obtain ⟨xs, m, _, _, hl, hlen, hf⟩ := DataW.trod_struct Try.underlying77 h
  have hl' : cs.length = 7 := hl.trans (by kernel_rfl)
  obtain ⟨c0, c1, c2, c3, c4, c5, c6, rfl⟩ := list7 hl'
  have hc3 : Try.prog.cellsOf 3 = 1 := by kernel_rfl
  have hc4 : Try.prog.cellsOf 4 = 1 := by kernel_rfl
  have hct : Try.prog.cellsOf 24 = 3 := by kernel_rfl
  have hlx : xs.length = 5 := hlen
  obtain ⟨x0, x1, x2, x3, x4, rfl⟩ := list5 hlx
  have h0 : DataW.trod enc Try.prog w base spare held m 3 (([c0, c1, c2, c3, c4, c5, c6].drop 0).take (Try.prog.cellsOf 3)) = some x0 := hf 0 _ rfl
  have h1 : DataW.trod enc Try.prog w base spare held m 3 (([c0, c1, c2, c3, c4, c5, c6].drop 1).take (Try.prog.cellsOf 3)) = some x1 := hf 1 _ rfl
  have h2 : DataW.trod enc Try.prog w base spare held m 4 (([c0, c1, c2, c3, c4, c5, c6].drop 2).take (Try.prog.cellsOf 4)) = some x2 := hf 2 _ rfl
  have h3 : DataW.trod enc Try.prog w base spare held m 3 (([c0, c1, c2, c3, c4, c5, c6].drop 3).take (Try.prog.cellsOf 3)) = some x3 := hf 3 _ rfl
  have h4 : DataW.trod enc Try.prog w base spare held m 24 (([c0, c1, c2, c3, c4, c5, c6].drop 4).take (Try.prog.cellsOf 24)) = some x4 := hf 4 _ rfl
  rw [hc3] at h0 h1 h3
  rw [hc4] at h2
  rw [hct] at h4
  simp only [List.drop_zero, List.drop_succ_cons, List.take_succ_cons, List.take_zero] at h0 h1 h2 h3 h4
  obtain ⟨ra, rfl, _⟩ := rd_int Try.underlying3 h0
  obtain ⟨st, rfl, _⟩ := rd_int Try.underlying3 h1
  obtain ⟨tk, hb, _⟩ := DataW.trod_bool Try.underlying4 h2
  obtain ⟨ap, rfl, _⟩ := rd_int Try.underlying3 h3
  obtain ⟨_, hfy⟩ := rd_fields Try.underlying24 (by kernel_rfl) (by kernel_rfl) h4
  obtain ⟨_, _, _, e4, g4⟩ := hfy 0 _ rfl
  obtain ⟨_, _, _, e5, g5⟩ := hfy 1 _ rfl
  obtain ⟨_, _, _, e6, g6⟩ := hfy 2 _ rfl
  simp only [List.getElem?_cons_zero, List.getElem?_cons_succ, Option.some.injEq] at e4 e5 e6
  subst e4 e5 e6
  obtain ⟨ye, rfl, _⟩ := rd_int Try.underlying3 g4
  obtain ⟨no, rfl, _⟩ := rd_int Try.underlying3 g5
  obtain ⟨ab, rfl, _⟩ := rd_int Try.underlying3 g6
  simp only [List.cons.injEq, and_true] at hb
  subst hb
  exact ⟨⟨ra, st, tk, ap, ye, no, ab⟩, rfl⟩

set_option maxRecDepth 100000 in
theorem open_points {r : Reach} {b0 : Nat} {v : Value} {d : DataW H} {p : List MemPlace} (hv : Value.okWide Try.prog w r b0 22 v) (h : DataW.Trod enc Try.prog w base spare held 22 v d p) :
    ∃ xs : List DPoint, PointsAt w v xs := by
  obtain ⟨a, l, c, rfl⟩ := okWide_slice Try.underlying22 hv
  obtain ⟨fuel, hf⟩ := h
  obtain ⟨v', xs, e, hi⟩ := rd_row DPoint.cs 7 (fun _ => rfl) (by omega) Try.underlying22 (by kernel_rfl) rd_point hf
  simp only [Value.cells, List.cons.injEq, and_true] at e
  subst e
  exact ⟨xs, hi⟩

end
end Go.Proofs.Ytbphodmcajlpmaa
