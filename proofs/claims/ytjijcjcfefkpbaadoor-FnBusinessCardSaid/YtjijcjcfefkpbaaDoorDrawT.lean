/- Contract: the draw of a session whose text is told. Condition: fewer than a thousand million choices. -/
import Derived.Test.YtjijcjcfefkpbaaDoorDrawR
namespace Go.Proofs.YtjijcjcfefkpbaaDoor
open Go.RowKit
set_option linter.unusedVariables false
set_option linter.unusedSimpArgs false

set_option maxRecDepth 100000 in
set_option maxHeartbeats 2000000 in
theorem draw_SessionText (cv : Value) (bs : List Int) (w : World) (hv : BytesAt w cv bs) (hl : bs.length ≤ 65537) :
    Calls Tryd.prog 18 #[cv] w fun e w' => ∃ en nu de u xs re, e = .returned (vSess en nu de u re) ∧ OwnInts w' w.heap.size u xs ∧ xs.length ≤ 40 ∧ Below w.heap.size w w' := by
  obtain ⟨ao, cap, rfl⟩ := hv.1.form
  obtain ⟨W1, hW1⟩ : ∃ W1, W1 = w.alloc (.cells #[.int .i64 0, .int .i64 0, .int .i64 0, .slice none 0 0, .int .i64 0] 28) := ⟨_, rfl⟩
  have bR : BoxAt W1 w.heap.size #[.int .i64 0, .int .i64 0, .int .i64 0, .slice none 0 0, .int .i64 0] := by rw [hW1]; exact BoxAt.new _ _ _
  have hWb : Below w.heap.size w W1 := by rw [hW1]; exact alQ _ _
  have HQ := Lib.hid (draw_IsValid (.slice ao bs.length cap) bs W1 (hv.below hWb) hl)
  have HW1 := Lib.hid hW1; have HWb := Lib.hid hWb
  clear hW1 hv
  go_enter Tryd.func18, Tryd.ntmps18
  go_wp2_with fail
  rw [← HW1.out]
  refine HQ.out.mono ?_
  rintro e w2 ⟨en, nu, de, u, xs, re, rfl, ho, hx, hb⟩
  obtain ⟨au, ku, rfl⟩ := ho.at_.form
  have bR2 := bR.below hb
  have rR := bR2.cells
  have fR := bR2.free
  go_wp2_with fail
  refine bodyPost_ret (v := vSess en nu de (.slice au xs.length ku) re) (by simp [results, Tryd.results18, go_sem, rR]) rfl ⟨_, _, _, _, xs, _, rfl, ?_⟩
  have hL : ∀ wf, OutOf w.heap.size (w.heap.size + 1) w2 wf → OwnInts wf w.heap.size (.slice au xs.length ku) xs ∧ Below w.heap.size w wf := fun wf hf =>
    ⟨own_base (fin_own2 (lo := w.heap.size) (b := w.heap.size) ho (Below.refl _ _) hf bR.1) HWb.out.size, (HWb.out.trans (hb.mono HWb.out.size)).trans (hf.below (Nat.le_refl _) (by have := bR2.1; omega))⟩
  refine ⟨(hL _ ?_).1, hx, (hL _ ?_).2⟩
  all_goals repeat (first | with_reducible exact OutOf.refl _ _ _ | with_reducible refine OutOf.set ?_ _)

end Go.Proofs.YtjijcjcfefkpbaaDoor
