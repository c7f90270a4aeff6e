/- The walk of FnExactShrinkingGroup out of its callees' contracts: it returns true, and what was there stays. No conditions. -/
import Derived.Test.YtokjamdikenkoaaRemV
namespace Go.Proofs.Ytokjamdikenkoaa
open Go.RowKit
set_option linter.unusedVariables false
set_option linter.unusedSimpArgs false

set_option maxRecDepth 100000 in
set_option maxHeartbeats 4000000 in
theorem law_ShrinkingGroup (w : World) (v0 : Value) (d0 : List Int) (h0 : IntsAt w v0 d0) (x1 : Int) (b1 : -9223372036854775808 ≤ x1 ∧ x1 ≤ 9223372036854775807) :
    Calls Try.prog 3 #[v0, .int .i64 x1] w fun e w' => e = .returned (.bool true) ∧ Below w.heap.size w w' := by
  obtain ⟨ao0, cap0, rfl⟩ := h0.form
  by_cases hn0 : d0.length ≤ 1048576
  case neg =>
    go_enter Try.func3, Try.ntmps3
    go_wp2_with fail
    go_ret
    exact ⟨rfl, by go_grown⟩
  obtain ⟨W, hW⟩ : ∃ W, W = w := ⟨_, rfl⟩
  have hWb : Below w.heap.size w W := by rw [hW]; exact Below.refl _ _
  have HW := Lib.hid hW; clear hW
  have i0 := h0.below hWb
  have hg := Below.refl W.heap.size W
  go_enter Try.func3, Try.ntmps3
  go_wp2_with fail
  rw [← HW.out]
  refine (toIntS_c _ d0 _ (i0.below hg) hn0).mono ?_
  rintro e w1 ⟨uos0, rfl, os0, hbw1⟩
  replace hg := below_step hg hbw1
  obtain ⟨aos0, kos0, rfl⟩ := os0.at_.form
  have gos0 := Below.refl w1.heap.size w1
  go_wp2_with fail
  refine (s_ShrinkingGroup _ d0 _ _ (os0.at_.below gos0)).mono ?_
  rintro e w2 ⟨rfl, hbw2⟩
  replace hg := below_step hg hbw2
  replace gos0 := below_step gos0 hbw2
  go_wp2_with fail
  refine (toIntS_c _ d0 _ (i0.below hg) hn0).mono ?_
  rintro e w3 ⟨ux0, rfl, x0, hbw3⟩
  replace hg := below_step hg hbw3
  obtain ⟨ax0, kx0, rfl⟩ := x0.at_.form
  have gx0 := Below.refl w3.heap.size w3
  go_wp2_with fail
  refine (i_ShrinkingGroup _ d0 _ _ (x0.at_.below gx0)).mono ?_
  rintro e w4 ⟨rfl, hbw4⟩
  replace hg := below_step hg hbw4
  replace gx0 := below_step gx0 hbw4
  go_wp2_with fail
  refine (toIntS_c _ d0 _ (i0.below hg) hn0).mono ?_
  rintro e w5 ⟨ue0, rfl, e0, hbw5⟩
  replace hg := below_step hg hbw5
  replace gx0 := below_step gx0 hbw5
  obtain ⟨ae0, ke0, rfl⟩ := e0.at_.form
  go_wp2_with fail
  refine (eqIntS_c _ _ d0 d0 _ (x0.at_.below gx0) e0.at_).mono ?_
  rintro e w6 ⟨rfl, hbw6⟩
  replace hg := below_step hg hbw6
  replace gx0 := below_step gx0 hbw6
  go_wp2_with fail
  go_ret
  exact ⟨rfl, hWb.trans (hg.mono (by have := hWb.size; omega))⟩
end Go.Proofs.Ytokjamdikenkoaa
