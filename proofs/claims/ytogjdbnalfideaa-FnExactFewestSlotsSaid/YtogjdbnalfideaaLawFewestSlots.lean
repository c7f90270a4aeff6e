/- The walk of FnExactFewestSlots out of its callees' contracts: it returns true, and what was there stays. No conditions. -/
import Derived.Test.YtogjdbnalfideaaCommH
namespace Go.Proofs.Ytogjdbnalfideaa
open Go.RowKit
set_option linter.unusedVariables false
set_option linter.unusedSimpArgs false

set_option maxRecDepth 100000 in
set_option maxHeartbeats 4000000 in
theorem law_FewestSlots (w : World) (v0 : Value) (d0 : List DCommittee) (h0 : CommsAt w v0 d0) (z0 : NamesOk d0) :
    Calls Try.prog 6 #[v0] w fun e w' => e = .returned (.bool true) ∧ Below w.heap.size w w' := by
  obtain ⟨ao0, cap0, rfl⟩ := h0.form
  obtain ⟨W, hW⟩ : ∃ W, W = w := ⟨_, rfl⟩
  have hWb : Below w.heap.size w W := by rw [hW]; exact Below.refl _ _
  have HW := Lib.hid hW; clear hW
  have i0 := h0.below hWb
  have hg := Below.refl W.heap.size W
  go_enter Try.func6, Try.ntmps6
  go_wp2_with fail
  rw [← HW.out]
  refine (szCommitteeS_c _ d0 _ _ (i0.below hg) z0 (by omega) (by omega)).mono ?_
  rintro e w1 ⟨r0, rfl, hr0, hbw1⟩
  replace hg := below_step hg hbw1
  rcases hr0 with hr0 | ⟨hr0, hs0, hn0⟩
  case inl => (go_wp2_with fail); go_ret; exact ⟨rfl, hWb.trans (hg.mono (by have := hWb.size; omega))⟩
  go_wp2_with fail
  refine (toCommitteeS_c _ d0 _ (i0.below hg) hn0).mono ?_
  rintro e w2 ⟨uos0, rfl, os0, hbw2⟩
  replace hg := below_step hg hbw2
  obtain ⟨aos0, kos0, rfl⟩ := os0.at_.form
  have gos0 := Below.refl w2.heap.size w2
  go_wp2_with fail
  refine (s_FewestSlots _ d0 _ (os0.at_.below gos0) hn0).mono ?_
  rintro e w3 ⟨rfl, hbw3⟩
  replace hg := below_step hg hbw3
  replace gos0 := below_step gos0 hbw3
  go_wp2_with fail
  refine (toCommitteeS_c _ d0 _ (i0.below hg) hn0).mono ?_
  rintro e w4 ⟨ux0, rfl, x0, hbw4⟩
  replace hg := below_step hg hbw4
  obtain ⟨ax0, kx0, rfl⟩ := x0.at_.form
  have gx0 := Below.refl w4.heap.size w4
  go_wp2_with fail
  refine (i_FewestSlots _ d0 _ (x0.at_.below gx0) hn0).mono ?_
  rintro e w5 ⟨rfl, hbw5⟩
  replace hg := below_step hg hbw5
  replace gx0 := below_step gx0 hbw5
  go_wp2_with fail
  refine (toCommitteeS_c _ d0 _ (i0.below hg) hn0).mono ?_
  rintro e w6 ⟨ue0, rfl, e0, hbw6⟩
  replace hg := below_step hg hbw6
  replace gx0 := below_step gx0 hbw6
  obtain ⟨ae0, ke0, rfl⟩ := e0.at_.form
  go_wp2_with fail
  refine (eqCommitteeS_c _ _ d0 d0 _ (x0.at_.below gx0) e0.at_).mono ?_
  rintro e w7 ⟨rfl, hbw7⟩
  replace hg := below_step hg hbw7
  replace gx0 := below_step gx0 hbw7
  go_wp2_with fail
  go_ret
  exact ⟨rfl, hWb.trans (hg.mono (by have := hWb.size; omega))⟩
end Go.Proofs.Ytogjdbnalfideaa
