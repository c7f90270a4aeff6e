/- The walk of FnExactSeatsByRemainders out of its callees' contracts: it returns true, and what was there stays. No conditions. -/
import Derived.Test.YtokjamdikenkoaaRemV
namespace Go.Proofs.Ytokjamdikenkoaa
open Go.RowKit
set_option linter.unusedVariables false
set_option linter.unusedSimpArgs false

set_option maxRecDepth 100000 in
set_option maxHeartbeats 4000000 in
theorem law_SeatsByRemainders (w : World) (v0 : Value) (d0 : List Int) (h0 : IntsAt w v0 d0) (x1 : Int) (b1 : -9223372036854775808 ≤ x1 ∧ x1 ≤ 9223372036854775807) :
    Calls Try.prog 4 #[v0, .int .i64 x1] w fun e w' => e = .returned (.bool true) ∧ Below w.heap.size w w' := by
  obtain ⟨ao0, cap0, rfl⟩ := h0.form
  by_cases hn0 : d0.length ≤ 1048576
  case neg =>
    go_enter Try.func4, Try.ntmps4
    go_wp2_with fail
    go_ret
    exact ⟨rfl, by go_grown⟩
  obtain ⟨W, hW⟩ : ∃ W, W = w := ⟨_, rfl⟩
  have hWb : Below w.heap.size w W := by rw [hW]; exact Below.refl _ _
  have HW := Lib.hid hW; clear hW
  have i0 := h0.below hWb
  have hg := Below.refl W.heap.size W
  go_enter Try.func4, Try.ntmps4
  have hcnt0 := remV_len d0 x1 (by assumption)
  go_wp2_with fail
  rw [← HW.out]
  refine (toIntS_c _ d0 _ (i0.below hg) hn0).mono ?_
  rintro e w1 ⟨uos0, rfl, os0, hbw1⟩
  replace hg := below_step hg hbw1
  obtain ⟨aos0, kos0, rfl⟩ := os0.at_.form
  have gos0 := Below.refl w1.heap.size w1
  go_wp2_with fail
  refine (s_SeatsByRemainders _ d0 _ _ (os0.at_.below gos0)).mono ?_
  rintro e w2 ⟨urw0, rfl, rw0, hbw2⟩
  replace hg := below_step hg hbw2
  replace gos0 := below_step gos0 hbw2
  obtain ⟨arw0, krw0, rfl⟩ := rw0.at_.form
  have grw0 := Below.refl w2.heap.size w2
  go_wp2_with fail
  refine (toIntS_c _ d0 _ (i0.below hg) hn0).mono ?_
  rintro e w3 ⟨ux0, rfl, x0, hbw3⟩
  replace hg := below_step hg hbw3
  replace grw0 := below_step grw0 hbw3
  obtain ⟨ax0, kx0, rfl⟩ := x0.at_.form
  have gx0 := Below.refl w3.heap.size w3
  go_wp2_with fail
  refine (i_SeatsByRemainders _ d0 _ _ (x0.at_.below gx0)).mono ?_
  rintro e w4 ⟨urg0, rfl, rg0, hbw4⟩
  replace hg := below_step hg hbw4
  replace grw0 := below_step grw0 hbw4
  replace gx0 := below_step gx0 hbw4
  obtain ⟨arg0, krg0, rfl⟩ := rg0.at_.form
  have grg0 := Below.refl w4.heap.size w4
  go_wp2_with fail
  refine (eqIntS_c _ _ ((remV d0 x1).1) ((remV d0 x1).1) _ (rg0.at_.below grg0) (rw0.at_.below grw0)).mono ?_
  rintro e w5 ⟨rfl, hbw5⟩
  replace hg := below_step hg hbw5
  replace grw0 := below_step grw0 hbw5
  replace gx0 := below_step gx0 hbw5
  replace grg0 := below_step grg0 hbw5
  go_wp2_with fail
  refine (toIntS_c _ d0 _ (i0.below hg) hn0).mono ?_
  rintro e w6 ⟨ue0, rfl, e0, hbw6⟩
  replace hg := below_step hg hbw6
  replace grw0 := below_step grw0 hbw6
  replace gx0 := below_step gx0 hbw6
  replace grg0 := below_step grg0 hbw6
  obtain ⟨ae0, ke0, rfl⟩ := e0.at_.form
  go_wp2_with fail
  refine (eqIntS_c _ _ d0 d0 _ (x0.at_.below gx0) e0.at_).mono ?_
  rintro e w7 ⟨rfl, hbw7⟩
  replace hg := below_step hg hbw7
  replace grw0 := below_step grw0 hbw7
  replace gx0 := below_step gx0 hbw7
  replace grg0 := below_step grg0 hbw7
  have mx0 := (x0.toR).keep (below_same gx0 (Nat.le_refl _))
  go_wp2_with fail
  refine (markIntS_r _ _ _ d0 _ _ mx0 (by omega) (by omega)).mono ?_
  rintro e w8 ⟨rfl, qx0, hox0⟩
  replace hg := hg.trans (hox0.below (by have := hbw1.size; have := hbw2.size; omega) (by have := hbw1.size; have := hbw2.size; have := hbw3.size; have := hbw4.size; have := hbw5.size; have := hbw6.size; have := hbw7.size; omega))
  replace grw0 := grw0.trans (hox0.below (Nat.le_refl _) (by have := hbw3.size; have := hbw4.size; have := hbw5.size; have := hbw6.size; have := hbw7.size; omega))
  have rrg0 := (rg0.toR).keep (below_same grg0 (Nat.le_refl _))
  replace rrg0 := rrg0.keep (hox0.same (.inr (Nat.le_refl _)) rrg0.hiLe)
  go_wp2_with fail
  refine (eqIntS_c _ _ ((remV d0 x1).1) ((remV d0 x1).1) _ rrg0.at_ (rw0.at_.below grw0)).mono ?_
  rintro e w9 ⟨rfl, hbw9⟩
  replace hg := below_step hg hbw9
  replace grw0 := below_step grw0 hbw9
  replace rrg0 := rrg0.keep (below_same hbw9 rrg0.hiLe)
  go_wp2_with fail
  refine (markIntS_r _ _ _ ((remV d0 x1).1) _ _ rrg0 (by omega) (by omega)).mono ?_
  rintro e w10 ⟨rfl, mrg0, horg0⟩
  replace hg := hg.trans (horg0.below (by have := hbw1.size; have := hbw2.size; have := hbw3.size; omega) (by have := hbw1.size; have := hbw2.size; have := hbw3.size; have := hbw4.size; have := hbw5.size; have := hbw6.size; have := hbw7.size; have := hox0.size; have := hbw9.size; omega))
  replace grw0 := grw0.trans (horg0.below (by have := hbw3.size; omega) (by have := hbw3.size; have := hbw4.size; have := hbw5.size; have := hbw6.size; have := hbw7.size; have := hox0.size; have := hbw9.size; omega))
  go_wp2_with fail
  refine (heldIntS_n _ ((remV d0 x1).1) _ _ mrg0.at_ (by omega) (by omega)).mono ?_
  rintro e w11 ⟨rfl, hbw11⟩
  replace hg := below_step hg hbw11
  replace grw0 := below_step grw0 hbw11
  replace mrg0 := mrg0.keep (below_same hbw11 mrg0.hiLe)
  go_wp2_with fail
  refine (toIntS_c _ d0 _ (i0.below hg) hn0).mono ?_
  rintro e w12 ⟨uoh0, rfl, oh0, hbw12⟩
  replace hg := below_step hg hbw12
  replace grw0 := below_step grw0 hbw12
  replace mrg0 := mrg0.keep (below_same hbw12 mrg0.hiLe)
  obtain ⟨aoh0, koh0, rfl⟩ := oh0.at_.form
  have goh0 := Below.refl w12.heap.size w12
  go_wp2_with fail
  refine (i_SeatsByRemainders _ d0 _ _ (oh0.at_.below goh0)).mono ?_
  rintro e w13 ⟨urh0, rfl, rh0, hbw13⟩
  replace hg := below_step hg hbw13
  replace grw0 := below_step grw0 hbw13
  replace goh0 := below_step goh0 hbw13
  replace mrg0 := mrg0.keep (below_same hbw13 mrg0.hiLe)
  obtain ⟨arh0, krh0, rfl⟩ := rh0.at_.form
  have grh0 := Below.refl w13.heap.size w13
  go_wp2_with fail
  refine (eqIntS_c _ _ ((remV d0 x1).1) ((remV d0 x1).1) _ (rh0.at_.below grh0) (rw0.at_.below grw0)).mono ?_
  rintro e w14 ⟨rfl, hbw14⟩
  replace hg := below_step hg hbw14
  replace grw0 := below_step grw0 hbw14
  replace grh0 := below_step grh0 hbw14
  replace mrg0 := mrg0.keep (below_same hbw14 mrg0.hiLe)
  go_wp2_with fail
  refine (heldIntS_n _ ((remV d0 x1).1) _ _ mrg0.at_ (by omega) (by omega)).mono ?_
  rintro e w15 ⟨rfl, hbw15⟩
  replace hg := below_step hg hbw15
  replace grw0 := below_step grw0 hbw15
  replace grh0 := below_step grh0 hbw15
  replace mrg0 := mrg0.keep (below_same hbw15 mrg0.hiLe)
  go_wp2_with fail
  go_ret
  exact ⟨rfl, hWb.trans (hg.mono (by have := hWb.size; omega))⟩
end Go.Proofs.Ytokjamdikenkoaa
