/- The walk of FnExactCondorcetWinner out of its callees' contracts: it returns true, and what was there stays. No conditions. -/
import Derived.Test.YtoaknedogpnmhaaRankX
namespace Go.Proofs.Ytoaknedogpnmhaa
open Go.RowKit
set_option linter.unusedVariables false
set_option linter.unusedSimpArgs false

set_option maxRecDepth 100000 in
set_option maxHeartbeats 4000000 in
theorem law_CondorcetWinner (w : World) (x0 : Int) (b0 : -9223372036854775808 ≤ x0 ∧ x0 ≤ 9223372036854775807) (v1 : Value) (d1 : List DRanking) (h1 : RanksAt w v1 d1) :
    Calls Try.prog 5 #[.int .i64 x0, v1] w fun e w' => e = .returned (.bool true) ∧ Below w.heap.size w w' := by
  obtain ⟨ao1, cap1, rfl⟩ := h1.form
  obtain ⟨W, hW⟩ : ∃ W, W = w := ⟨_, rfl⟩
  have hWb : Below w.heap.size w W := by rw [hW]; exact Below.refl _ _
  have HW := Lib.hid hW; clear hW
  have i1 := h1.below hWb
  have hg := Below.refl W.heap.size W
  go_enter Try.func5, Try.ntmps5
  go_wp2_with fail
  rw [← HW.out]
  refine (szRankingS_c _ d1 _ _ (i1.below hg) (by omega) (by omega)).mono ?_
  rintro e w1 ⟨r1, rfl, hr1, hbw1⟩
  replace hg := below_step hg hbw1
  rcases hr1 with hr1 | ⟨hr1, hs1, hn1⟩
  case inl => (go_wp2_with fail); go_ret; exact ⟨rfl, hWb.trans (hg.mono (by have := hWb.size; omega))⟩
  go_wp2_with fail
  refine (toRankingS_c _ d1 _ (i1.below hg) hn1).mono ?_
  rintro e w2 ⟨uos1, rfl, os1, hbw2⟩
  replace hg := below_step hg hbw2
  obtain ⟨aos1, kos1, rfl⟩ := os1.at_.form
  have gos1 := Below.refl w2.heap.size w2
  go_wp2_with fail
  refine (s_CondorcetWinner _ _ d1 _ (os1.at_.below gos1)).mono ?_
  rintro e w3 ⟨rfl, hbw3⟩
  replace hg := below_step hg hbw3
  replace gos1 := below_step gos1 hbw3
  go_wp2_with fail
  refine (toRankingS_c _ d1 _ (i1.below hg) hn1).mono ?_
  rintro e w4 ⟨ux1, rfl, x1, hbw4⟩
  replace hg := below_step hg hbw4
  obtain ⟨ax1, kx1, rfl⟩ := x1.at_.form
  have gx1 := Below.refl w4.heap.size w4
  go_wp2_with fail
  refine (i_CondorcetWinner _ _ d1 _ (x1.at_.below gx1)).mono ?_
  rintro e w5 ⟨rfl, hbw5⟩
  replace hg := below_step hg hbw5
  replace gx1 := below_step gx1 hbw5
  go_wp2_with fail
  refine (toRankingS_c _ d1 _ (i1.below hg) hn1).mono ?_
  rintro e w6 ⟨ue1, rfl, e1, hbw6⟩
  replace hg := below_step hg hbw6
  replace gx1 := below_step gx1 hbw6
  obtain ⟨ae1, ke1, rfl⟩ := e1.at_.form
  go_wp2_with fail
  refine (eqRankingS_c _ _ d1 d1 _ (x1.at_.below gx1) e1.at_).mono ?_
  rintro e w7 ⟨rfl, hbw7⟩
  replace hg := below_step hg hbw7
  replace gx1 := below_step gx1 hbw7
  go_wp2_with fail
  go_ret
  exact ⟨rfl, hWb.trans (hg.mono (by have := hWb.size; omega))⟩
end Go.Proofs.Ytoaknedogpnmhaa
