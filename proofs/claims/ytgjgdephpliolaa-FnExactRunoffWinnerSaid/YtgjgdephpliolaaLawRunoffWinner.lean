/- The walk of FnExactRunoffWinner out of its callees' contracts: it returns true, and what was there stays. No conditions. -/
import Derived.Test.YtgjgdephpliolaaRunI
import Derived.Test.YtgjgdephpliolaaRankR
namespace Go.Proofs.Ytgjgdephpliolaa
open Go.RowKit
set_option linter.unusedVariables false
set_option linter.unusedSimpArgs false

set_option maxRecDepth 100000 in
set_option maxHeartbeats 4000000 in
theorem law_RunoffWinner (w : World) (x0 : Int) (b0 : -9223372036854775808 ≤ x0 ∧ x0 ≤ 9223372036854775807) (v1 : Value) (d1 : List DRanking) (h1 : RanksAt w v1 d1) :
    Calls Try.prog 4 #[.int .i64 x0, v1] w fun e w' => e = .returned (.bool true) ∧ Below w.heap.size w w' := by
  obtain ⟨ao1, cap1, rfl⟩ := h1.form
  obtain ⟨W, hW⟩ : ∃ W, W = w := ⟨_, rfl⟩
  have hWb : Below w.heap.size w W := by rw [hW]; exact Below.refl _ _
  have HW := Lib.hid hW; clear hW
  have i1 := h1.below hWb
  have hg := Below.refl W.heap.size W
  go_enter Try.func4, Try.ntmps4
  go_wp2_with fail
  rw [← HW.out]
  refine (szRankingS_c _ d1 _ _ (i1.below hg) (by omega) (by omega)).mono ?_
  rintro e w1 ⟨r1, rfl, hr1, hbw1⟩
  replace hg := below_step hg hbw1
  rcases hr1 with hr1 | ⟨hr1, hs1, hn1⟩
  case inl => (go_wp2_with fail); go_ret; exact ⟨rfl, hWb.trans (hg.mono (by have := hWb.size; omega))⟩
  have hcnt0 := runV_len x0 d1
  go_wp2_with fail
  refine (toRankingS_c _ d1 _ (i1.below hg) hn1).mono ?_
  rintro e w2 ⟨uos1, rfl, os1, hbw2⟩
  replace hg := below_step hg hbw2
  obtain ⟨aos1, kos1, rfl⟩ := os1.at_.form
  have gos1 := Below.refl w2.heap.size w2
  go_wp2_with fail
  refine (s_RunoffWinner _ _ d1 _ (os1.at_.below gos1)).mono ?_
  rintro e w3 ⟨urw0, rfl, rw0, hbw3⟩
  replace hg := below_step hg hbw3
  replace gos1 := below_step gos1 hbw3
  obtain ⟨arw0, krw0, rfl⟩ := rw0.at_.form
  have grw0 := Below.refl w3.heap.size w3
  go_wp2_with fail
  refine (toRankingS_c _ d1 _ (i1.below hg) hn1).mono ?_
  rintro e w4 ⟨ux1, rfl, x1, hbw4⟩
  replace hg := below_step hg hbw4
  replace grw0 := below_step grw0 hbw4
  obtain ⟨ax1, kx1, rfl⟩ := x1.at_.form
  have gx1 := Below.refl w4.heap.size w4
  go_wp2_with fail
  refine (i_RunoffWinner _ _ d1 _ (x1.at_.below gx1)).mono ?_
  rintro e w5 ⟨urg0, rfl, rg0, hbw5⟩
  replace hg := below_step hg hbw5
  replace grw0 := below_step grw0 hbw5
  replace gx1 := below_step gx1 hbw5
  obtain ⟨arg0, krg0, rfl⟩ := rg0.at_.form
  have grg0 := Below.refl w5.heap.size w5
  go_wp2_with fail
  refine (eqIntS_c _ _ ((runV x0 d1).2.1) ((runV x0 d1).2.1) _ (rg0.at_.below grg0) (rw0.at_.below grw0)).mono ?_
  rintro e w6 ⟨rfl, hbw6⟩
  replace hg := below_step hg hbw6
  replace grw0 := below_step grw0 hbw6
  replace gx1 := below_step gx1 hbw6
  replace grg0 := below_step grg0 hbw6
  go_wp2_with fail
  refine (toRankingS_c _ d1 _ (i1.below hg) hn1).mono ?_
  rintro e w7 ⟨ue1, rfl, e1, hbw7⟩
  replace hg := below_step hg hbw7
  replace grw0 := below_step grw0 hbw7
  replace gx1 := below_step gx1 hbw7
  replace grg0 := below_step grg0 hbw7
  obtain ⟨ae1, ke1, rfl⟩ := e1.at_.form
  go_wp2_with fail
  refine (eqRankingS_c _ _ d1 d1 _ (x1.at_.below gx1) e1.at_).mono ?_
  rintro e w8 ⟨rfl, hbw8⟩
  replace hg := below_step hg hbw8
  replace grw0 := below_step grw0 hbw8
  replace gx1 := below_step gx1 hbw8
  replace grg0 := below_step grg0 hbw8
  have mx1 := (x1.toR).keep (below_same gx1 (Nat.le_refl _))
  go_wp2_with fail
  refine (markRankingS_r _ d1 _ _ _ _ mx1 (by omega) hn1).mono ?_
  rintro e w9 ⟨rfl, qx1, hox1⟩
  replace hg := hg.trans (hox1.below (by have := hbw1.size; have := hbw2.size; have := hbw3.size; omega) (by have := hbw1.size; have := hbw2.size; have := hbw3.size; have := hbw4.size; have := hbw5.size; have := hbw6.size; have := hbw7.size; have := hbw8.size; omega))
  replace grw0 := grw0.trans (hox1.below (Nat.le_refl _) (by have := hbw4.size; have := hbw5.size; have := hbw6.size; have := hbw7.size; have := hbw8.size; omega))
  have rrg0 := (rg0.toR).keep (below_same grg0 (Nat.le_refl _))
  replace rrg0 := rrg0.keep (hox1.same (.inr (Nat.le_refl _)) rrg0.hiLe)
  go_wp2_with fail
  refine (eqIntS_c _ _ ((runV x0 d1).2.1) ((runV x0 d1).2.1) _ rrg0.at_ (rw0.at_.below grw0)).mono ?_
  rintro e w10 ⟨rfl, hbw10⟩
  replace hg := below_step hg hbw10
  replace grw0 := below_step grw0 hbw10
  replace rrg0 := rrg0.keep (below_same hbw10 rrg0.hiLe)
  go_wp2_with fail
  refine (markIntS_r _ _ _ ((runV x0 d1).2.1) _ _ rrg0 (by omega) (by omega)).mono ?_
  rintro e w11 ⟨rfl, mrg0, horg0⟩
  replace hg := hg.trans (horg0.below (by have := hbw1.size; have := hbw2.size; have := hbw3.size; have := hbw4.size; omega) (by have := hbw1.size; have := hbw2.size; have := hbw3.size; have := hbw4.size; have := hbw5.size; have := hbw6.size; have := hbw7.size; have := hbw8.size; have := hox1.size; have := hbw10.size; omega))
  replace grw0 := grw0.trans (horg0.below (by have := hbw4.size; omega) (by have := hbw4.size; have := hbw5.size; have := hbw6.size; have := hbw7.size; have := hbw8.size; have := hox1.size; have := hbw10.size; omega))
  go_wp2_with fail
  refine (heldIntS_n _ ((runV x0 d1).2.1) _ _ mrg0.at_ (by omega) (by omega)).mono ?_
  rintro e w12 ⟨rfl, hbw12⟩
  replace hg := below_step hg hbw12
  replace grw0 := below_step grw0 hbw12
  replace mrg0 := mrg0.keep (below_same hbw12 mrg0.hiLe)
  go_wp2_with fail
  refine (toRankingS_c _ d1 _ (i1.below hg) hn1).mono ?_
  rintro e w13 ⟨uoh1, rfl, oh1, hbw13⟩
  replace hg := below_step hg hbw13
  replace grw0 := below_step grw0 hbw13
  replace mrg0 := mrg0.keep (below_same hbw13 mrg0.hiLe)
  obtain ⟨aoh1, koh1, rfl⟩ := oh1.at_.form
  have goh1 := Below.refl w13.heap.size w13
  go_wp2_with fail
  refine (i_RunoffWinner _ _ d1 _ (oh1.at_.below goh1)).mono ?_
  rintro e w14 ⟨urh0, rfl, rh0, hbw14⟩
  replace hg := below_step hg hbw14
  replace grw0 := below_step grw0 hbw14
  replace goh1 := below_step goh1 hbw14
  replace mrg0 := mrg0.keep (below_same hbw14 mrg0.hiLe)
  obtain ⟨arh0, krh0, rfl⟩ := rh0.at_.form
  have grh0 := Below.refl w14.heap.size w14
  go_wp2_with fail
  refine (eqIntS_c _ _ ((runV x0 d1).2.1) ((runV x0 d1).2.1) _ (rh0.at_.below grh0) (rw0.at_.below grw0)).mono ?_
  rintro e w15 ⟨rfl, hbw15⟩
  replace hg := below_step hg hbw15
  replace grw0 := below_step grw0 hbw15
  replace grh0 := below_step grh0 hbw15
  replace mrg0 := mrg0.keep (below_same hbw15 mrg0.hiLe)
  go_wp2_with fail
  refine (heldIntS_n _ ((runV x0 d1).2.1) _ _ mrg0.at_ (by omega) (by omega)).mono ?_
  rintro e w16 ⟨rfl, hbw16⟩
  replace hg := below_step hg hbw16
  replace grw0 := below_step grw0 hbw16
  replace grh0 := below_step grh0 hbw16
  replace mrg0 := mrg0.keep (below_same hbw16 mrg0.hiLe)
  go_wp2_with fail
  go_ret
  exact ⟨rfl, hWb.trans (hg.mono (by have := hWb.size; omega))⟩
end Go.Proofs.Ytgjgdephpliolaa
