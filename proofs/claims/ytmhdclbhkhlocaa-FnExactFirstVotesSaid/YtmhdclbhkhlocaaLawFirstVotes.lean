/- The walk of FnExactFirstVotes out of its callees' contracts: it returns true, and what was there stays. No conditions. -/
import Derived.Test.YtmhdclbhkhlocaaRankF
namespace Go.Proofs.Ytmhdclbhkhlocaa
open Go.RowKit
set_option linter.unusedVariables false
set_option linter.unusedSimpArgs false

set_option maxRecDepth 100000 in
set_option maxHeartbeats 4000000 in
theorem law_FirstVotes (w : World) (x0 : Int) (b0 : -9223372036854775808 ≤ x0 ∧ x0 ≤ 9223372036854775807) (v1 : Value) (d1 : List DRanking) (h1 : RanksAt w v1 d1) (v2 : Value) (d2 : List Int) (h2 : IntsAt w v2 d2) :
    Calls Try.prog 8 #[.int .i64 x0, v1, v2] w fun e w' => e = .returned (.bool true) ∧ Below w.heap.size w w' := by
  obtain ⟨ao1, cap1, rfl⟩ := h1.form
  obtain ⟨ao2, cap2, rfl⟩ := h2.form
  by_cases hn2 : d2.length ≤ 1048576
  case neg =>
    go_enter Try.func8, Try.ntmps8
    go_wp2_with fail
    go_ret
    exact ⟨rfl, by go_grown⟩
  obtain ⟨W, hW⟩ : ∃ W, W = w := ⟨_, rfl⟩
  have hWb : Below w.heap.size w W := by rw [hW]; exact Below.refl _ _
  have HW := Lib.hid hW; clear hW
  have i1 := h1.below hWb
  have i2 := h2.below hWb
  have hg := Below.refl W.heap.size W
  go_enter Try.func8, Try.ntmps8
  go_wp2_with fail
  rw [← HW.out]
  refine (szRankingS_c _ d1 _ _ (i1.below hg) (by omega) (by omega)).mono ?_
  rintro e w1 ⟨r1, rfl, hr1, hbw1⟩
  replace hg := below_step hg hbw1
  rcases hr1 with hr1 | ⟨hr1, hs1, hn1⟩
  case inl => (go_wp2_with fail); go_ret; exact ⟨rfl, hWb.trans (hg.mono (by have := hWb.size; omega))⟩
  have hcnt0 := firstV_len x0 d1 d2 (by assumption)
  go_wp2_with fail
  refine (toRankingS_c _ d1 _ (i1.below hg) hn1).mono ?_
  rintro e w2 ⟨uos1, rfl, os1, hbw2⟩
  replace hg := below_step hg hbw2
  obtain ⟨aos1, kos1, rfl⟩ := os1.at_.form
  have gos1 := Below.refl w2.heap.size w2
  go_wp2_with fail
  refine (toIntS_c _ d2 _ (i2.below hg) hn2).mono ?_
  rintro e w3 ⟨uos2, rfl, os2, hbw3⟩
  replace hg := below_step hg hbw3
  replace gos1 := below_step gos1 hbw3
  obtain ⟨aos2, kos2, rfl⟩ := os2.at_.form
  have gos2 := Below.refl w3.heap.size w3
  go_wp2_with fail
  refine (s_FirstVotes _ _ d1 _ d2 _ (os1.at_.below gos1) (os2.at_.below gos2)).mono ?_
  rintro e w4 ⟨urw0, rfl, rw0, hbw4⟩
  replace hg := below_step hg hbw4
  replace gos1 := below_step gos1 hbw4
  replace gos2 := below_step gos2 hbw4
  obtain ⟨arw0, krw0, rfl⟩ := rw0.at_.form
  have grw0 := Below.refl w4.heap.size w4
  go_wp2_with fail
  refine (toRankingS_c _ d1 _ (i1.below hg) hn1).mono ?_
  rintro e w5 ⟨ux1, rfl, x1, hbw5⟩
  replace hg := below_step hg hbw5
  replace grw0 := below_step grw0 hbw5
  obtain ⟨ax1, kx1, rfl⟩ := x1.at_.form
  have gx1 := Below.refl w5.heap.size w5
  go_wp2_with fail
  refine (toIntS_c _ d2 _ (i2.below hg) hn2).mono ?_
  rintro e w6 ⟨ux2, rfl, x2, hbw6⟩
  replace hg := below_step hg hbw6
  replace grw0 := below_step grw0 hbw6
  replace gx1 := below_step gx1 hbw6
  obtain ⟨ax2, kx2, rfl⟩ := x2.at_.form
  have gx2 := Below.refl w6.heap.size w6
  go_wp2_with fail
  refine (i_FirstVotes _ _ d1 _ d2 _ (x1.at_.below gx1) (x2.at_.below gx2)).mono ?_
  rintro e w7 ⟨urg0, rfl, rg0, hbw7⟩
  replace hg := below_step hg hbw7
  replace grw0 := below_step grw0 hbw7
  replace gx1 := below_step gx1 hbw7
  replace gx2 := below_step gx2 hbw7
  obtain ⟨arg0, krg0, rfl⟩ := rg0.at_.form
  have grg0 := Below.refl w7.heap.size w7
  go_wp2_with fail
  refine (eqIntS_c _ _ ((firstV x0 d1 d2).1) ((firstV x0 d1 d2).1) _ (rg0.at_.below grg0) (rw0.at_.below grw0)).mono ?_
  rintro e w8 ⟨rfl, hbw8⟩
  replace hg := below_step hg hbw8
  replace grw0 := below_step grw0 hbw8
  replace gx1 := below_step gx1 hbw8
  replace gx2 := below_step gx2 hbw8
  replace grg0 := below_step grg0 hbw8
  go_wp2_with fail
  refine (toRankingS_c _ d1 _ (i1.below hg) hn1).mono ?_
  rintro e w9 ⟨ue1, rfl, e1, hbw9⟩
  replace hg := below_step hg hbw9
  replace grw0 := below_step grw0 hbw9
  replace gx1 := below_step gx1 hbw9
  replace gx2 := below_step gx2 hbw9
  replace grg0 := below_step grg0 hbw9
  obtain ⟨ae1, ke1, rfl⟩ := e1.at_.form
  go_wp2_with fail
  refine (eqRankingS_c _ _ d1 d1 _ (x1.at_.below gx1) e1.at_).mono ?_
  rintro e w10 ⟨rfl, hbw10⟩
  replace hg := below_step hg hbw10
  replace grw0 := below_step grw0 hbw10
  replace gx1 := below_step gx1 hbw10
  replace gx2 := below_step gx2 hbw10
  replace grg0 := below_step grg0 hbw10
  go_wp2_with fail
  refine (toIntS_c _ d2 _ (i2.below hg) hn2).mono ?_
  rintro e w11 ⟨ue2, rfl, e2, hbw11⟩
  replace hg := below_step hg hbw11
  replace grw0 := below_step grw0 hbw11
  replace gx1 := below_step gx1 hbw11
  replace gx2 := below_step gx2 hbw11
  replace grg0 := below_step grg0 hbw11
  obtain ⟨ae2, ke2, rfl⟩ := e2.at_.form
  go_wp2_with fail
  refine (eqIntS_c _ _ d2 d2 _ (x2.at_.below gx2) e2.at_).mono ?_
  rintro e w12 ⟨rfl, hbw12⟩
  replace hg := below_step hg hbw12
  replace grw0 := below_step grw0 hbw12
  replace gx1 := below_step gx1 hbw12
  replace gx2 := below_step gx2 hbw12
  replace grg0 := below_step grg0 hbw12
  have hrs1 := rankSum_take hn1 d1.length
  rw [List.take_length] at hrs1
  have mx1 := (x1.toR).keep (below_same gx1 (Nat.le_refl _))
  have mx2 := (x2.toR).keep (below_same gx2 (Nat.le_refl _))
  go_wp2_with fail
  refine (markRankingS_r _ d1 _ _ _ _ mx1 (by omega) hn1).mono ?_
  rintro e w13 ⟨rfl, qx1, hox1⟩
  replace mx2 := mx2.keep (hox1.same (.inr (Nat.le_refl _)) mx2.hiLe)
  replace hg := hg.trans (hox1.below (by have := hbw1.size; have := hbw2.size; have := hbw3.size; have := hbw4.size; omega) (by have := hbw1.size; have := hbw2.size; have := hbw3.size; have := hbw4.size; have := hbw5.size; have := hbw6.size; have := hbw7.size; have := hbw8.size; have := hbw9.size; have := hbw10.size; have := hbw11.size; have := hbw12.size; omega))
  replace grw0 := grw0.trans (hox1.below (Nat.le_refl _) (by have := hbw5.size; have := hbw6.size; have := hbw7.size; have := hbw8.size; have := hbw9.size; have := hbw10.size; have := hbw11.size; have := hbw12.size; omega))
  have rrg0 := (rg0.toR).keep (below_same grg0 (Nat.le_refl _))
  replace rrg0 := rrg0.keep (hox1.same (.inr (by have := hbw6.size; omega)) rrg0.hiLe)
  go_wp2_with fail
  refine (markIntS_r _ _ _ d2 _ _ mx2 (by omega) (by omega)).mono ?_
  rintro e w14 ⟨rfl, qx2, hox2⟩
  replace hg := hg.trans (hox2.below (by have := hbw1.size; have := hbw2.size; have := hbw3.size; have := hbw4.size; have := hbw5.size; omega) (by have := hbw1.size; have := hbw2.size; have := hbw3.size; have := hbw4.size; have := hbw5.size; have := hbw6.size; have := hbw7.size; have := hbw8.size; have := hbw9.size; have := hbw10.size; have := hbw11.size; have := hbw12.size; have := hox1.size; omega))
  replace grw0 := grw0.trans (hox2.below (by have := hbw5.size; omega) (by have := hbw5.size; have := hbw6.size; have := hbw7.size; have := hbw8.size; have := hbw9.size; have := hbw10.size; have := hbw11.size; have := hbw12.size; have := hox1.size; omega))
  replace rrg0 := rrg0.keep (hox2.same (.inr (Nat.le_refl _)) rrg0.hiLe)
  go_wp2_with fail
  refine (eqIntS_c _ _ ((firstV x0 d1 d2).1) ((firstV x0 d1 d2).1) _ rrg0.at_ (rw0.at_.below grw0)).mono ?_
  rintro e w15 ⟨rfl, hbw15⟩
  replace hg := below_step hg hbw15
  replace grw0 := below_step grw0 hbw15
  replace rrg0 := rrg0.keep (below_same hbw15 rrg0.hiLe)
  go_wp2_with fail
  refine (markIntS_r _ _ _ ((firstV x0 d1 d2).1) _ _ rrg0 (by omega) (by omega)).mono ?_
  rintro e w16 ⟨rfl, mrg0, horg0⟩
  replace hg := hg.trans (horg0.below (by have := hbw1.size; have := hbw2.size; have := hbw3.size; have := hbw4.size; have := hbw5.size; have := hbw6.size; omega) (by have := hbw1.size; have := hbw2.size; have := hbw3.size; have := hbw4.size; have := hbw5.size; have := hbw6.size; have := hbw7.size; have := hbw8.size; have := hbw9.size; have := hbw10.size; have := hbw11.size; have := hbw12.size; have := hox1.size; have := hox2.size; have := hbw15.size; omega))
  replace grw0 := grw0.trans (horg0.below (by have := hbw5.size; have := hbw6.size; omega) (by have := hbw5.size; have := hbw6.size; have := hbw7.size; have := hbw8.size; have := hbw9.size; have := hbw10.size; have := hbw11.size; have := hbw12.size; have := hox1.size; have := hox2.size; have := hbw15.size; omega))
  go_wp2_with fail
  refine (heldIntS_n _ ((firstV x0 d1 d2).1) _ _ mrg0.at_ (by omega) (by omega)).mono ?_
  rintro e w17 ⟨rfl, hbw17⟩
  replace hg := below_step hg hbw17
  replace grw0 := below_step grw0 hbw17
  replace mrg0 := mrg0.keep (below_same hbw17 mrg0.hiLe)
  go_wp2_with fail
  refine (toRankingS_c _ d1 _ (i1.below hg) hn1).mono ?_
  rintro e w18 ⟨uoh1, rfl, oh1, hbw18⟩
  replace hg := below_step hg hbw18
  replace grw0 := below_step grw0 hbw18
  replace mrg0 := mrg0.keep (below_same hbw18 mrg0.hiLe)
  obtain ⟨aoh1, koh1, rfl⟩ := oh1.at_.form
  have goh1 := Below.refl w18.heap.size w18
  go_wp2_with fail
  refine (toIntS_c _ d2 _ (i2.below hg) hn2).mono ?_
  rintro e w19 ⟨uoh2, rfl, oh2, hbw19⟩
  replace hg := below_step hg hbw19
  replace grw0 := below_step grw0 hbw19
  replace goh1 := below_step goh1 hbw19
  replace mrg0 := mrg0.keep (below_same hbw19 mrg0.hiLe)
  obtain ⟨aoh2, koh2, rfl⟩ := oh2.at_.form
  have goh2 := Below.refl w19.heap.size w19
  go_wp2_with fail
  refine (i_FirstVotes _ _ d1 _ d2 _ (oh1.at_.below goh1) (oh2.at_.below goh2)).mono ?_
  rintro e w20 ⟨urh0, rfl, rh0, hbw20⟩
  replace hg := below_step hg hbw20
  replace grw0 := below_step grw0 hbw20
  replace goh1 := below_step goh1 hbw20
  replace goh2 := below_step goh2 hbw20
  replace mrg0 := mrg0.keep (below_same hbw20 mrg0.hiLe)
  obtain ⟨arh0, krh0, rfl⟩ := rh0.at_.form
  have grh0 := Below.refl w20.heap.size w20
  go_wp2_with fail
  refine (eqIntS_c _ _ ((firstV x0 d1 d2).1) ((firstV x0 d1 d2).1) _ (rh0.at_.below grh0) (rw0.at_.below grw0)).mono ?_
  rintro e w21 ⟨rfl, hbw21⟩
  replace hg := below_step hg hbw21
  replace grw0 := below_step grw0 hbw21
  replace grh0 := below_step grh0 hbw21
  replace mrg0 := mrg0.keep (below_same hbw21 mrg0.hiLe)
  go_wp2_with fail
  refine (heldIntS_n _ ((firstV x0 d1 d2).1) _ _ mrg0.at_ (by omega) (by omega)).mono ?_
  rintro e w22 ⟨rfl, hbw22⟩
  replace hg := below_step hg hbw22
  replace grw0 := below_step grw0 hbw22
  replace grh0 := below_step grh0 hbw22
  replace mrg0 := mrg0.keep (below_same hbw22 mrg0.hiLe)
  go_wp2_with fail
  go_ret
  exact ⟨rfl, hWb.trans (hg.mono (by have := hWb.size; omega))⟩
end Go.Proofs.Ytmhdclbhkhlocaa
