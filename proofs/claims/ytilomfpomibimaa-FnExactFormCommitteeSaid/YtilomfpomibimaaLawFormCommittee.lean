/- The walk of FnExactFormCommittee out of its callees' contracts: it returns true, and what was there stays. No conditions. -/
import Derived.Test.YtilomfpomibimaaFormS
import Derived.Test.YtilomfpomibimaaCommM
namespace Go.Proofs.Ytilomfpomibimaa
open Go.RowKit
set_option linter.unusedVariables false
set_option linter.unusedSimpArgs false

set_option maxRecDepth 100000 in
set_option maxHeartbeats 4000000 in
theorem law_FormCommittee (w : World) (v0 : Value) (d0 : List DCommittee) (h0 : CommsAt w v0 d0) (z0 : NamesOk d0) (x1 : ByteArray) (b1 : x1.size ≤ maxLen) (v2 : Value) (d2 : List Int) (h2 : IntsAt w v2 d2) :
    Calls Try.prog 6 #[v0, .string x1, v2] w fun e w' => e = .returned (.bool true) ∧ Below w.heap.size w w' := by
  obtain ⟨ao0, cap0, rfl⟩ := h0.form
  obtain ⟨ao2, cap2, rfl⟩ := h2.form
  by_cases hn1 : x1.size ≤ 1048576
  case neg =>
    go_enter Try.func6, Try.ntmps6
    go_wp2_with fail
    go_ret
    exact ⟨rfl, by go_grown⟩
  by_cases hn2 : d2.length ≤ 1048576
  case neg =>
    go_enter Try.func6, Try.ntmps6
    go_wp2_with fail
    go_ret
    exact ⟨rfl, by go_grown⟩
  obtain ⟨W, hW⟩ : ∃ W, W = w := ⟨_, rfl⟩
  have hWb : Below w.heap.size w W := by rw [hW]; exact Below.refl _ _
  have HW := Lib.hid hW; clear hW
  have i0 := h0.below hWb
  have i2 := h2.below hWb
  have hg := Below.refl W.heap.size W
  go_enter Try.func6, Try.ntmps6
  go_wp2_with fail
  rw [← HW.out]
  refine (szCommitteeS_c _ d0 _ _ (i0.below hg) z0 (by omega) (by omega)).mono ?_
  rintro e w1 ⟨r0, rfl, hr0, hbw1⟩
  replace hg := below_step hg hbw1
  rcases hr0 with hr0 | ⟨hr0, hs0, hn0⟩
  case inl => (go_wp2_with fail); go_ret; exact ⟨rfl, hWb.trans (hg.mono (by have := hWb.size; omega))⟩
  have hcnt0 := (show commSum (formV d0 x1 d2).1 ≤ 4000000 from formV_len d0 x1 d2)
  go_wp2_with fail
  refine (toCommitteeS_c _ d0 _ (i0.below hg) hn0).mono ?_
  rintro e w2 ⟨uos0, rfl, os0, hbw2⟩
  replace hg := below_step hg hbw2
  obtain ⟨aos0, kos0, rfl⟩ := os0.at_.form
  have gos0 := Below.refl w2.heap.size w2
  go_wp2_with fail
  refine (toIntS_c _ d2 _ (i2.below hg) hn2).mono ?_
  rintro e w3 ⟨uos2, rfl, os2, hbw3⟩
  replace hg := below_step hg hbw3
  replace gos0 := below_step gos0 hbw3
  obtain ⟨aos2, kos2, rfl⟩ := os2.at_.form
  have gos2 := Below.refl w3.heap.size w3
  go_wp2_with fail
  refine (s_FormCommittee _ d0 _ _ d2 _ (os0.at_.below gos0) (os2.at_.below gos2) hn0 hn2 hn1).mono ?_
  rintro e w4 ⟨urw0, rfl, rw0, hbw4⟩
  replace hg := below_step hg hbw4
  replace gos0 := below_step gos0 hbw4
  replace gos2 := below_step gos2 hbw4
  obtain ⟨arw0, krw0, rfl⟩ := rw0.at_.form
  have grw0 := Below.refl w4.heap.size w4
  go_wp2_with fail
  refine (toCommitteeS_c _ d0 _ (i0.below hg) hn0).mono ?_
  rintro e w5 ⟨ux0, rfl, x0, hbw5⟩
  replace hg := below_step hg hbw5
  replace grw0 := below_step grw0 hbw5
  obtain ⟨ax0, kx0, rfl⟩ := x0.at_.form
  have gx0 := Below.refl w5.heap.size w5
  go_wp2_with fail
  refine (toIntS_c _ d2 _ (i2.below hg) hn2).mono ?_
  rintro e w6 ⟨ux2, rfl, x2, hbw6⟩
  replace hg := below_step hg hbw6
  replace grw0 := below_step grw0 hbw6
  replace gx0 := below_step gx0 hbw6
  obtain ⟨ax2, kx2, rfl⟩ := x2.at_.form
  have gx2 := Below.refl w6.heap.size w6
  go_wp2_with fail
  refine (i_FormCommittee _ d0 _ _ d2 _ (x0.at_.below gx0) (x2.at_.below gx2) hn0 hn2 hn1).mono ?_
  rintro e w7 ⟨urg0, rfl, rg0, hbw7⟩
  replace hg := below_step hg hbw7
  replace grw0 := below_step grw0 hbw7
  replace gx0 := below_step gx0 hbw7
  replace gx2 := below_step gx2 hbw7
  obtain ⟨arg0, krg0, rfl⟩ := rg0.at_.form
  have grg0 := Below.refl w7.heap.size w7
  go_wp2_with fail
  refine (eqCommitteeS_c _ _ ((formV d0 x1 d2).1) ((formV d0 x1 d2).1) _ (rg0.at_.below grg0) (rw0.at_.below grw0)).mono ?_
  rintro e w8 ⟨rfl, hbw8⟩
  replace hg := below_step hg hbw8
  replace grw0 := below_step grw0 hbw8
  replace gx0 := below_step gx0 hbw8
  replace gx2 := below_step gx2 hbw8
  replace grg0 := below_step grg0 hbw8
  go_wp2_with fail
  refine (toCommitteeS_c _ d0 _ (i0.below hg) hn0).mono ?_
  rintro e w9 ⟨ue0, rfl, e0, hbw9⟩
  replace hg := below_step hg hbw9
  replace grw0 := below_step grw0 hbw9
  replace gx0 := below_step gx0 hbw9
  replace gx2 := below_step gx2 hbw9
  replace grg0 := below_step grg0 hbw9
  obtain ⟨ae0, ke0, rfl⟩ := e0.at_.form
  go_wp2_with fail
  refine (eqCommitteeS_c _ _ d0 d0 _ (x0.at_.below gx0) e0.at_).mono ?_
  rintro e w10 ⟨rfl, hbw10⟩
  replace hg := below_step hg hbw10
  replace grw0 := below_step grw0 hbw10
  replace gx0 := below_step gx0 hbw10
  replace gx2 := below_step gx2 hbw10
  replace grg0 := below_step grg0 hbw10
  go_wp2_with fail
  refine (toIntS_c _ d2 _ (i2.below hg) hn2).mono ?_
  rintro e w11 ⟨ue2, rfl, e2, hbw11⟩
  replace hg := below_step hg hbw11
  replace grw0 := below_step grw0 hbw11
  replace gx0 := below_step gx0 hbw11
  replace gx2 := below_step gx2 hbw11
  replace grg0 := below_step grg0 hbw11
  obtain ⟨ae2, ke2, rfl⟩ := e2.at_.form
  go_wp2_with fail
  refine (eqIntS_c _ _ d2 d2 _ (x2.at_.below gx2) e2.at_).mono ?_
  rintro e w12 ⟨rfl, hbw12⟩
  replace hg := below_step hg hbw12
  replace grw0 := below_step grw0 hbw12
  replace gx0 := below_step gx0 hbw12
  replace gx2 := below_step gx2 hbw12
  replace grg0 := below_step grg0 hbw12
  have hcs0 := commSum_le hn0
  have mx0 := (x0.toR).keep (below_same gx0 (Nat.le_refl _))
  have mx2 := (x2.toR).keep (below_same gx2 (Nat.le_refl _))
  go_wp2_with fail
  refine (markCommitteeS_r _ d0 _ _ _ _ mx0 (by omega) hn0).mono ?_
  rintro e w13 ⟨rfl, qx0, hox0⟩
  replace mx2 := mx2.keep (hox0.same (.inr (Nat.le_refl _)) mx2.hiLe)
  replace hg := hg.trans (hox0.below (by have := hbw1.size; have := hbw2.size; have := hbw3.size; have := hbw4.size; omega) (by have := hbw1.size; have := hbw2.size; have := hbw3.size; have := hbw4.size; have := hbw5.size; have := hbw6.size; have := hbw7.size; have := hbw8.size; have := hbw9.size; have := hbw10.size; have := hbw11.size; have := hbw12.size; omega))
  replace grw0 := grw0.trans (hox0.below (Nat.le_refl _) (by have := hbw5.size; have := hbw6.size; have := hbw7.size; have := hbw8.size; have := hbw9.size; have := hbw10.size; have := hbw11.size; have := hbw12.size; omega))
  have rrg0 := (rg0.toR).keep (below_same grg0 (Nat.le_refl _))
  replace rrg0 := rrg0.keep (hox0.same (.inr (by have := hbw6.size; omega)) rrg0.hiLe)
  go_wp2_with fail
  refine (markIntS_r _ _ _ d2 _ _ mx2 (by omega) (by omega)).mono ?_
  rintro e w14 ⟨rfl, qx2, hox2⟩
  replace hg := hg.trans (hox2.below (by have := hbw1.size; have := hbw2.size; have := hbw3.size; have := hbw4.size; have := hbw5.size; omega) (by have := hbw1.size; have := hbw2.size; have := hbw3.size; have := hbw4.size; have := hbw5.size; have := hbw6.size; have := hbw7.size; have := hbw8.size; have := hbw9.size; have := hbw10.size; have := hbw11.size; have := hbw12.size; have := hox0.size; omega))
  replace grw0 := grw0.trans (hox2.below (by have := hbw5.size; omega) (by have := hbw5.size; have := hbw6.size; have := hbw7.size; have := hbw8.size; have := hbw9.size; have := hbw10.size; have := hbw11.size; have := hbw12.size; have := hox0.size; omega))
  replace rrg0 := rrg0.keep (hox2.same (.inr (Nat.le_refl _)) rrg0.hiLe)
  go_wp2_with fail
  refine (eqCommitteeS_c _ _ ((formV d0 x1 d2).1) ((formV d0 x1 d2).1) _ rrg0.at_ (rw0.at_.below grw0)).mono ?_
  rintro e w15 ⟨rfl, hbw15⟩
  replace hg := below_step hg hbw15
  replace grw0 := below_step grw0 hbw15
  replace rrg0 := rrg0.keep (below_same hbw15 rrg0.hiLe)
  go_wp2_with fail
  refine (markCommitteeS_w _ ((formV d0 x1 d2).1) _ _ _ _ rrg0 (by omega) (by omega)).mono ?_
  rintro e w16 ⟨rfl, mrg0, horg0⟩
  replace hg := hg.trans (horg0.below (by have := hbw1.size; have := hbw2.size; have := hbw3.size; have := hbw4.size; have := hbw5.size; have := hbw6.size; omega) (by have := hbw1.size; have := hbw2.size; have := hbw3.size; have := hbw4.size; have := hbw5.size; have := hbw6.size; have := hbw7.size; have := hbw8.size; have := hbw9.size; have := hbw10.size; have := hbw11.size; have := hbw12.size; have := hox0.size; have := hox2.size; have := hbw15.size; omega))
  replace grw0 := grw0.trans (horg0.below (by have := hbw5.size; have := hbw6.size; omega) (by have := hbw5.size; have := hbw6.size; have := hbw7.size; have := hbw8.size; have := hbw9.size; have := hbw10.size; have := hbw11.size; have := hbw12.size; have := hox0.size; have := hox2.size; have := hbw15.size; omega))
  go_wp2_with fail
  refine (heldCommitteeS_n _ ((formV d0 x1 d2).1) _ _ mrg0.at_ (by omega) (by omega)).mono ?_
  rintro e w17 ⟨rfl, hbw17⟩
  replace hg := below_step hg hbw17
  replace grw0 := below_step grw0 hbw17
  replace mrg0 := mrg0.keep (below_same hbw17 mrg0.hiLe)
  go_wp2_with fail
  refine (toCommitteeS_c _ d0 _ (i0.below hg) hn0).mono ?_
  rintro e w18 ⟨uoh0, rfl, oh0, hbw18⟩
  replace hg := below_step hg hbw18
  replace grw0 := below_step grw0 hbw18
  replace mrg0 := mrg0.keep (below_same hbw18 mrg0.hiLe)
  obtain ⟨aoh0, koh0, rfl⟩ := oh0.at_.form
  have goh0 := Below.refl w18.heap.size w18
  go_wp2_with fail
  refine (toIntS_c _ d2 _ (i2.below hg) hn2).mono ?_
  rintro e w19 ⟨uoh2, rfl, oh2, hbw19⟩
  replace hg := below_step hg hbw19
  replace grw0 := below_step grw0 hbw19
  replace goh0 := below_step goh0 hbw19
  replace mrg0 := mrg0.keep (below_same hbw19 mrg0.hiLe)
  obtain ⟨aoh2, koh2, rfl⟩ := oh2.at_.form
  have goh2 := Below.refl w19.heap.size w19
  go_wp2_with fail
  refine (i_FormCommittee _ d0 _ _ d2 _ (oh0.at_.below goh0) (oh2.at_.below goh2) hn0 hn2 hn1).mono ?_
  rintro e w20 ⟨urh0, rfl, rh0, hbw20⟩
  replace hg := below_step hg hbw20
  replace grw0 := below_step grw0 hbw20
  replace goh0 := below_step goh0 hbw20
  replace goh2 := below_step goh2 hbw20
  replace mrg0 := mrg0.keep (below_same hbw20 mrg0.hiLe)
  obtain ⟨arh0, krh0, rfl⟩ := rh0.at_.form
  have grh0 := Below.refl w20.heap.size w20
  go_wp2_with fail
  refine (eqCommitteeS_c _ _ ((formV d0 x1 d2).1) ((formV d0 x1 d2).1) _ (rh0.at_.below grh0) (rw0.at_.below grw0)).mono ?_
  rintro e w21 ⟨rfl, hbw21⟩
  replace hg := below_step hg hbw21
  replace grw0 := below_step grw0 hbw21
  replace grh0 := below_step grh0 hbw21
  replace mrg0 := mrg0.keep (below_same hbw21 mrg0.hiLe)
  go_wp2_with fail
  refine (heldCommitteeS_n _ ((formV d0 x1 d2).1) _ _ mrg0.at_ (by omega) (by omega)).mono ?_
  rintro e w22 ⟨rfl, hbw22⟩
  replace hg := below_step hg hbw22
  replace grw0 := below_step grw0 hbw22
  replace grh0 := below_step grh0 hbw22
  replace mrg0 := mrg0.keep (below_same hbw22 mrg0.hiLe)
  go_wp2_with fail
  go_ret
  exact ⟨rfl, hWb.trans (hg.mono (by have := hWb.size; omega))⟩
end Go.Proofs.Ytilomfpomibimaa
