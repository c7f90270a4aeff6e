/- The walk of FnExactAppointMember out of its callees' contracts: it returns true, and what was there stays. No conditions. -/
import Derived.Test.YtilomfpomibimaaAppS
import Derived.Test.YtilomfpomibimaaAppI
import Derived.Test.YtilomfpomibimaaCommM
namespace Go.Proofs.Ytilomfpomibimaa
open Go.RowKit
set_option linter.unusedVariables false
set_option linter.unusedSimpArgs false

set_option maxRecDepth 100000 in
set_option maxHeartbeats 4000000 in
theorem law_AppointMember (w : World) (v0 : Value) (d0 : List DCommittee) (h0 : CommsAt w v0 d0) (z0 : NamesOk d0) (x1 : ByteArray) (b1 : x1.size ≤ maxLen) (x2 : Int) (b2 : -9223372036854775808 ≤ x2 ∧ x2 ≤ 9223372036854775807) :
    Calls Try.prog 7 #[v0, .string x1, .int .i64 x2] w fun e w' => e = .returned (.bool true) ∧ Below w.heap.size w w' := by
  obtain ⟨ao0, cap0, rfl⟩ := h0.form
  by_cases hn1 : x1.size ≤ 1048576
  case neg =>
    go_enter Try.func7, Try.ntmps7
    go_wp2_with fail
    go_ret
    exact ⟨rfl, by go_grown⟩
  obtain ⟨W, hW⟩ : ∃ W, W = w := ⟨_, rfl⟩
  have hWb : Below w.heap.size w W := by rw [hW]; exact Below.refl _ _
  have HW := Lib.hid hW; clear hW
  have i0 := h0.below hWb
  have hg := Below.refl W.heap.size W
  go_enter Try.func7, Try.ntmps7
  go_wp2_with fail
  rw [← HW.out]
  refine (szCommitteeS_c _ d0 _ _ (i0.below hg) z0 (by omega) (by omega)).mono ?_
  rintro e w1 ⟨r0, rfl, hr0, hbw1⟩
  replace hg := below_step hg hbw1
  rcases hr0 with hr0 | ⟨hr0, hs0, hn0⟩
  case inl => (go_wp2_with fail); go_ret; exact ⟨rfl, hWb.trans (hg.mono (by have := hWb.size; omega))⟩
  have hcnt0 := (show commSum (appV d0 x1 x2).1 ≤ 4000000 from appV_len d0 x1 x2)
  go_wp2_with fail
  refine (toCommitteeS_c _ d0 _ (i0.below hg) hn0).mono ?_
  rintro e w2 ⟨uos0, rfl, os0, hbw2⟩
  replace hg := below_step hg hbw2
  obtain ⟨aos0, kos0, rfl⟩ := os0.at_.form
  have gos0 := Below.refl w2.heap.size w2
  go_wp2_with fail
  refine (s_AppointMember _ d0 _ _ _ (os0.at_.below gos0) hn0).mono ?_
  rintro e w3 ⟨urw0, rfl, rw0, hbw3⟩
  replace hg := below_step hg hbw3
  replace gos0 := below_step gos0 hbw3
  obtain ⟨arw0, krw0, rfl⟩ := rw0.at_.form
  have grw0 := Below.refl w3.heap.size w3
  go_wp2_with fail
  refine (toCommitteeS_c _ d0 _ (i0.below hg) hn0).mono ?_
  rintro e w4 ⟨ux0, rfl, x0, hbw4⟩
  replace hg := below_step hg hbw4
  replace grw0 := below_step grw0 hbw4
  obtain ⟨ax0, kx0, rfl⟩ := x0.at_.form
  have gx0 := Below.refl w4.heap.size w4
  go_wp2_with fail
  refine (i_AppointMember _ d0 _ _ _ (x0.at_.below gx0) hn0).mono ?_
  rintro e w5 ⟨urg0, rfl, rg0, hbw5⟩
  replace hg := below_step hg hbw5
  replace grw0 := below_step grw0 hbw5
  replace gx0 := below_step gx0 hbw5
  obtain ⟨arg0, krg0, rfl⟩ := rg0.at_.form
  have grg0 := Below.refl w5.heap.size w5
  go_wp2_with fail
  refine (eqCommitteeS_c _ _ ((appV d0 x1 x2).1) ((appV d0 x1 x2).1) _ (rg0.at_.below grg0) (rw0.at_.below grw0)).mono ?_
  rintro e w6 ⟨rfl, hbw6⟩
  replace hg := below_step hg hbw6
  replace grw0 := below_step grw0 hbw6
  replace gx0 := below_step gx0 hbw6
  replace grg0 := below_step grg0 hbw6
  go_wp2_with fail
  refine (toCommitteeS_c _ d0 _ (i0.below hg) hn0).mono ?_
  rintro e w7 ⟨ue0, rfl, e0, hbw7⟩
  replace hg := below_step hg hbw7
  replace grw0 := below_step grw0 hbw7
  replace gx0 := below_step gx0 hbw7
  replace grg0 := below_step grg0 hbw7
  obtain ⟨ae0, ke0, rfl⟩ := e0.at_.form
  go_wp2_with fail
  refine (eqCommitteeS_c _ _ d0 d0 _ (x0.at_.below gx0) e0.at_).mono ?_
  rintro e w8 ⟨rfl, hbw8⟩
  replace hg := below_step hg hbw8
  replace grw0 := below_step grw0 hbw8
  replace gx0 := below_step gx0 hbw8
  replace grg0 := below_step grg0 hbw8
  have mx0 := (x0.toR).keep (below_same gx0 (Nat.le_refl _))
  go_wp2_with fail
  refine (markCommitteeS_r _ d0 _ _ _ _ mx0 (by omega) hn0).mono ?_
  rintro e w9 ⟨rfl, qx0, hox0⟩
  replace hg := hg.trans (hox0.below (by have := hbw1.size; have := hbw2.size; have := hbw3.size; omega) (by have := hbw1.size; have := hbw2.size; have := hbw3.size; have := hbw4.size; have := hbw5.size; have := hbw6.size; have := hbw7.size; have := hbw8.size; omega))
  replace grw0 := grw0.trans (hox0.below (Nat.le_refl _) (by have := hbw4.size; have := hbw5.size; have := hbw6.size; have := hbw7.size; have := hbw8.size; omega))
  have rrg0 := (rg0.toR).keep (below_same grg0 (Nat.le_refl _))
  replace rrg0 := rrg0.keep (hox0.same (.inr (Nat.le_refl _)) rrg0.hiLe)
  go_wp2_with fail
  refine (eqCommitteeS_c _ _ ((appV d0 x1 x2).1) ((appV d0 x1 x2).1) _ rrg0.at_ (rw0.at_.below grw0)).mono ?_
  rintro e w10 ⟨rfl, hbw10⟩
  replace hg := below_step hg hbw10
  replace grw0 := below_step grw0 hbw10
  replace rrg0 := rrg0.keep (below_same hbw10 rrg0.hiLe)
  go_wp2_with fail
  refine (markCommitteeS_w _ ((appV d0 x1 x2).1) _ _ _ _ rrg0 (by omega) (by omega)).mono ?_
  rintro e w11 ⟨rfl, mrg0, horg0⟩
  replace hg := hg.trans (horg0.below (by have := hbw1.size; have := hbw2.size; have := hbw3.size; have := hbw4.size; omega) (by have := hbw1.size; have := hbw2.size; have := hbw3.size; have := hbw4.size; have := hbw5.size; have := hbw6.size; have := hbw7.size; have := hbw8.size; have := hox0.size; have := hbw10.size; omega))
  replace grw0 := grw0.trans (horg0.below (by have := hbw4.size; omega) (by have := hbw4.size; have := hbw5.size; have := hbw6.size; have := hbw7.size; have := hbw8.size; have := hox0.size; have := hbw10.size; omega))
  go_wp2_with fail
  refine (heldCommitteeS_n _ ((appV d0 x1 x2).1) _ _ mrg0.at_ (by omega) (by omega)).mono ?_
  rintro e w12 ⟨rfl, hbw12⟩
  replace hg := below_step hg hbw12
  replace grw0 := below_step grw0 hbw12
  replace mrg0 := mrg0.keep (below_same hbw12 mrg0.hiLe)
  go_wp2_with fail
  refine (toCommitteeS_c _ d0 _ (i0.below hg) hn0).mono ?_
  rintro e w13 ⟨uoh0, rfl, oh0, hbw13⟩
  replace hg := below_step hg hbw13
  replace grw0 := below_step grw0 hbw13
  replace mrg0 := mrg0.keep (below_same hbw13 mrg0.hiLe)
  obtain ⟨aoh0, koh0, rfl⟩ := oh0.at_.form
  have goh0 := Below.refl w13.heap.size w13
  go_wp2_with fail
  refine (i_AppointMember _ d0 _ _ _ (oh0.at_.below goh0) hn0).mono ?_
  rintro e w14 ⟨urh0, rfl, rh0, hbw14⟩
  replace hg := below_step hg hbw14
  replace grw0 := below_step grw0 hbw14
  replace goh0 := below_step goh0 hbw14
  replace mrg0 := mrg0.keep (below_same hbw14 mrg0.hiLe)
  obtain ⟨arh0, krh0, rfl⟩ := rh0.at_.form
  have grh0 := Below.refl w14.heap.size w14
  go_wp2_with fail
  refine (eqCommitteeS_c _ _ ((appV d0 x1 x2).1) ((appV d0 x1 x2).1) _ (rh0.at_.below grh0) (rw0.at_.below grw0)).mono ?_
  rintro e w15 ⟨rfl, hbw15⟩
  replace hg := below_step hg hbw15
  replace grw0 := below_step grw0 hbw15
  replace grh0 := below_step grh0 hbw15
  replace mrg0 := mrg0.keep (below_same hbw15 mrg0.hiLe)
  go_wp2_with fail
  refine (heldCommitteeS_n _ ((appV d0 x1 x2).1) _ _ mrg0.at_ (by omega) (by omega)).mono ?_
  rintro e w16 ⟨rfl, hbw16⟩
  replace hg := below_step hg hbw16
  replace grw0 := below_step grw0 hbw16
  replace grh0 := below_step grh0 hbw16
  replace mrg0 := mrg0.keep (below_same hbw16 mrg0.hiLe)
  go_wp2_with fail
  go_ret
  exact ⟨rfl, hWb.trans (hg.mono (by have := hWb.size; omega))⟩
end Go.Proofs.Ytilomfpomibimaa
