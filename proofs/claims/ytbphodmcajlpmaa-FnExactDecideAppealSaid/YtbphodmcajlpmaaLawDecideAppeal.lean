/- The walk of FnExactDecideAppeal out of its callees' contracts: it returns true, and what was there stays. No conditions. -/
import Derived.Test.YtbphodmcajlpmaaPointD
import Derived.Deep.DeepCutAuto
namespace Go.Proofs.Ytbphodmcajlpmaa
open Go.RowKit
set_option linter.unusedVariables false
set_option linter.unusedSimpArgs false

/-- What a call leaves, the copies of its arguments made in whatever order. -/
def CutP (lo wx : World) (xs : List DPoint) (b : Bool) (s t : Value) : Prop := ∃ a k, s = .slice a xs.length k ∧ t = .bool b ∧ OwnPoints wx lo.heap.size (.slice a xs.length k) xs ∧ Below lo.heap.size lo wx

set_option maxRecDepth 100000 in
set_option maxHeartbeats 4000000 in
theorem law_DecideAppeal (w : World) (v0 : Value) (d0 : List DPoint) (h0 : PointsAt w v0 d0) (y1 n1 a1 : Int) (b1 : (-9223372036854775808 ≤ y1 ∧ y1 ≤ 9223372036854775807) ∧ (-9223372036854775808 ≤ n1 ∧ n1 ≤ 9223372036854775807) ∧ (-9223372036854775808 ≤ a1 ∧ a1 ≤ 9223372036854775807)) :
    Calls Try.prog 3 #[v0, vTally y1 n1 a1] w fun e w' => e = .returned (.bool true) ∧ Below w.heap.size w w' := by
  obtain ⟨ao0, cap0, rfl⟩ := h0.form
  obtain ⟨W, hW⟩ : ∃ W, W = (w).alloc (.cells #[.int .i64 y1, .int .i64 n1, .int .i64 a1] 24) := ⟨_, rfl⟩
  have hWb : Below w.heap.size w W := by rw [hW]; go_grown
  have bx1 : BoxAt W (w.heap.size) #[.int .i64 y1, .int .i64 n1, .int .i64 a1] := by rw [hW]; exact BoxAt.new_at _ _ _ _ (by simp)
  have HW := Lib.hid hW; clear hW
  have i0 := h0.below hWb
  have hg := Below.refl W.heap.size W
  have cb1 := (bx1.below hg).cells
  go_enter Try.func3, Try.ntmps3
  go_wp2_with fail
  rw [← HW.out]
  refine (szPointS_c _ d0 _ _ (i0.below hg) (by omega) (by omega)).mono ?_
  rintro e w1 ⟨r0, rfl, hr0, hbw1⟩
  replace hg := below_step hg hbw1
  replace cb1 := (bx1.below hg).cells
  rcases hr0 with hr0 | ⟨hr0, hs0, hn0⟩
  case inl => (go_wp2_with fail); go_ret; exact ⟨rfl, hWb.trans (hg.mono (by have := hWb.size; omega))⟩
  have hcnt0 := decP_len d0 y1 n1 a1
  go_upto_region 5 with fail
  go_cut [6, 7] (fun s t wx => CutP w1 wx (decP d0 y1 n1 a1).1 (decP d0 y1 n1 a1).2 s t)
  case first =>
    have ry := (bx1.below hg).rule
    have iy := i0.below hg
    have rr := Below.refl w1.heap.size w1
    go_region_held3 (fun w' => Below w1.heap.size w1 w') (first | assumption | exact Below.drew (by assumption)) (first
      | (go_at_call 10; refine (toPointS_c _ d0 _ (iy.below (by assumption)) hn0).mono ?_; rintro e w2 ⟨u2, rfl, os0, hb2⟩; have hn2 := below_step (W := w1) (by assumption) hb2; obtain ⟨a2, k2, rfl⟩ := os0.at_.form)
      | (go_at_call 11; refine (toTally_c _ _ _ _).mono ?_; rintro e w3 ⟨rfl, hb3⟩; have hn3 := below_step (W := w1) (by assumption) hb3)
      | (go_at_call 9; refine (s_DecideAppeal _ d0 _ _ _ _ (by first | exact os0.at_ | exact os0.at_.below hb3)).mono ?_; rintro e w4 ⟨u4, rfl, ho4, hb4⟩; have hn4 := below_step (W := w1) (by assumption) hb4; obtain ⟨a4, k4, rfl⟩ := ho4.at_.form))
    all_goals go_wp2_with fail
    all_goals go_meet
    all_goals first | exact ⟨a4, k4, rfl, rfl, own_base ho4 hn3.size, hn4⟩ | exact ⟨a4, k4, rfl, rfl, own_base ho4 hn2.size, hn4⟩
  obtain ⟨arw0, krw0, rfl, rfl, rw0, hC⟩ := hcut
  rename World => w4
  replace hg := below_step hg hC
  have hbw2 := Below.refl w1.heap.size w1
  have hbw3 := Below.refl w1.heap.size w1
  have hbw4 := hC
  replace cb1 := (bx1.below hg).cells
  have grw0 := Below.refl w4.heap.size w4
  go_wp2_with fail
  refine (toPointS_c _ d0 _ (i0.below hg) hn0).mono ?_
  rintro e w5 ⟨ux0, rfl, x0, hbw5⟩
  replace hg := below_step hg hbw5
  replace grw0 := below_step grw0 hbw5
  replace cb1 := (bx1.below hg).cells
  obtain ⟨ax0, kx0, rfl⟩ := x0.at_.form
  have gx0 := Below.refl w5.heap.size w5
  go_wp2_with fail
  refine (toTally_c _ _ _ _).mono ?_
  rintro e w6 ⟨rfl, hbw6⟩
  replace hg := below_step hg hbw6
  replace grw0 := below_step grw0 hbw6
  replace gx0 := below_step gx0 hbw6
  replace cb1 := (bx1.below hg).cells
  go_wp2_with fail
  refine (i_DecideAppeal _ d0 _ _ _ _ (x0.at_.below gx0)).mono ?_
  rintro e w7 ⟨urg0, rfl, rg0, hbw7⟩
  replace hg := below_step hg hbw7
  replace grw0 := below_step grw0 hbw7
  replace gx0 := below_step gx0 hbw7
  replace cb1 := (bx1.below hg).cells
  obtain ⟨arg0, krg0, rfl⟩ := rg0.at_.form
  have grg0 := Below.refl w7.heap.size w7
  go_wp2_with fail
  refine (eqPointS_c _ _ ((decP d0 y1 n1 a1).1) ((decP d0 y1 n1 a1).1) _ (rg0.at_.below grg0) (rw0.at_.below grw0)).mono ?_
  rintro e w8 ⟨rfl, hbw8⟩
  replace hg := below_step hg hbw8
  replace grw0 := below_step grw0 hbw8
  replace gx0 := below_step gx0 hbw8
  replace grg0 := below_step grg0 hbw8
  replace cb1 := (bx1.below hg).cells
  go_wp2_with fail
  refine (toPointS_c _ d0 _ (i0.below hg) hn0).mono ?_
  rintro e w9 ⟨ue0, rfl, e0, hbw9⟩
  replace hg := below_step hg hbw9
  replace grw0 := below_step grw0 hbw9
  replace gx0 := below_step gx0 hbw9
  replace grg0 := below_step grg0 hbw9
  replace cb1 := (bx1.below hg).cells
  obtain ⟨ae0, ke0, rfl⟩ := e0.at_.form
  go_wp2_with fail
  refine (eqPointS_c _ _ d0 d0 _ (x0.at_.below gx0) e0.at_).mono ?_
  rintro e w10 ⟨rfl, hbw10⟩
  replace hg := below_step hg hbw10
  replace grw0 := below_step grw0 hbw10
  replace gx0 := below_step gx0 hbw10
  replace grg0 := below_step grg0 hbw10
  replace cb1 := (bx1.below hg).cells
  have mx0 := (x0.toR).keep (below_same gx0 (Nat.le_refl _))
  go_wp2_with fail
  refine (markPointS_r _ d0 _ _ _ _ mx0 (by omega) (by omega)).mono ?_
  rintro e w11 ⟨rfl, qx0, hox0⟩
  replace hg := hg.trans (hox0.below (by have := hbw1.size; have := hbw2.size; have := hbw3.size; have := hbw4.size; omega) (by have := hbw1.size; have := hbw2.size; have := hbw3.size; have := hbw4.size; have := hbw5.size; have := hbw6.size; have := hbw7.size; have := hbw8.size; have := hbw9.size; have := hbw10.size; omega))
  replace grw0 := grw0.trans (hox0.below (Nat.le_refl _) (by have := hbw5.size; have := hbw6.size; have := hbw7.size; have := hbw8.size; have := hbw9.size; have := hbw10.size; omega))
  have rrg0 := (rg0.toR).keep (below_same grg0 (Nat.le_refl _))
  replace rrg0 := rrg0.keep (hox0.same (.inr (by have := hbw6.size; omega)) rrg0.hiLe)
  replace cb1 := (bx1.below hg).cells
  go_wp2_with fail
  refine (eqPointS_c _ _ ((decP d0 y1 n1 a1).1) ((decP d0 y1 n1 a1).1) _ rrg0.at_ (rw0.at_.below grw0)).mono ?_
  rintro e w12 ⟨rfl, hbw12⟩
  replace hg := below_step hg hbw12
  replace grw0 := below_step grw0 hbw12
  replace rrg0 := rrg0.keep (below_same hbw12 rrg0.hiLe)
  replace cb1 := (bx1.below hg).cells
  go_wp2_with fail
  refine (markPointS_r _ ((decP d0 y1 n1 a1).1) _ _ _ _ rrg0 (by omega) (by omega)).mono ?_
  rintro e w13 ⟨rfl, mrg0, horg0⟩
  replace hg := hg.trans (horg0.below (by have := hbw1.size; have := hbw2.size; have := hbw3.size; have := hbw4.size; have := hbw5.size; have := hbw6.size; omega) (by have := hbw1.size; have := hbw2.size; have := hbw3.size; have := hbw4.size; have := hbw5.size; have := hbw6.size; have := hbw7.size; have := hbw8.size; have := hbw9.size; have := hbw10.size; have := hox0.size; have := hbw12.size; omega))
  replace grw0 := grw0.trans (horg0.below (by have := hbw5.size; have := hbw6.size; omega) (by have := hbw5.size; have := hbw6.size; have := hbw7.size; have := hbw8.size; have := hbw9.size; have := hbw10.size; have := hox0.size; have := hbw12.size; omega))
  replace cb1 := (bx1.below hg).cells
  go_wp2_with fail
  refine (heldPointS_n _ ((decP d0 y1 n1 a1).1) _ _ mrg0.at_ (by omega) (by omega)).mono ?_
  rintro e w14 ⟨rfl, hbw14⟩
  replace hg := below_step hg hbw14
  replace grw0 := below_step grw0 hbw14
  replace mrg0 := mrg0.keep (below_same hbw14 mrg0.hiLe)
  replace cb1 := (bx1.below hg).cells
  go_upto_region 24 with fail
  go_cut [14, 15] (fun s t wx => CutP w14 wx (decP d0 y1 n1 a1).1 (decP d0 y1 n1 a1).2 s t)
  case first =>
    have ry := (bx1.below hg).rule
    have iy := i0.below hg
    have rr := Below.refl w14.heap.size w14
    go_region_held3 (fun w' => Below w14.heap.size w14 w') (first | assumption | exact Below.drew (by assumption)) (first
      | (go_at_call 10; refine (toPointS_c _ d0 _ (iy.below (by assumption)) hn0).mono ?_; rintro e w2 ⟨u2, rfl, os0, hb2⟩; have hn2 := below_step (W := w14) (by assumption) hb2; obtain ⟨a2, k2, rfl⟩ := os0.at_.form)
      | (go_at_call 11; refine (toTally_c _ _ _ _).mono ?_; rintro e w3 ⟨rfl, hb3⟩; have hn3 := below_step (W := w14) (by assumption) hb3)
      | (go_at_call 12; refine (i_DecideAppeal _ d0 _ _ _ _ (by first | exact os0.at_ | exact os0.at_.below hb3)).mono ?_; rintro e w4 ⟨u4, rfl, ho4, hb4⟩; have hn4 := below_step (W := w14) (by assumption) hb4; obtain ⟨a4, k4, rfl⟩ := ho4.at_.form))
    all_goals go_wp2_with fail
    all_goals go_meet
    all_goals first | exact ⟨a4, k4, rfl, rfl, own_base ho4 hn3.size, hn4⟩ | exact ⟨a4, k4, rfl, rfl, own_base ho4 hn2.size, hn4⟩
  obtain ⟨arh0, krh0, rfl, rfl, rh0, hC⟩ := hcut
  rename World => w17
  replace hg := below_step hg hC
  replace grw0 := below_step grw0 hC
  replace mrg0 := mrg0.keep (below_same hC mrg0.hiLe)
  have hbw15 := Below.refl w14.heap.size w14
  have hbw16 := Below.refl w14.heap.size w14
  have hbw17 := hC
  replace cb1 := (bx1.below hg).cells
  have grh0 := Below.refl w17.heap.size w17
  go_wp2_with fail
  refine (eqPointS_c _ _ ((decP d0 y1 n1 a1).1) ((decP d0 y1 n1 a1).1) _ (rh0.at_.below grh0) (rw0.at_.below grw0)).mono ?_
  rintro e w18 ⟨rfl, hbw18⟩
  replace hg := below_step hg hbw18
  replace grw0 := below_step grw0 hbw18
  replace grh0 := below_step grh0 hbw18
  replace mrg0 := mrg0.keep (below_same hbw18 mrg0.hiLe)
  replace cb1 := (bx1.below hg).cells
  go_wp2_with fail
  refine (heldPointS_n _ ((decP d0 y1 n1 a1).1) _ _ mrg0.at_ (by omega) (by omega)).mono ?_
  rintro e w19 ⟨rfl, hbw19⟩
  replace hg := below_step hg hbw19
  replace grw0 := below_step grw0 hbw19
  replace grh0 := below_step grh0 hbw19
  replace mrg0 := mrg0.keep (below_same hbw19 mrg0.hiLe)
  replace cb1 := (bx1.below hg).cells
  go_wp2_with fail
  go_ret
  exact ⟨rfl, hWb.trans (hg.mono (by have := hWb.size; omega))⟩
end Go.Proofs.Ytbphodmcajlpmaa
