/- The walk of FnExactBusinessSpans out of its callees' contracts: it returns true, and what was there stays. No conditions. -/
import Derived.Test.YtflkijklipkneaaSpanI
import Derived.Test.YtflkijklipkneaaRankM
namespace Go.Proofs.Ytflkijklipkneaa
open Go.RowKit
set_option linter.unusedVariables false
set_option linter.unusedSimpArgs false

set_option maxRecDepth 100000 in
set_option maxHeartbeats 4000000 in
theorem law_BusinessSpans (w : World) (en0 nu0 de0 : Int) (v0 : Value) (d0 : List Int) (re0 : Int) (h0 : IntsAt w v0 d0) (v1 : Value) (d1 : List Int) (h1 : IntsAt w v1 d1) :
    Calls Try.prog 3 #[vSess en0 nu0 de0 v0 re0, v1] w fun e w' => e = .returned (.bool true) ∧ Below w.heap.size w w' := by
  obtain ⟨ao0, cap0, rfl⟩ := h0.form
  obtain ⟨ao1, cap1, rfl⟩ := h1.form
  by_cases hn1 : d1.length ≤ 1048576
  case neg =>
    go_enter Try.func3, Try.ntmps3
    go_wp2_with fail
    go_ret
    exact ⟨rfl, by go_grown⟩
  obtain ⟨W, hW⟩ : ∃ W, W = (w).alloc (.cells #[.int .i64 en0, .int .i64 nu0, .int .i64 de0, (.slice ao0 d0.length cap0), .int .i64 re0] 24) := ⟨_, rfl⟩
  have hWb : Below w.heap.size w W := by rw [hW]; go_grown
  have bx0 : BoxAt W (w.heap.size) #[.int .i64 en0, .int .i64 nu0, .int .i64 de0, (.slice ao0 d0.length cap0), .int .i64 re0] := by rw [hW]; exact BoxAt.new_at _ _ _ _ (by simp)
  have HW := Lib.hid hW; clear hW
  have i0 := h0.below hWb
  have i1 := h1.below hWb
  have hg := Below.refl W.heap.size W
  have cb0 := (bx0.below hg).cells
  go_enter Try.func3, Try.ntmps3
  go_wp2_with fail
  rw [← HW.out]
  refine (szSession_c _ _ _ _ d0 _ _ _ (i0.below hg) (by omega) (by omega)).mono ?_
  rintro e w1 ⟨r0, rfl, hr0, hbw1⟩
  replace hg := below_step hg hbw1
  replace cb0 := (bx0.below hg).cells
  rcases hr0 with hr0 | ⟨hr0, hs0, hn0⟩
  case inl => (go_wp2_with fail); go_ret; exact ⟨rfl, hWb.trans (hg.mono (by have := hWb.size; omega))⟩
  have hcnt0 := spansV_len ⟨en0, nu0, de0, d0, re0⟩ d1
  go_wp2_with fail
  refine (toSession_c _ _ _ _ d0 _ _ (i0.below hg) hn0).mono ?_
  rintro e w2 ⟨uos0, rfl, os0, hbw2⟩
  replace hg := below_step hg hbw2
  replace cb0 := (bx0.below hg).cells
  obtain ⟨aos0, kos0, rfl⟩ := os0.at_.form
  have gos0 := Below.refl w2.heap.size w2
  go_wp2_with fail
  refine (toIntS_c _ d1 _ (i1.below hg) hn1).mono ?_
  rintro e w3 ⟨uos1, rfl, os1, hbw3⟩
  replace hg := below_step hg hbw3
  replace gos0 := below_step gos0 hbw3
  replace cb0 := (bx0.below hg).cells
  obtain ⟨aos1, kos1, rfl⟩ := os1.at_.form
  have gos1 := Below.refl w3.heap.size w3
  go_wp2_with fail
  refine (s_BusinessSpans _ _ _ _ d0 _ _ d1 _ (os0.at_.below gos0) (os1.at_.below gos1) hn0).mono ?_
  rintro e w4 ⟨urw0, rfl, rw0, hbw4⟩
  replace hg := below_step hg hbw4
  replace gos0 := below_step gos0 hbw4
  replace gos1 := below_step gos1 hbw4
  replace cb0 := (bx0.below hg).cells
  obtain ⟨arw0, krw0, rfl⟩ := rw0.at_.form
  have grw0 := Below.refl w4.heap.size w4
  go_wp2_with fail
  refine (toSession_c _ _ _ _ d0 _ _ (i0.below hg) hn0).mono ?_
  rintro e w5 ⟨ux0, rfl, x0, hbw5⟩
  replace hg := below_step hg hbw5
  replace grw0 := below_step grw0 hbw5
  replace cb0 := (bx0.below hg).cells
  obtain ⟨ax0, kx0, rfl⟩ := x0.at_.form
  have gx0 := Below.refl w5.heap.size w5
  go_wp2_with fail
  generalize hV : World.alloc _ _ = w6
  have hbw6 : Below w5.heap.size w5 w6 := by rw [← hV]; exact (Below.refl _ _).alloc (Nat.le_refl _) _
  have bxx0 : BoxAt w6 w5.heap.size #[.int .i64 en0, .int .i64 nu0, .int .i64 de0, (.slice ax0 d0.length kx0), .int .i64 re0] := by rw [← hV]; exact BoxAt.new _ _ _
  replace hg := below_step hg hbw6
  replace grw0 := below_step grw0 hbw6
  replace gx0 := below_step gx0 hbw6
  replace cb0 := (bx0.below hg).cells
  have gbx0 := Below.refl w6.heap.size w6
  have cbx0 := (bxx0.below gbx0).cells
  clear hV
  refine (toIntS_c _ d1 _ (i1.below hg) hn1).mono ?_
  rintro e w7 ⟨ux1, rfl, x1, hbw7⟩
  replace hg := below_step hg hbw7
  replace grw0 := below_step grw0 hbw7
  replace gx0 := below_step gx0 hbw7
  replace gbx0 := below_step gbx0 hbw7
  replace cb0 := (bx0.below hg).cells
  replace cbx0 := (bxx0.below gbx0).cells
  obtain ⟨ax1, kx1, rfl⟩ := x1.at_.form
  have gx1 := Below.refl w7.heap.size w7
  go_wp2_with fail
  refine (i_BusinessSpans _ _ _ _ d0 _ _ d1 _ (x0.at_.below gx0) (x1.at_.below gx1) hn0).mono ?_
  rintro e w8 ⟨urg0, rfl, rg0, hbw8⟩
  replace hg := below_step hg hbw8
  replace grw0 := below_step grw0 hbw8
  replace gx0 := below_step gx0 hbw8
  replace gbx0 := below_step gbx0 hbw8
  replace gx1 := below_step gx1 hbw8
  replace cb0 := (bx0.below hg).cells
  replace cbx0 := (bxx0.below gbx0).cells
  obtain ⟨arg0, krg0, rfl⟩ := rg0.at_.form
  have grg0 := Below.refl w8.heap.size w8
  go_wp2_with fail
  refine (eqIntSS_c _ _ ((spansV ⟨en0, nu0, de0, d0, re0⟩ d1).1) ((spansV ⟨en0, nu0, de0, d0, re0⟩ d1).1) _ (rg0.at_.below grg0) (rw0.at_.below grw0)).mono ?_
  rintro e w9 ⟨rfl, hbw9⟩
  replace hg := below_step hg hbw9
  replace grw0 := below_step grw0 hbw9
  replace gx0 := below_step gx0 hbw9
  replace gbx0 := below_step gbx0 hbw9
  replace gx1 := below_step gx1 hbw9
  replace grg0 := below_step grg0 hbw9
  replace cb0 := (bx0.below hg).cells
  replace cbx0 := (bxx0.below gbx0).cells
  go_wp2_with fail
  have ix0 := x0.at_.below gx0
  have iy0 := i0.below hg
  have rx0 := (bxx0.below gbx0).rule
  have ry0 := (bx0.below hg).rule
  have rr0 := Below.refl w9.heap.size w9
  go_region_held3 (fun w' => Below w9.heap.size w9 w') (first | assumption | (exact Below.drew (by assumption)))
    (first
      | (go_at_call 7; refine (toSession_c _ _ _ _ d0 _ _ (iy0.below (by assumption)) hn0).mono ?_; rintro e w10 ⟨ue0, rfl, e0, hbw10⟩; obtain ⟨ae0, ke0, rfl⟩ := e0.at_.form; have hbn0 := below_step (W := w9) (by assumption) hbw10)
      | (go_at_call 11; refine (eqSession_c _ _ _ _ d0 _ _ _ _ _ d0 _ _ (ix0.below (by assumption)) e0.at_).mono ?_; rintro e w11 ⟨rfl, hbzw11⟩; have hbw11 := below_step (W := w9) (by assumption) hbzw11))
  clear rx0 ry0 rr0
  replace hg := below_step hg hbw11
  replace grw0 := below_step grw0 hbw11
  replace gx0 := below_step gx0 hbw11
  replace gbx0 := below_step gbx0 hbw11
  replace gx1 := below_step gx1 hbw11
  replace grg0 := below_step grg0 hbw11
  replace cb0 := (bx0.below hg).cells
  replace cbx0 := (bxx0.below gbx0).cells
  go_wp2_with fail
  refine (toIntS_c _ d1 _ (i1.below hg) hn1).mono ?_
  rintro e w12 ⟨ue1, rfl, e1, hbw12⟩
  replace hg := below_step hg hbw12
  replace grw0 := below_step grw0 hbw12
  replace gx0 := below_step gx0 hbw12
  replace gbx0 := below_step gbx0 hbw12
  replace gx1 := below_step gx1 hbw12
  replace grg0 := below_step grg0 hbw12
  replace cb0 := (bx0.below hg).cells
  replace cbx0 := (bxx0.below gbx0).cells
  obtain ⟨ae1, ke1, rfl⟩ := e1.at_.form
  go_wp2_with fail
  refine (eqIntS_c _ _ d1 d1 _ (x1.at_.below gx1) e1.at_).mono ?_
  rintro e w13 ⟨rfl, hbw13⟩
  replace hg := below_step hg hbw13
  replace grw0 := below_step grw0 hbw13
  replace gx0 := below_step gx0 hbw13
  replace gbx0 := below_step gbx0 hbw13
  replace gx1 := below_step gx1 hbw13
  replace grg0 := below_step grg0 hbw13
  replace cb0 := (bx0.below hg).cells
  replace cbx0 := (bxx0.below gbx0).cells
  have mx0 := (x0.toR).keep (below_same gx0 (Nat.le_refl _))
  have mx1 := (x1.toR).keep (below_same gx1 (Nat.le_refl _))
  go_wp2_with fail
  refine (markSession_r _ _ _ _ d0 _ _ _ _ _ mx0 (by omega) (by omega)).mono ?_
  rintro e w14 ⟨rfl, qx0, hox0⟩
  replace mx1 := mx1.keep (hox0.same (.inr (by have := hbw6.size; omega)) mx1.hiLe)
  replace hg := hg.trans (hox0.below (by have := hbw1.size; have := hbw2.size; have := hbw3.size; have := hbw4.size; omega) (by have := hbw1.size; have := hbw2.size; have := hbw3.size; have := hbw4.size; have := hbw5.size; have := hbw6.size; have := hbw7.size; have := hbw8.size; have := hbw9.size; have := hbw11.size; have := hbw12.size; have := hbw13.size; omega))
  replace grw0 := grw0.trans (hox0.below (Nat.le_refl _) (by have := hbw5.size; have := hbw6.size; have := hbw7.size; have := hbw8.size; have := hbw9.size; have := hbw11.size; have := hbw12.size; have := hbw13.size; omega))
  have rrg0 := (rg0.toR).keep (below_same grg0 (Nat.le_refl _))
  replace rrg0 := rrg0.keep (hox0.same (.inr (by have := hbw6.size; have := hbw7.size; omega)) rrg0.hiLe)
  replace cb0 := (bx0.below hg).cells
  go_wp2_with fail
  refine (markIntS_r _ _ _ d1 _ _ mx1 (by omega) (by omega)).mono ?_
  rintro e w15 ⟨rfl, qx1, hox1⟩
  replace hg := hg.trans (hox1.below (by have := hbw1.size; have := hbw2.size; have := hbw3.size; have := hbw4.size; have := hbw5.size; have := hbw6.size; omega) (by have := hbw1.size; have := hbw2.size; have := hbw3.size; have := hbw4.size; have := hbw5.size; have := hbw6.size; have := hbw7.size; have := hbw8.size; have := hbw9.size; have := hbw11.size; have := hbw12.size; have := hbw13.size; have := hox0.size; omega))
  replace grw0 := grw0.trans (hox1.below (by have := hbw5.size; have := hbw6.size; omega) (by have := hbw5.size; have := hbw6.size; have := hbw7.size; have := hbw8.size; have := hbw9.size; have := hbw11.size; have := hbw12.size; have := hbw13.size; have := hox0.size; omega))
  replace rrg0 := rrg0.keep (hox1.same (.inr (Nat.le_refl _)) rrg0.hiLe)
  replace cb0 := (bx0.below hg).cells
  go_wp2_with fail
  refine (eqIntSS_c _ _ ((spansV ⟨en0, nu0, de0, d0, re0⟩ d1).1) ((spansV ⟨en0, nu0, de0, d0, re0⟩ d1).1) _ rrg0.at_ (rw0.at_.below grw0)).mono ?_
  rintro e w16 ⟨rfl, hbw16⟩
  replace hg := below_step hg hbw16
  replace grw0 := below_step grw0 hbw16
  replace rrg0 := rrg0.keep (below_same hbw16 rrg0.hiLe)
  replace cb0 := (bx0.below hg).cells
  go_wp2_with fail
  refine (markIntSS_r _ ((spansV ⟨en0, nu0, de0, d0, re0⟩ d1).1) _ _ _ _ rrg0 (by omega) (by omega)).mono ?_
  rintro e w17 ⟨rfl, mrg0, horg0⟩
  replace hg := hg.trans (horg0.below (by have := hbw1.size; have := hbw2.size; have := hbw3.size; have := hbw4.size; have := hbw5.size; have := hbw6.size; have := hbw7.size; omega) (by have := hbw1.size; have := hbw2.size; have := hbw3.size; have := hbw4.size; have := hbw5.size; have := hbw6.size; have := hbw7.size; have := hbw8.size; have := hbw9.size; have := hbw11.size; have := hbw12.size; have := hbw13.size; have := hox0.size; have := hox1.size; have := hbw16.size; omega))
  replace grw0 := grw0.trans (horg0.below (by have := hbw5.size; have := hbw6.size; have := hbw7.size; omega) (by have := hbw5.size; have := hbw6.size; have := hbw7.size; have := hbw8.size; have := hbw9.size; have := hbw11.size; have := hbw12.size; have := hbw13.size; have := hox0.size; have := hox1.size; have := hbw16.size; omega))
  replace cb0 := (bx0.below hg).cells
  go_wp2_with fail
  refine (heldIntSS_n _ ((spansV ⟨en0, nu0, de0, d0, re0⟩ d1).1) _ _ mrg0.at_ (by omega) (by omega)).mono ?_
  rintro e w18 ⟨rfl, hbw18⟩
  replace hg := below_step hg hbw18
  replace grw0 := below_step grw0 hbw18
  replace mrg0 := mrg0.keep (below_same hbw18 mrg0.hiLe)
  replace cb0 := (bx0.below hg).cells
  go_wp2_with fail
  refine (toSession_c _ _ _ _ d0 _ _ (i0.below hg) hn0).mono ?_
  rintro e w19 ⟨uoh0, rfl, oh0, hbw19⟩
  replace hg := below_step hg hbw19
  replace grw0 := below_step grw0 hbw19
  replace mrg0 := mrg0.keep (below_same hbw19 mrg0.hiLe)
  replace cb0 := (bx0.below hg).cells
  obtain ⟨aoh0, koh0, rfl⟩ := oh0.at_.form
  have goh0 := Below.refl w19.heap.size w19
  go_wp2_with fail
  refine (toIntS_c _ d1 _ (i1.below hg) hn1).mono ?_
  rintro e w20 ⟨uoh1, rfl, oh1, hbw20⟩
  replace hg := below_step hg hbw20
  replace grw0 := below_step grw0 hbw20
  replace goh0 := below_step goh0 hbw20
  replace mrg0 := mrg0.keep (below_same hbw20 mrg0.hiLe)
  replace cb0 := (bx0.below hg).cells
  obtain ⟨aoh1, koh1, rfl⟩ := oh1.at_.form
  have goh1 := Below.refl w20.heap.size w20
  go_wp2_with fail
  refine (i_BusinessSpans _ _ _ _ d0 _ _ d1 _ (oh0.at_.below goh0) (oh1.at_.below goh1) hn0).mono ?_
  rintro e w21 ⟨urh0, rfl, rh0, hbw21⟩
  replace hg := below_step hg hbw21
  replace grw0 := below_step grw0 hbw21
  replace goh0 := below_step goh0 hbw21
  replace goh1 := below_step goh1 hbw21
  replace mrg0 := mrg0.keep (below_same hbw21 mrg0.hiLe)
  replace cb0 := (bx0.below hg).cells
  obtain ⟨arh0, krh0, rfl⟩ := rh0.at_.form
  have grh0 := Below.refl w21.heap.size w21
  go_wp2_with fail
  refine (eqIntSS_c _ _ ((spansV ⟨en0, nu0, de0, d0, re0⟩ d1).1) ((spansV ⟨en0, nu0, de0, d0, re0⟩ d1).1) _ (rh0.at_.below grh0) (rw0.at_.below grw0)).mono ?_
  rintro e w22 ⟨rfl, hbw22⟩
  replace hg := below_step hg hbw22
  replace grw0 := below_step grw0 hbw22
  replace grh0 := below_step grh0 hbw22
  replace mrg0 := mrg0.keep (below_same hbw22 mrg0.hiLe)
  replace cb0 := (bx0.below hg).cells
  go_wp2_with fail
  refine (heldIntSS_n _ ((spansV ⟨en0, nu0, de0, d0, re0⟩ d1).1) _ _ mrg0.at_ (by omega) (by omega)).mono ?_
  rintro e w23 ⟨rfl, hbw23⟩
  replace hg := below_step hg hbw23
  replace grw0 := below_step grw0 hbw23
  replace grh0 := below_step grh0 hbw23
  replace mrg0 := mrg0.keep (below_same hbw23 mrg0.hiLe)
  replace cb0 := (bx0.below hg).cells
  go_wp2_with fail
  go_ret
  exact ⟨rfl, hWb.trans (hg.mono (by have := hWb.size; omega))⟩
end Go.Proofs.Ytflkijklipkneaa
