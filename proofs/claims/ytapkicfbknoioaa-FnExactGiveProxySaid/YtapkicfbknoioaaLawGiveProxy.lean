/- The walk of FnExactGiveProxy out of its callees' contracts: it returns true, and what was there stays. No conditions. -/
import Derived.Test.YtapkicfbknoioaaGiveS
import Derived.Test.YtapkicfbknoioaaGiveI
namespace Go.Proofs.Ytapkicfbknoioaa
open Go.RowKit
set_option linter.unusedVariables false
set_option linter.unusedSimpArgs false

set_option maxRecDepth 100000 in
set_option maxHeartbeats 4000000 in
theorem law_GiveProxy (w : World) (v0 u0 : Value) (d0 : DVoters) (h0 : VotersAt w v0 u0 d0) (x1 : Int) (b1 : -9223372036854775808 ≤ x1 ∧ x1 ≤ 9223372036854775807) (x2 : Int) (b2 : -9223372036854775808 ≤ x2 ∧ x2 ≤ 9223372036854775807) :
    Calls Try.prog 3 #[vVoters v0 u0, .int .i64 x1, .int .i64 x2] w fun e w' => e = .returned (.bool true) ∧ Below w.heap.size w w' := by
  obtain ⟨ao0, cap0, ao0', cap0', rfl, rfl⟩ := h0.form
  obtain ⟨W, hW⟩ : ∃ W, W = (w).alloc (.cells #[(.slice ao0 d0.weights.length cap0), (.slice ao0' d0.proxies.length cap0')] 25) := ⟨_, rfl⟩
  have hWb : Below w.heap.size w W := by rw [hW]; go_grown
  have bx0 : BoxAt W (w.heap.size) #[(.slice ao0 d0.weights.length cap0), (.slice ao0' d0.proxies.length cap0')] := by rw [hW]; exact BoxAt.new_at _ _ _ _ (by simp)
  have HW := Lib.hid hW; clear hW
  have i0 := h0.below hWb
  have hg := Below.refl W.heap.size W
  have cb0 := (bx0.below hg).cells
  go_enter Try.func3, Try.ntmps3
  go_wp2_with fail
  rw [← HW.out]
  refine (szVoters_c _ _ d0 _ _ (i0.below hg) (by omega) (by omega)).mono ?_
  rintro e w1 ⟨r0, rfl, hr0, hbw1⟩
  replace hg := below_step hg hbw1
  replace cb0 := (bx0.below hg).cells
  rcases hr0 with hr0 | ⟨hr0, hs0, hn0⟩
  case inl => (go_wp2_with fail); go_ret; exact ⟨rfl, hWb.trans (hg.mono (by have := hWb.size; omega))⟩
  have hcnt0 := giveV_len d0 x1 x2 (by assumption)
  go_wp2_with fail
  refine (toVoters_c _ _ d0 _ (i0.below hg) hn0).mono ?_
  rintro e w2 ⟨pos0, qos0, rfl, os0, hbw2⟩
  replace hg := below_step hg hbw2
  replace cb0 := (bx0.below hg).cells
  obtain ⟨aos0, kos0, aos0', kos0', rfl, rfl⟩ := os0.at_.form
  have gos0 := Below.refl w2.heap.size w2
  go_wp2_with fail
  refine (s_GiveProxy _ _ d0 _ _ _ (os0.at_.below gos0) hn0).mono ?_
  rintro e w3 ⟨prw0, qrw0, rfl, rw0, hbw3⟩
  replace hg := below_step hg hbw3
  replace gos0 := below_step gos0 hbw3
  replace cb0 := (bx0.below hg).cells
  obtain ⟨arw0, krw0, arw0', krw0', rfl, rfl⟩ := rw0.at_.form
  have grw0 := Below.refl w3.heap.size w3
  go_wp2_with (
    with_reducible change Go.wpList _ _ _ (Oper.mk _ (Op.load _ _) _ _ _ _ :: _) _ (World.alloc _ _)
    generalize hV : World.alloc _ _ = w4
    have hbw4 : Below w3.heap.size w3 w4 := by rw [← hV]; exact (Below.refl _ _).alloc (Nat.le_refl _) _
    have bxrw0 : BoxAt w4 w3.heap.size #[(.slice arw0 (giveV d0 x1 x2).1.weights.length krw0), (.slice arw0' (giveV d0 x1 x2).1.proxies.length krw0')] := by rw [← hV]; exact BoxAt.new _ _ _
    replace hg := below_step hg hbw4
    replace grw0 := below_step grw0 hbw4
    replace cb0 := (bx0.below hg).cells
    have gbrw0 := Below.refl w4.heap.size w4
    have cbrw0 := (bxrw0.below gbrw0).cells
    clear hV)
  go_wp2_with fail
  refine (toVoters_c _ _ d0 _ (i0.below hg) hn0).mono ?_
  rintro e w5 ⟨px0, qx0, rfl, x0, hbw5⟩
  replace hg := below_step hg hbw5
  replace grw0 := below_step grw0 hbw5
  replace gbrw0 := below_step gbrw0 hbw5
  replace cb0 := (bx0.below hg).cells
  replace cbrw0 := (bxrw0.below gbrw0).cells
  obtain ⟨ax0, kx0, ax0', kx0', rfl, rfl⟩ := x0.at_.form
  have gx0 := Below.refl w5.heap.size w5
  go_wp2_with (
    with_reducible change Go.wpList _ _ _ (Oper.mk _ (Op.load _ _) _ _ _ _ :: _) _ (World.alloc _ _)
    generalize hV : World.alloc _ _ = w6
    have hbw6 : Below w5.heap.size w5 w6 := by rw [← hV]; exact (Below.refl _ _).alloc (Nat.le_refl _) _
    have bxx0 : BoxAt w6 w5.heap.size #[(.slice ax0 d0.weights.length kx0), (.slice ax0' d0.proxies.length kx0')] := by rw [← hV]; exact BoxAt.new _ _ _
    replace hg := below_step hg hbw6
    replace grw0 := below_step grw0 hbw6
    replace gbrw0 := below_step gbrw0 hbw6
    replace gx0 := below_step gx0 hbw6
    replace cb0 := (bx0.below hg).cells
    replace cbrw0 := (bxrw0.below gbrw0).cells
    have gbx0 := Below.refl w6.heap.size w6
    have cbx0 := (bxx0.below gbx0).cells
    clear hV)
  go_wp2_with fail
  refine (i_GiveProxy _ _ d0 _ _ _ (x0.at_.below gx0) hn0).mono ?_
  rintro e w7 ⟨prg0, qrg0, rfl, rg0, hbw7⟩
  replace hg := below_step hg hbw7
  replace grw0 := below_step grw0 hbw7
  replace gbrw0 := below_step gbrw0 hbw7
  replace gx0 := below_step gx0 hbw7
  replace gbx0 := below_step gbx0 hbw7
  replace cb0 := (bx0.below hg).cells
  replace cbrw0 := (bxrw0.below gbrw0).cells
  replace cbx0 := (bxx0.below gbx0).cells
  obtain ⟨arg0, krg0, arg0', krg0', rfl, rfl⟩ := rg0.at_.form
  have grg0 := Below.refl w7.heap.size w7
  go_wp2_with (
    with_reducible change Go.wpList _ _ _ (Oper.mk _ (Op.load _ _) _ _ _ _ :: _) _ (World.alloc _ _)
    generalize hV : World.alloc _ _ = w8
    have hbw8 : Below w7.heap.size w7 w8 := by rw [← hV]; exact (Below.refl _ _).alloc (Nat.le_refl _) _
    have bxrg0 : BoxAt w8 w7.heap.size #[(.slice arg0 (giveV d0 x1 x2).1.weights.length krg0), (.slice arg0' (giveV d0 x1 x2).1.proxies.length krg0')] := by rw [← hV]; exact BoxAt.new _ _ _
    replace hg := below_step hg hbw8
    replace grw0 := below_step grw0 hbw8
    replace gbrw0 := below_step gbrw0 hbw8
    replace gx0 := below_step gx0 hbw8
    replace gbx0 := below_step gbx0 hbw8
    replace grg0 := below_step grg0 hbw8
    replace cb0 := (bx0.below hg).cells
    replace cbrw0 := (bxrw0.below gbrw0).cells
    replace cbx0 := (bxx0.below gbx0).cells
    have gbrg0 := Below.refl w8.heap.size w8
    have cbrg0 := (bxrg0.below gbrg0).cells
    clear hV)
  go_wp2_with fail
  refine (eqVoters_c _ _ _ _ ((giveV d0 x1 x2).1) ((giveV d0 x1 x2).1) _ (rg0.at_.below grg0) (rw0.at_.below grw0)).mono ?_
  rintro e w9 ⟨rfl, hbw9⟩
  replace hg := below_step hg hbw9
  replace grw0 := below_step grw0 hbw9
  replace gbrw0 := below_step gbrw0 hbw9
  replace gx0 := below_step gx0 hbw9
  replace gbx0 := below_step gbx0 hbw9
  replace grg0 := below_step grg0 hbw9
  replace gbrg0 := below_step gbrg0 hbw9
  replace cb0 := (bx0.below hg).cells
  replace cbrw0 := (bxrw0.below gbrw0).cells
  replace cbx0 := (bxx0.below gbx0).cells
  replace cbrg0 := (bxrg0.below gbrg0).cells
  go_wp2_with fail
  have ix0 := x0.at_.below gx0
  have iy0 := i0.below hg
  have rx0 := (bxx0.below gbx0).rule
  have ry0 := (bx0.below hg).rule
  have rr0 := Below.refl w9.heap.size w9
  go_region_held3 (fun w' => Below w9.heap.size w9 w') (first | assumption | (exact Below.drew (by assumption)))
    (first
      | (go_at_call 8; refine (toVoters_c _ _ d0 _ (iy0.below (by assumption)) hn0).mono ?_; rintro e w10 ⟨pe0, qe0, rfl, e0, hbw10⟩; obtain ⟨ae0, ke0, ae0', ke0', rfl, rfl⟩ := e0.at_.form; have hbn0 := below_step (W := w9) (by assumption) hbw10)
      | (go_at_call 10; refine (eqVoters_c _ _ _ _ d0 d0 _ (ix0.below (by assumption)) e0.at_).mono ?_; rintro e w11 ⟨rfl, hbzw11⟩; have hbw11 := below_step (W := w9) (by assumption) hbzw11))
  clear rx0 ry0 rr0
  replace hg := below_step hg hbw11
  replace grw0 := below_step grw0 hbw11
  replace gbrw0 := below_step gbrw0 hbw11
  replace gx0 := below_step gx0 hbw11
  replace gbx0 := below_step gbx0 hbw11
  replace grg0 := below_step grg0 hbw11
  replace gbrg0 := below_step gbrg0 hbw11
  replace cb0 := (bx0.below hg).cells
  replace cbrw0 := (bxrw0.below gbrw0).cells
  replace cbx0 := (bxx0.below gbx0).cells
  replace cbrg0 := (bxrg0.below gbrg0).cells
  have mx0 := (x0.toR).keep (below_same gx0 (Nat.le_refl _))
  go_wp2_with fail
  refine (markVoters_r _ _ d0 _ _ _ _ mx0 (by omega) (by omega)).mono ?_
  rintro e w12 ⟨rfl, qx0, hox0⟩
  replace hg := hg.trans (hox0.below (by have := hbw1.size; have := hbw2.size; have := hbw3.size; have := hbw4.size; omega) (by have := hbw1.size; have := hbw2.size; have := hbw3.size; have := hbw4.size; have := hbw5.size; have := hbw6.size; have := hbw7.size; have := hbw8.size; have := hbw9.size; have := hbw11.size; omega))
  replace grw0 := grw0.trans (hox0.below (by have := hbw4.size; omega) (by have := hbw4.size; have := hbw5.size; have := hbw6.size; have := hbw7.size; have := hbw8.size; have := hbw9.size; have := hbw11.size; omega))
  replace gbrw0 := gbrw0.trans (hox0.below (Nat.le_refl _) (by have := hbw5.size; have := hbw6.size; have := hbw7.size; have := hbw8.size; have := hbw9.size; have := hbw11.size; omega))
  have bxrg0w12 := OutOf.box hox0 (bxrg0.below gbrg0) (.inr (by have := hbw6.size; have := hbw7.size; omega))
  have rrg0 := (rg0.toR).keep (below_same grg0 (Nat.le_refl _))
  replace rrg0 := rrg0.keep (hox0.same (.inr (by have := hbw6.size; omega)) rrg0.hiLe)
  replace gbrg0 := Below.refl w12.heap.size w12
  replace cb0 := (bx0.below hg).cells
  replace cbrw0 := (bxrw0.below gbrw0).cells
  replace cbrg0 := (bxrg0w12.below gbrg0).cells
  go_wp2_with fail
  refine (eqVoters_c _ _ _ _ ((giveV d0 x1 x2).1) ((giveV d0 x1 x2).1) _ rrg0.at_ (rw0.at_.below grw0)).mono ?_
  rintro e w13 ⟨rfl, hbw13⟩
  replace hg := below_step hg hbw13
  replace grw0 := below_step grw0 hbw13
  replace gbrw0 := below_step gbrw0 hbw13
  replace gbrg0 := below_step gbrg0 hbw13
  replace rrg0 := rrg0.keep (below_same hbw13 rrg0.hiLe)
  replace cb0 := (bx0.below hg).cells
  replace cbrw0 := (bxrw0.below gbrw0).cells
  replace cbrg0 := (bxrg0w12.below gbrg0).cells
  go_wp2_with fail
  refine (markVoters_r _ _ ((giveV d0 x1 x2).1) _ _ _ _ rrg0 (by omega) (by omega)).mono ?_
  rintro e w14 ⟨rfl, mrg0, horg0⟩
  replace hg := hg.trans (horg0.below (by have := hbw1.size; have := hbw2.size; have := hbw3.size; have := hbw4.size; have := hbw5.size; have := hbw6.size; omega) (by have := hbw1.size; have := hbw2.size; have := hbw3.size; have := hbw4.size; have := hbw5.size; have := hbw6.size; have := hbw7.size; have := hbw8.size; have := hbw9.size; have := hbw11.size; have := hox0.size; have := hbw13.size; omega))
  replace grw0 := grw0.trans (horg0.below (by have := hbw4.size; have := hbw5.size; have := hbw6.size; omega) (by have := hbw4.size; have := hbw5.size; have := hbw6.size; have := hbw7.size; have := hbw8.size; have := hbw9.size; have := hbw11.size; have := hox0.size; have := hbw13.size; omega))
  replace gbrw0 := gbrw0.trans (horg0.below (by have := hbw5.size; have := hbw6.size; omega) (by have := hbw5.size; have := hbw6.size; have := hbw7.size; have := hbw8.size; have := hbw9.size; have := hbw11.size; have := hox0.size; have := hbw13.size; omega))
  have bxrg0w12w14 := OutOf.box horg0 (bxrg0w12.below gbrg0) (.inr (Nat.le_refl _))
  replace gbrg0 := Below.refl w14.heap.size w14
  replace cb0 := (bx0.below hg).cells
  replace cbrw0 := (bxrw0.below gbrw0).cells
  replace cbrg0 := (bxrg0w12w14.below gbrg0).cells
  go_wp2_with fail
  refine (heldVoters_n _ _ ((giveV d0 x1 x2).1) _ _ mrg0.at_ (by omega) (by omega)).mono ?_
  rintro e w15 ⟨rfl, hbw15⟩
  replace hg := below_step hg hbw15
  replace grw0 := below_step grw0 hbw15
  replace gbrw0 := below_step gbrw0 hbw15
  replace gbrg0 := below_step gbrg0 hbw15
  replace mrg0 := mrg0.keep (below_same hbw15 mrg0.hiLe)
  replace cb0 := (bx0.below hg).cells
  replace cbrw0 := (bxrw0.below gbrw0).cells
  replace cbrg0 := (bxrg0w12w14.below gbrg0).cells
  go_wp2_with fail
  refine (toVoters_c _ _ d0 _ (i0.below hg) hn0).mono ?_
  rintro e w16 ⟨poh0, qoh0, rfl, oh0, hbw16⟩
  replace hg := below_step hg hbw16
  replace grw0 := below_step grw0 hbw16
  replace gbrw0 := below_step gbrw0 hbw16
  replace gbrg0 := below_step gbrg0 hbw16
  replace mrg0 := mrg0.keep (below_same hbw16 mrg0.hiLe)
  replace cb0 := (bx0.below hg).cells
  replace cbrw0 := (bxrw0.below gbrw0).cells
  replace cbrg0 := (bxrg0w12w14.below gbrg0).cells
  obtain ⟨aoh0, koh0, aoh0', koh0', rfl, rfl⟩ := oh0.at_.form
  have goh0 := Below.refl w16.heap.size w16
  go_wp2_with fail
  refine (i_GiveProxy _ _ d0 _ _ _ (oh0.at_.below goh0) hn0).mono ?_
  rintro e w17 ⟨prh0, qrh0, rfl, rh0, hbw17⟩
  replace hg := below_step hg hbw17
  replace grw0 := below_step grw0 hbw17
  replace gbrw0 := below_step gbrw0 hbw17
  replace gbrg0 := below_step gbrg0 hbw17
  replace goh0 := below_step goh0 hbw17
  replace mrg0 := mrg0.keep (below_same hbw17 mrg0.hiLe)
  replace cb0 := (bx0.below hg).cells
  replace cbrw0 := (bxrw0.below gbrw0).cells
  replace cbrg0 := (bxrg0w12w14.below gbrg0).cells
  obtain ⟨arh0, krh0, arh0', krh0', rfl, rfl⟩ := rh0.at_.form
  have grh0 := Below.refl w17.heap.size w17
  go_wp2_with (
    with_reducible change Go.wpList _ _ _ (Oper.mk _ (Op.load _ _) _ _ _ _ :: _) _ (World.alloc _ _)
    generalize hV : World.alloc _ _ = w18
    have hbw18 : Below w17.heap.size w17 w18 := by rw [← hV]; exact (Below.refl _ _).alloc (Nat.le_refl _) _
    have bxrh0 : BoxAt w18 w17.heap.size #[(.slice arh0 (giveV d0 x1 x2).1.weights.length krh0), (.slice arh0' (giveV d0 x1 x2).1.proxies.length krh0')] := by rw [← hV]; exact BoxAt.new _ _ _
    replace hg := below_step hg hbw18
    replace grw0 := below_step grw0 hbw18
    replace gbrw0 := below_step gbrw0 hbw18
    replace gbrg0 := below_step gbrg0 hbw18
    replace grh0 := below_step grh0 hbw18
    replace mrg0 := mrg0.keep (below_same hbw18 mrg0.hiLe)
    replace cb0 := (bx0.below hg).cells
    replace cbrw0 := (bxrw0.below gbrw0).cells
    replace cbrg0 := (bxrg0w12w14.below gbrg0).cells
    have gbrh0 := Below.refl w18.heap.size w18
    have cbrh0 := (bxrh0.below gbrh0).cells
    clear hV)
  go_wp2_with fail
  refine (eqVoters_c _ _ _ _ ((giveV d0 x1 x2).1) ((giveV d0 x1 x2).1) _ (rh0.at_.below grh0) (rw0.at_.below grw0)).mono ?_
  rintro e w19 ⟨rfl, hbw19⟩
  replace hg := below_step hg hbw19
  replace grw0 := below_step grw0 hbw19
  replace gbrw0 := below_step gbrw0 hbw19
  replace gbrg0 := below_step gbrg0 hbw19
  replace grh0 := below_step grh0 hbw19
  replace gbrh0 := below_step gbrh0 hbw19
  replace mrg0 := mrg0.keep (below_same hbw19 mrg0.hiLe)
  replace cb0 := (bx0.below hg).cells
  replace cbrw0 := (bxrw0.below gbrw0).cells
  replace cbrg0 := (bxrg0w12w14.below gbrg0).cells
  replace cbrh0 := (bxrh0.below gbrh0).cells
  go_wp2_with fail
  refine (heldVoters_n _ _ ((giveV d0 x1 x2).1) _ _ mrg0.at_ (by omega) (by omega)).mono ?_
  rintro e w20 ⟨rfl, hbw20⟩
  replace hg := below_step hg hbw20
  replace grw0 := below_step grw0 hbw20
  replace gbrw0 := below_step gbrw0 hbw20
  replace gbrg0 := below_step gbrg0 hbw20
  replace grh0 := below_step grh0 hbw20
  replace gbrh0 := below_step gbrh0 hbw20
  replace mrg0 := mrg0.keep (below_same hbw20 mrg0.hiLe)
  replace cb0 := (bx0.below hg).cells
  replace cbrw0 := (bxrw0.below gbrw0).cells
  replace cbrg0 := (bxrg0w12w14.below gbrg0).cells
  replace cbrh0 := (bxrh0.below gbrh0).cells
  go_wp2_with fail
  go_ret
  exact ⟨rfl, hWb.trans (hg.mono (by have := hWb.size; omega))⟩
end Go.Proofs.Ytapkicfbknoioaa
