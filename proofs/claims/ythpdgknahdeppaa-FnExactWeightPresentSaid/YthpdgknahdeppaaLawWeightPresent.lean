/- The walk of FnExactWeightPresent out of its callees' contracts: it returns true, and what was there stays. No conditions. -/
import Derived.Test.YthpdgknahdeppaaVoteC
namespace Go.Proofs.Ythpdgknahdeppaa
open Go.RowKit
set_option linter.unusedVariables false
set_option linter.unusedSimpArgs false

set_option maxRecDepth 100000 in
set_option maxHeartbeats 4000000 in
theorem law_WeightPresent (w : World) (v0 u0 : Value) (d0 : DVoters) (h0 : VotersAt w v0 u0 d0) (v1 : Value) (d1 : List Int) (h1 : IntsAt w v1 d1) :
    Calls Try.prog 5 #[vVoters v0 u0, v1] w fun e w' => e = .returned (.bool true) ∧ Below w.heap.size w w' := by
  obtain ⟨ao0, cap0, ao0', cap0', rfl, rfl⟩ := h0.form
  obtain ⟨ao1, cap1, rfl⟩ := h1.form
  by_cases hn1 : d1.length ≤ 1048576
  case neg =>
    go_enter Try.func5, Try.ntmps5
    go_wp2_with fail
    go_ret
    exact ⟨rfl, by go_grown⟩
  obtain ⟨W, hW⟩ : ∃ W, W = (w).alloc (.cells #[(.slice ao0 d0.weights.length cap0), (.slice ao0' d0.proxies.length cap0')] 25) := ⟨_, rfl⟩
  have hWb : Below w.heap.size w W := by rw [hW]; go_grown
  have bx0 : BoxAt W (w.heap.size) #[(.slice ao0 d0.weights.length cap0), (.slice ao0' d0.proxies.length cap0')] := by rw [hW]; exact BoxAt.new_at _ _ _ _ (by simp)
  have HW := Lib.hid hW; clear hW
  have i0 := h0.below hWb
  have i1 := h1.below hWb
  have hg := Below.refl W.heap.size W
  have cb0 := (bx0.below hg).cells
  go_enter Try.func5, Try.ntmps5
  go_wp2_with fail
  rw [← HW.out]
  refine (szVoters_c _ _ d0 _ _ (i0.below hg) (by omega) (by omega)).mono ?_
  rintro e w1 ⟨r0, rfl, hr0, hbw1⟩
  replace hg := below_step hg hbw1
  replace cb0 := (bx0.below hg).cells
  rcases hr0 with hr0 | ⟨hr0, hs0, hn0⟩
  case inl => (go_wp2_with fail); go_ret; exact ⟨rfl, hWb.trans (hg.mono (by have := hWb.size; omega))⟩
  go_wp2_with fail
  refine (toVoters_c _ _ d0 _ (i0.below hg) hn0).mono ?_
  rintro e w2 ⟨pos0, qos0, rfl, os0, hbw2⟩
  replace hg := below_step hg hbw2
  replace cb0 := (bx0.below hg).cells
  obtain ⟨aos0, kos0, aos0', kos0', rfl, rfl⟩ := os0.at_.form
  have gos0 := Below.refl w2.heap.size w2
  go_wp2_with fail
  refine (toIntS_c _ d1 _ (i1.below hg) hn1).mono ?_
  rintro e w3 ⟨uos1, rfl, os1, hbw3⟩
  replace hg := below_step hg hbw3
  replace gos0 := below_step gos0 hbw3
  replace cb0 := (bx0.below hg).cells
  obtain ⟨aos1, kos1, rfl⟩ := os1.at_.form
  have gos1 := Below.refl w3.heap.size w3
  go_wp2_with fail
  refine (s_WeightPresent _ _ d0 _ d1 _ (os0.at_.below gos0) (os1.at_.below gos1) hn0 hn1).mono ?_
  rintro e w4 ⟨rfl, hbw4⟩
  replace hg := below_step hg hbw4
  replace gos0 := below_step gos0 hbw4
  replace gos1 := below_step gos1 hbw4
  replace cb0 := (bx0.below hg).cells
  go_wp2_with fail
  refine (toVoters_c _ _ d0 _ (i0.below hg) hn0).mono ?_
  rintro e w5 ⟨px0, qx0, rfl, x0, hbw5⟩
  replace hg := below_step hg hbw5
  replace cb0 := (bx0.below hg).cells
  obtain ⟨ax0, kx0, ax0', kx0', rfl, rfl⟩ := x0.at_.form
  have gx0 := Below.refl w5.heap.size w5
  go_wp2_with fail
  generalize hV : World.alloc _ _ = w6
  have hbw6 : Below w5.heap.size w5 w6 := by rw [← hV]; exact (Below.refl _ _).alloc (Nat.le_refl _) _
  have bxx0 : BoxAt w6 w5.heap.size #[(.slice ax0 d0.weights.length kx0), (.slice ax0' d0.proxies.length kx0')] := by rw [← hV]; exact BoxAt.new _ _ _
  replace hg := below_step hg hbw6
  replace gx0 := below_step gx0 hbw6
  replace cb0 := (bx0.below hg).cells
  have gbx0 := Below.refl w6.heap.size w6
  have cbx0 := (bxx0.below gbx0).cells
  clear hV
  refine (toIntS_c _ d1 _ (i1.below hg) hn1).mono ?_
  rintro e w7 ⟨ux1, rfl, x1, hbw7⟩
  replace hg := below_step hg hbw7
  replace gx0 := below_step gx0 hbw7
  replace gbx0 := below_step gbx0 hbw7
  replace cb0 := (bx0.below hg).cells
  replace cbx0 := (bxx0.below gbx0).cells
  obtain ⟨ax1, kx1, rfl⟩ := x1.at_.form
  have gx1 := Below.refl w7.heap.size w7
  go_wp2_with fail
  refine (i_WeightPresent _ _ d0 _ d1 _ (x0.at_.below gx0) (x1.at_.below gx1) hn0 hn1).mono ?_
  rintro e w8 ⟨rfl, hbw8⟩
  replace hg := below_step hg hbw8
  replace gx0 := below_step gx0 hbw8
  replace gbx0 := below_step gbx0 hbw8
  replace gx1 := below_step gx1 hbw8
  replace cb0 := (bx0.below hg).cells
  replace cbx0 := (bxx0.below gbx0).cells
  go_wp2_with fail
  have ix0 := x0.at_.below gx0
  have iy0 := i0.below hg
  have rx0 := (bxx0.below gbx0).rule
  have ry0 := (bx0.below hg).rule
  have rr0 := Below.refl w8.heap.size w8
  go_region_held3 (fun w' => Below w8.heap.size w8 w') (first | assumption | (exact Below.drew (by assumption)))
    (first
      | (go_at_call 15; refine (toVoters_c _ _ d0 _ (iy0.below (by assumption)) hn0).mono ?_; rintro e w9 ⟨pe0, qe0, rfl, e0, hbw9⟩; obtain ⟨ae0, ke0, ae0', ke0', rfl, rfl⟩ := e0.at_.form; have hbn0 := below_step (W := w8) (by assumption) hbw9)
      | (go_at_call 17; refine (eqVoters_c _ _ _ _ d0 d0 _ (ix0.below (by assumption)) e0.at_).mono ?_; rintro e w10 ⟨rfl, hbzw10⟩; have hbw10 := below_step (W := w8) (by assumption) hbzw10))
  clear rx0 ry0 rr0
  replace hg := below_step hg hbw10
  replace gx0 := below_step gx0 hbw10
  replace gbx0 := below_step gbx0 hbw10
  replace gx1 := below_step gx1 hbw10
  replace cb0 := (bx0.below hg).cells
  replace cbx0 := (bxx0.below gbx0).cells
  go_wp2_with fail
  refine (toIntS_c _ d1 _ (i1.below hg) hn1).mono ?_
  rintro e w11 ⟨ue1, rfl, e1, hbw11⟩
  replace hg := below_step hg hbw11
  replace gx0 := below_step gx0 hbw11
  replace gbx0 := below_step gbx0 hbw11
  replace gx1 := below_step gx1 hbw11
  replace cb0 := (bx0.below hg).cells
  replace cbx0 := (bxx0.below gbx0).cells
  obtain ⟨ae1, ke1, rfl⟩ := e1.at_.form
  go_wp2_with fail
  refine (eqIntS_c _ _ d1 d1 _ (x1.at_.below gx1) e1.at_).mono ?_
  rintro e w12 ⟨rfl, hbw12⟩
  replace hg := below_step hg hbw12
  replace gx0 := below_step gx0 hbw12
  replace gbx0 := below_step gbx0 hbw12
  replace gx1 := below_step gx1 hbw12
  replace cb0 := (bx0.below hg).cells
  replace cbx0 := (bxx0.below gbx0).cells
  go_wp2_with fail
  go_ret
  exact ⟨rfl, hWb.trans (hg.mono (by have := hWb.size; omega))⟩
end Go.Proofs.Ythpdgknahdeppaa
