/- The walk of FnExactSessionText out of its callees' contracts: it returns true, and what was there stays. Condition: the library's table reads as it is laid. -/
import Derived.Test.YtjijcjcfefkpbaaDoorSessT
namespace Go.Proofs.YtjijcjcfefkpbaaDoor
open Go.RowKit
set_option linter.unusedVariables false
set_option linter.unusedSimpArgs false

set_option maxRecDepth 100000 in
set_option maxHeartbeats 4000000 in
theorem law_SessionText (w : World) (en0 nu0 de0 : Int) (v0 : Value) (d0 : List Int) (re0 : Int) (h0 : IntsAt w v0 d0) (hT : TabAt w) :
    Calls Tryd.prog 3 #[vSess en0 nu0 de0 v0 re0] w fun e w' => e = .returned (.bool true) ∧ Below w.heap.size w w' := by
  obtain ⟨ao0, cap0, rfl⟩ := h0.form
  obtain ⟨W, hW⟩ : ∃ W, W = (w).alloc (.cells #[.int .i64 en0, .int .i64 nu0, .int .i64 de0, (.slice ao0 d0.length cap0), .int .i64 re0] 24) := ⟨_, rfl⟩
  have hWb : Below w.heap.size w W := by rw [hW]; go_grown
  have bx0 : BoxAt W (w.heap.size) #[.int .i64 en0, .int .i64 nu0, .int .i64 de0, (.slice ao0 d0.length cap0), .int .i64 re0] := by rw [hW]; exact BoxAt.new_at _ _ _ _ (by simp)
  have hTW := hT.below hWb
  obtain ⟨⟨tx, tk⟩, hV⟩ : ∃ V, V = textV en0 nu0 de0 d0 re0 := ⟨_, rfl⟩
  have HV := Lib.hid hV; clear hV
  have HW := Lib.hid hW; clear hW
  have i0 := h0.below hWb
  have hg := Below.refl W.heap.size W
  have cb0 := (bx0.below hg).cells
  go_enter Tryd.func3, Tryd.ntmps3
  go_wp2_with fail
  rw [← HW.out]
  refine (szSession_c _ _ _ _ d0 _ _ _ (i0.below hg) (by omega) (by omega)).mono ?_
  rintro e w1 ⟨r0, rfl, hr0, hbw1⟩
  replace hg := below_step hg hbw1
  replace cb0 := (bx0.below hg).cells
  rcases hr0 with hr0 | ⟨hr0, hs0, hn0⟩
  case inl => (go_wp2_with fail); go_ret; exact ⟨rfl, hWb.trans (hg.mono (by have := hWb.size; omega))⟩
  go_wp2_with fail
  refine (toSession_c _ _ _ _ d0 _ _ (i0.below hg) hn0).mono ?_
  rintro e w2 ⟨uos0, rfl, os0, hbw2⟩
  replace hg := below_step hg hbw2
  replace cb0 := (bx0.below hg).cells
  obtain ⟨aos0, kos0, rfl⟩ := os0.at_.form
  have gos0 := Below.refl w2.heap.size w2
  go_wp2_with fail
  refine (s_SessionText _ _ _ _ d0 _ _ (os0.at_.below gos0)).mono ?_
  rw [← HV.out]
  dsimp only
  rintro e w3 ⟨rfl, hbw3⟩
  replace hg := below_step hg hbw3
  replace gos0 := below_step gos0 hbw3
  replace cb0 := (bx0.below hg).cells
  go_wp2_with fail
  refine (toSession_c _ _ _ _ d0 _ _ (i0.below hg) hn0).mono ?_
  rintro e w4 ⟨ux0, rfl, x0, hbw4⟩
  replace hg := below_step hg hbw4
  replace cb0 := (bx0.below hg).cells
  obtain ⟨ax0, kx0, rfl⟩ := x0.at_.form
  have gx0 := Below.refl w4.heap.size w4
  go_wp2_with (
    with_reducible change Go.wpList _ _ _ (Oper.mk _ (Op.load _ _) _ _ _ _ :: _) _ (World.alloc _ _)
    generalize hV : World.alloc _ _ = w5
    have hbw5 : Below w4.heap.size w4 w5 := by rw [← hV]; exact (Below.refl _ _).alloc (Nat.le_refl _) _
    have bxx0 : BoxAt w5 w4.heap.size #[.int .i64 en0, .int .i64 nu0, .int .i64 de0, (.slice ax0 d0.length kx0), .int .i64 re0] := by rw [← hV]; exact BoxAt.new _ _ _
    replace hg := below_step hg hbw5
    replace gx0 := below_step gx0 hbw5
    replace cb0 := (bx0.below hg).cells
    have gbx0 := Below.refl w5.heap.size w5
    have cbx0 := (bxx0.below gbx0).cells
    clear hV)
  go_wp2_with fail
  refine (i_SessionText _ _ _ _ d0 _ _ (x0.at_.below gx0) (hTW.below hg)).mono ?_
  rw [← HV.out]
  dsimp only
  rintro e w6 ⟨rfl, hbw6⟩
  replace hg := below_step hg hbw6
  replace gx0 := below_step gx0 hbw6
  replace gbx0 := below_step gbx0 hbw6
  replace cb0 := (bx0.below hg).cells
  replace cbx0 := (bxx0.below gbx0).cells
  go_wp2_with fail
  have ix0 := x0.at_.below gx0
  have iy0 := i0.below hg
  have rx0 := (bxx0.below gbx0).rule
  have ry0 := (bx0.below hg).rule
  have rr0 := Below.refl w6.heap.size w6
  go_region_held3 (fun w' => Below w6.heap.size w6 w') (first | assumption | (exact Below.drew (by assumption)))
    (first
      | (go_at_call 7; refine (toSession_c _ _ _ _ d0 _ _ (iy0.below (by assumption)) hn0).mono ?_; rintro e w7 ⟨ue0, rfl, e0, hbw7⟩; obtain ⟨ae0, ke0, rfl⟩ := e0.at_.form; have hbn0 := below_step (W := w6) (by assumption) hbw7)
      | (go_at_call 9; refine (eqSession_c _ _ _ _ d0 _ _ _ _ _ d0 _ _ (ix0.below (by assumption)) e0.at_).mono ?_; rintro e w8 ⟨rfl, hbzw8⟩; have hbw8 := below_step (W := w6) (by assumption) hbzw8))
  clear rx0 ry0 rr0
  replace hg := below_step hg hbw8
  replace gx0 := below_step gx0 hbw8
  replace gbx0 := below_step gbx0 hbw8
  replace cb0 := (bx0.below hg).cells
  replace cbx0 := (bxx0.below gbx0).cells
  go_wp2_with fail
  go_ret
  exact ⟨rfl, hWb.trans (hg.mono (by have := hWb.size; omega))⟩
end Go.Proofs.YtjijcjcfefkpbaaDoor
