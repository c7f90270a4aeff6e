/- The walk of FnExactKeepsQuota out of its callees' contracts: it returns true, and what was there stays. No conditions. -/
import Derived.Test.YtcfajbocgclccaaQuota
namespace Go.Proofs.Ytcfajbocgclccaa
open Go.RowKit
set_option linter.unusedVariables false
set_option linter.unusedSimpArgs false

theorem law_KeepsQuota (w : World) (v0 : Value) (d0 : List Int) (h0 : IntsAt w v0 d0) (v1 : Value) (d1 : List Int) (h1 : IntsAt w v1 d1) :
    Calls Try.prog 6 #[v0, v1] w fun e w' => e = .returned (.bool true) ∧ Below w.heap.size w w' := by
  obtain ⟨ao0, cap0, rfl⟩ := h0.form
  obtain ⟨ao1, cap1, rfl⟩ := h1.form
  by_cases hn0 : d0.length ≤ 1048576
  case neg =>
    go_enter Try.func6, Try.ntmps6
    go_wp2_with fail
    go_ret
    exact ⟨rfl, by go_grown⟩
  by_cases hn1 : d1.length ≤ 1048576
  case neg =>
    go_enter Try.func6, Try.ntmps6
    go_wp2_with fail
    go_ret
    exact ⟨rfl, by go_grown⟩
  obtain ⟨W, hW⟩ : ∃ W, W = w := ⟨_, rfl⟩
  have hWb : Below w.heap.size w W := by rw [hW]; exact Below.refl _ _
  have HW := Lib.hid hW; clear hW
  have i0 := h0.below hWb
  have i1 := h1.below hWb
  have hg := Below.refl W.heap.size W
  go_enter Try.func6, Try.ntmps6
  go_wp2_with fail
  rw [← HW.out]
  refine (toIntS_c _ d0 _ (i0.below hg) hn0).mono ?_
  rintro e w1 ⟨uos0, rfl, os0, hb1⟩
  replace hg := below_step hg hb1
  obtain ⟨aos0, kos0, rfl⟩ := os0.at_.form
  have gos0 := Below.refl w1.heap.size w1
  go_wp2_with fail
  refine (toIntS_c _ d1 _ (i1.below hg) hn1).mono ?_
  rintro e w2 ⟨uos1, rfl, os1, hb2⟩
  replace hg := below_step hg hb2
  replace gos0 := below_step gos0 hb2
  obtain ⟨aos1, kos1, rfl⟩ := os1.at_.form
  have gos1 := Below.refl w2.heap.size w2
  go_wp2_with fail
  refine (s_KeepsQuota _ d0 _ d1 _ (os0.at_.below gos0) (os1.at_.below gos1) ).mono ?_
  rintro e w3 ⟨rfl, hb3⟩
  replace hg := below_step hg hb3
  replace gos0 := below_step gos0 hb3
  replace gos1 := below_step gos1 hb3
  go_wp2_with fail
  refine (toIntS_c _ d0 _ (i0.below hg) hn0).mono ?_
  rintro e w4 ⟨ux0, rfl, x0, hb4⟩
  replace hg := below_step hg hb4
  replace gos0 := below_step gos0 hb4
  replace gos1 := below_step gos1 hb4
  obtain ⟨ax0, kx0, rfl⟩ := x0.at_.form
  have gx0 := Below.refl w4.heap.size w4
  go_wp2_with fail
  refine (toIntS_c _ d1 _ (i1.below hg) hn1).mono ?_
  rintro e w5 ⟨ux1, rfl, x1, hb5⟩
  replace hg := below_step hg hb5
  replace gos0 := below_step gos0 hb5
  replace gos1 := below_step gos1 hb5
  replace gx0 := below_step gx0 hb5
  obtain ⟨ax1, kx1, rfl⟩ := x1.at_.form
  have gx1 := Below.refl w5.heap.size w5
  go_wp2_with fail
  refine (i_KeepsQuota _ d0 _ d1 _ (x0.at_.below gx0) (x1.at_.below gx1) ).mono ?_
  rintro e w6 ⟨rfl, hb6⟩
  replace hg := below_step hg hb6
  replace gos0 := below_step gos0 hb6
  replace gos1 := below_step gos1 hb6
  replace gx0 := below_step gx0 hb6
  replace gx1 := below_step gx1 hb6
  go_wp2_with fail
  refine (toIntS_c _ d0 _ (i0.below hg) hn0).mono ?_
  rintro e w7 ⟨ue0, rfl, e0, hb7⟩
  replace hg := below_step hg hb7
  replace gos0 := below_step gos0 hb7
  replace gos1 := below_step gos1 hb7
  replace gx0 := below_step gx0 hb7
  replace gx1 := below_step gx1 hb7
  obtain ⟨ae0, ke0, rfl⟩ := e0.at_.form
  go_wp2_with fail
  refine (eqIntS_c _ _ d0 d0 _ (x0.at_.below gx0) e0.at_).mono ?_
  rintro e w8 ⟨rfl, hb8⟩
  replace hg := below_step hg hb8
  replace gos0 := below_step gos0 hb8
  replace gos1 := below_step gos1 hb8
  replace gx0 := below_step gx0 hb8
  replace gx1 := below_step gx1 hb8
  go_wp2_with fail
  refine (toIntS_c _ d1 _ (i1.below hg) hn1).mono ?_
  rintro e w9 ⟨ue1, rfl, e1, hb9⟩
  replace hg := below_step hg hb9
  replace gos0 := below_step gos0 hb9
  replace gos1 := below_step gos1 hb9
  replace gx0 := below_step gx0 hb9
  replace gx1 := below_step gx1 hb9
  obtain ⟨ae1, ke1, rfl⟩ := e1.at_.form
  go_wp2_with fail
  refine (eqIntS_c _ _ d1 d1 _ (x1.at_.below gx1) e1.at_).mono ?_
  rintro e w10 ⟨rfl, hb10⟩
  replace hg := below_step hg hb10
  replace gos0 := below_step gos0 hb10
  replace gos1 := below_step gos1 hb10
  replace gx0 := below_step gx0 hb10
  replace gx1 := below_step gx1 hb10
  go_wp2_with fail
  go_ret
  exact ⟨rfl, hWb.trans (hg.mono (by have := hWb.size; omega))⟩
end Go.Proofs.Ytcfajbocgclccaa
