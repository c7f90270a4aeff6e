import Derived.Test.YtcfajbocgclccaaSess
namespace Go.Proofs.Ytcfajbocgclccaa
open Go.RowKit
set_option linter.unusedVariables false
set_option linter.unusedSimpArgs false

theorem law_IsValidSession (en nu de : Int) (v : Value) (pr : List Int) (re : Int) (w : World) (h : IntsAt w v pr) :
    Calls Try.prog 5 #[vSess en nu de v re] w fun e w' => e = .returned (.bool true) ∧ Below w.heap.size w w' := by
  obtain ⟨ao, cap, rfl⟩ := h.form
  by_cases hbig : szSub 1048576 pr.length = -1
  · have HB := Lib.hid hbig; clear hbig
    go_enter Try.func5, Try.ntmps5
    go_wp2_with fail
    refine (szSession_c _ _ _ _ pr _ _ _ (h.alloc _) (by omega) (by omega)).mono ?_
    rw [HB.out]
    rintro e w1 ⟨rfl, hb1⟩
    go_wp2_with fail
    go_ret
    exact ⟨rfl, below_al hb1 (by simp)⟩
  · have hn : pr.length ≤ 1048576 := by unfold szSub at hbig; split at hbig <;> omega
    have hs : szSub 1048576 pr.length = 1048576 - (pr.length : Int) := by unfold szSub; rw [if_neg (by omega)]
    clear hbig
    have HS := Lib.hid hs; clear hs
    obtain ⟨W, hW⟩ : ∃ W, W = w.alloc (.cells #[.int .i64 en, .int .i64 nu, .int .i64 de, .slice ao pr.length cap, .int .i64 re] 34) := ⟨_, rfl⟩
    have hz : w.heap.size < W.heap.size := by rw [hW]; simp
    have hWb : Below w.heap.size w W := by rw [hW]; exact (Below.refl _ _).alloc (Nat.le_refl _) _
    have hIW : IntsAt W (.slice ao pr.length cap) pr := h.below hWb
    have c0 := below_cell (W := W) (b := w.heap.size) (o := 0) (v := .int .i64 en) hz (by rw [hW]; simp)
    have c1 := below_cell (W := W) (b := w.heap.size) (o := 1) (v := .int .i64 nu) hz (by rw [hW]; simp)
    have c2 := below_cell (W := W) (b := w.heap.size) (o := 2) (v := .int .i64 de) hz (by rw [hW]; simp)
    have c3 := below_cell (W := W) (b := w.heap.size) (o := 3) (v := .slice ao pr.length cap) hz (by rw [hW]; simp)
    have c4 := below_cell (W := W) (b := w.heap.size) (o := 4) (v := .int .i64 re) hz (by rw [hW]; simp)
    have HW := Lib.hid hW; clear hW
    go_enter Try.func5, Try.ntmps5
    go_wp2_with fail
    rw [← HW.out]
    refine (szSession_c _ _ _ _ pr _ _ _ hIW (by omega) (by omega)).mono ?_
    rw [HS.out]
    rintro e w1 ⟨rfl, hb1⟩
    have g1 := below_step (Below.refl _ W) hb1
    go_wp2_with fail
    refine (toSession_c _ _ _ _ pr _ _ (hIW.below g1) hn).mono ?_
    rintro e w2 ⟨u2, rfl, ho2, hb2⟩
    have g2 := below_step g1 hb2
    obtain ⟨a2, k2, rfl⟩ := ho2.at_.form
    go_wp2_with fail
    refine (s_IsValidSession _ _ _ _ pr _ _ ho2.at_).mono ?_
    rintro e w3 ⟨rfl, hb3⟩
    have g3 := below_step g2 hb3
    go_wp2_with fail
    refine (toSession_c _ _ _ _ pr _ _ (hIW.below g3) hn).mono ?_
    rintro e w4 ⟨u4, rfl, ho4, hb4⟩
    have g4 := below_step g3 hb4
    obtain ⟨a4, k4, rfl⟩ := ho4.at_.form
    go_wp2_with fail
    generalize hV : World.alloc _ _ = V
    have hzV : w4.heap.size < V.heap.size := by rw [← hV]; simp
    have hVb : Below w4.heap.size w4 V := by rw [← hV]; exact (Below.refl _ _).alloc (Nat.le_refl _) _
    have gV := below_step g4 hVb
    have hoV := ho4.below hVb
    have d0 := below_cell (W := V) (b := w4.heap.size) (o := 0) (v := .int .i64 en) hzV (by rw [← hV]; simp)
    have d1 := below_cell (W := V) (b := w4.heap.size) (o := 1) (v := .int .i64 nu) hzV (by rw [← hV]; simp)
    have d2 := below_cell (W := V) (b := w4.heap.size) (o := 2) (v := .int .i64 de) hzV (by rw [← hV]; simp)
    have d3 := below_cell (W := V) (b := w4.heap.size) (o := 3) (v := .slice a4 pr.length k4) hzV (by rw [← hV]; simp)
    have d4 := below_cell (W := V) (b := w4.heap.size) (o := 4) (v := .int .i64 re) hzV (by rw [← hV]; simp)
    have hzW : w.heap.size < V.heap.size := Nat.lt_of_lt_of_le hz gV.size
    have e0 := below_cell (W := V) hzW (c0 V gV)
    have e1 := below_cell (W := V) hzW (c1 V gV)
    have e2 := below_cell (W := V) hzW (c2 V gV)
    have e3 := below_cell (W := V) hzW (c3 V gV)
    have e4 := below_cell (W := V) hzW (c4 V gV)
    clear hV c0 c1 c2 c3 c4
    have hIV := hIW.below gV
    refine (i_IsValidSession _ _ _ _ pr _ _ hoV.at_).mono ?_
    rintro e w5 ⟨rfl, hb5⟩
    go_wp2_with fail
    go_region_held3 (fun w' => Below V.heap.size V w') (first | assumption | (exact Below.drew (by assumption)))
      (first
        | (go_at_call 19; refine (toSession_c _ _ _ _ pr _ _ (hIV.below (by assumption)) hn).mono ?_; rintro e w6 ⟨u6, rfl, ho6, hb6⟩; obtain ⟨a6, k6, rfl⟩ := ho6.at_.form; have hbn := below_step (W := V) (by assumption) hb6)
        | (go_at_call 21; refine (eqSession_c _ _ _ _ pr _ _ _ _ _ pr _ _ (hoV.at_.below (by assumption)) ho6.at_).mono ?_; rintro e w7 ⟨rfl, hb7⟩; have hbm := below_step (W := V) (by assumption) hb7))
    go_wp2_with fail
    go_ret
    exact ⟨rfl, hWb.trans ((gV.trans (hbm.mono gV.size)).mono (by omega))⟩
end Go.Proofs.Ytcfajbocgclccaa
