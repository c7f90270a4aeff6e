/- Contracts on sessions: BeginRecess, the reference's and the program's. No conditions beyond sizes. -/
import Derived.Test.YtflkijklipkneaaSessR
namespace Go.Proofs.Ytflkijklipkneaa
open Go.RowKit
set_option linter.unusedVariables false
set_option linter.unusedSimpArgs false

set_option maxHeartbeats 4000000 in
theorem s_BeginRecess (en nu de : Int) (v : Value) (pr : List Int) (re x : Int) (w : World) (h : IntsAt w v pr) (hn : pr.length ≤ 1048576) :
    Calls Try.prog 35 #[vSess en nu de v re, .int .i64 x] w fun e w' => ∃ u, e = .returned (vSessOk (beginRecess ⟨en, nu, de, pr, re⟩ x) u) ∧ OwnInts w' w.heap.size u (beginRecess ⟨en, nu, de, pr, re⟩ x).1.pr ∧ Below w.heap.size w w' := by
  obtain ⟨ao, cap, rfl⟩ := h.form
  obtain ⟨W, hW⟩ : ∃ W, W = (w.alloc (.cells #[.int .i64 en, .int .i64 nu, .int .i64 de, .slice ao pr.length cap, .int .i64 re] 29)).alloc (.cells #[.int .i64 0, .int .i64 0, .int .i64 0, .slice none 0 0, .int .i64 0] 29) := ⟨_, rfl⟩
  have bP : BoxAt W w.heap.size #[.int .i64 en, .int .i64 nu, .int .i64 de, .slice ao pr.length cap, .int .i64 re] := by rw [hW]; exact (BoxAt.new _ _ _).alloc _
  have bR : BoxAt W (w.heap.size + 1) #[.int .i64 0, .int .i64 0, .int .i64 0, .slice none 0 0, .int .i64 0] := by rw [hW]; exact BoxAt.new_at _ _ _ _ (by simp)
  have hWb : Below w.heap.size w W := by rw [hW]; go_grown
  have hI : IntsAt W (.slice ao pr.length cap) pr := h.below hWb
  have HW := Lib.hid hW; clear hW
  cases hok : sessOk en nu de pr re && (re == 0) && inB x 1 1439 with
  | false =>
    have HR : Hid (beginRecess ⟨en, nu, de, pr, re⟩ x = (zeroSess, false)) := by simp [Hid, beginRecess, hok]
    have HO := Lib.hid hok; clear hok
    rw [HR.out]
    go_enter Try.func35, Try.ntmps35
    go_wp2_with fail
    rw [← HW.out]
    refine (s_l16Good _ _ _ _ pr _ _ hI).mono ?_
    rintro e w1 ⟨rfl, hb1⟩
    have B1 := bR.below hb1; have P1 := bP.below hb1
    have p1 := P1.cells; have n1 := B1.cells; have f1 := B1.free
    have hI1 := hI.below hb1
    have hB1 : w.heap.size + 1 < w1.heap.size := B1.1
    cases hs : sessOk en nu de pr re with
    | false =>
      go_wp2_with fail
      refine bodyPost_ret (v := vSessOk (zeroSess, false) (.slice none 0 0)) (by simp [results, Try.results35, go_sem, n1, zeroSess]) rfl ⟨.slice none 0 0, rfl, own_zero _ _, ?_⟩
      exact fin_below2 (lo := w.heap.size + 1) (hi := w.heap.size + 2) (hWb.trans (hb1.mono hWb.size)) (by repeat (first | with_reducible exact OutOf.refl _ _ _ | with_reducible refine OutOf.alloc ?_ _ | with_reducible refine OutOf.setIn ?_ ?_ ?_ _ | (simp; done) | omega)) (Nat.le_succ _)
    | true =>
      cases hr : (re == 0) with
      | false =>
        have hr' : (re != 0) = true := by simpa [bne] using hr
        clear hr
        go_wp2_with fail
        refine bodyPost_ret (v := vSessOk (zeroSess, false) (.slice none 0 0)) (by simp [results, Try.results35, go_sem, n1, zeroSess]) rfl ⟨.slice none 0 0, rfl, own_zero _ _, ?_⟩
        exact fin_below2 (lo := w.heap.size + 1) (hi := w.heap.size + 2) (hWb.trans (hb1.mono hWb.size)) (by repeat (first | with_reducible exact OutOf.refl _ _ _ | with_reducible refine OutOf.alloc ?_ _ | with_reducible refine OutOf.setIn ?_ ?_ ?_ _ | (simp; done) | omega)) (Nat.le_succ _)
      | true =>
        have hr' : (re != 0) = false := by simpa [bne] using hr
        have hx : inB x 1 1439 = false := by have := HO.out; simpa [hs, hr] using this
        clear hr
        have HX := Lib.hid hx; clear hx
        go_wp2_with (go_at_call 51; refine (s_l1In _ _ _ _).mono ?_; rw [HX.out]; rintro e w' ⟨rfl, rfl⟩)
        refine bodyPost_ret (v := vSessOk (zeroSess, false) (.slice none 0 0)) (by simp [results, Try.results35, go_sem, n1, zeroSess]) rfl ⟨.slice none 0 0, rfl, own_zero _ _, ?_⟩
        exact fin_below2 (lo := w.heap.size + 1) (hi := w.heap.size + 2) (hWb.trans (hb1.mono hWb.size)) (by repeat (first | with_reducible exact OutOf.refl _ _ _ | with_reducible refine OutOf.alloc ?_ _ | with_reducible refine OutOf.setIn ?_ ?_ ?_ _ | (simp; done) | omega)) (Nat.le_succ _)
  | true =>
    have HR : Hid (beginRecess ⟨en, nu, de, pr, re⟩ x = (⟨en, nu, de, pr, x⟩, true)) := by simp [Hid, beginRecess, hok]
    simp only [Bool.and_eq_true, beq_iff_eq] at hok
    obtain ⟨⟨h1, rfl⟩, h3⟩ := hok
    have HO := Lib.hid h1; clear h1
    have HX := Lib.hid h3; clear h3
    rw [HR.out]
    go_enter Try.func35, Try.ntmps35
    go_wp2_with fail
    rw [← HW.out]
    refine (s_l16Good _ _ _ _ pr _ _ hI).mono ?_
    rw [HO.out]
    rintro e w1 ⟨rfl, hb1⟩
    have B1 := bR.below hb1; have P1 := bP.below hb1
    have p1 := P1.cells; have n1 := B1.cells; have f1 := B1.free
    have hI1 := hI.below hb1
    have hB1 : w.heap.size + 1 < w1.heap.size := B1.1
    go_wp2_with (go_at_call 51; refine (s_l1In _ _ _ _).mono ?_; rw [HX.out]; rintro e w' ⟨rfl, rfl⟩)
    go_region_with (first
      | (go_at_call 62; refine (s_l1Own _ pr _ ?_ (by omega)).mono ?_; exact hI1; rintro e w2 ⟨u, rfl, ho2, hb2⟩; obtain ⟨a2, k2, rfl⟩ := ho2.at_.form; have B2 := BoxAt.below (by exact B1) hb2; have P2 := BoxAt.below (by exact P1) hb2; have p2 := P2.cells; have g2 := undrew hb2)
      | (go_at_call 53; refine (s_l16With _ _ _ _ _ _ _ _ _ _ ⟨_, _, _, rfl⟩).mono ?_; rintro e w3 ⟨rfl, hb3⟩; have B3 := B2.below hb3; have n3 := B3.cells; have f3 := B3.free))
    all_goals go_wp2_with fail
    all_goals refine bodyPost_ret (v := vSessOk (⟨en, nu, de, pr, x⟩, true) (.slice a2 pr.length k2)) (by simp [results, Try.results35, go_sem, n3]) rfl ⟨_, rfl, ?_, ?_⟩
    all_goals first
      | exact own_base (fin_own2 (lo := w.heap.size + 1) (b := w.heap.size + 1) ho2 hb3 (by repeat (first | with_reducible exact OutOf.refl _ _ _ | with_reducible refine OutOf.alloc ?_ _ | with_reducible refine OutOf.setIn ?_ ?_ ?_ _ | (simp; done) | omega)) hB1) (by show w.heap.size ≤ w1.heap.size; omega)
      | exact fin_below2 (lo := w.heap.size + 1) (hi := w.heap.size + 2) (hWb.trans ((below_step hb1 (below_step g2 hb3)).mono hWb.size)) (by repeat (first | with_reducible exact OutOf.refl _ _ _ | with_reducible refine OutOf.alloc ?_ _ | with_reducible refine OutOf.setIn ?_ ?_ ?_ _ | (simp; done) | omega)) (Nat.le_succ _)

set_option maxHeartbeats 4000000 in
theorem i_BeginRecess (en nu de : Int) (v : Value) (pr : List Int) (re x : Int) (w : World) (h : IntsAt w v pr) (hn : pr.length ≤ 1048576) :
    Calls Try.prog 34 #[vSess en nu de v re, .int .i64 x] w fun e w' => ∃ u, e = .returned (vSessOk (beginRecess ⟨en, nu, de, pr, re⟩ x) u) ∧ OwnInts w' w.heap.size u (beginRecess ⟨en, nu, de, pr, re⟩ x).1.pr ∧ Below w.heap.size w w' := by
  obtain ⟨ao, cap, rfl⟩ := h.form
  obtain ⟨W, hW⟩ : ∃ W, W = (w.alloc (.cells #[.int .i64 en, .int .i64 nu, .int .i64 de, .slice ao pr.length cap, .int .i64 re] 29)).alloc (.cells #[.int .i64 0, .int .i64 0, .int .i64 0, .slice none 0 0, .int .i64 0] 29) := ⟨_, rfl⟩
  have bP : BoxAt W w.heap.size #[.int .i64 en, .int .i64 nu, .int .i64 de, .slice ao pr.length cap, .int .i64 re] := by rw [hW]; exact (BoxAt.new _ _ _).alloc _
  have bR : BoxAt W (w.heap.size + 1) #[.int .i64 0, .int .i64 0, .int .i64 0, .slice none 0 0, .int .i64 0] := by rw [hW]; exact BoxAt.new_at _ _ _ _ (by simp)
  have hWb : Below w.heap.size w W := by rw [hW]; go_grown
  have hI : IntsAt W (.slice ao pr.length cap) pr := h.below hWb
  have HW := Lib.hid hW; clear hW
  cases hok : sessOk en nu de pr re && (re == 0) && inB x 1 1439 with
  | false =>
    have HR : Hid (beginRecess ⟨en, nu, de, pr, re⟩ x = (zeroSess, false)) := by simp [Hid, beginRecess, hok]
    have HO := Lib.hid hok; clear hok
    rw [HR.out]
    go_enter Try.func34, Try.ntmps34
    go_wp2_with fail
    rw [← HW.out]
    refine (i_IsValidSession _ _ _ _ pr _ _ hI).mono ?_
    rintro e w1 ⟨rfl, hb1⟩
    have B1 := bR.below hb1; have P1 := bP.below hb1
    have p1 := P1.cells; have n1 := B1.cells; have f1 := B1.free
    have hI1 := hI.below hb1
    have hB1 : w.heap.size + 1 < w1.heap.size := B1.1
    cases hs : sessOk en nu de pr re with
    | false =>
      go_wp2_with fail
      refine bodyPost_ret (v := vSessOk (zeroSess, false) (.slice none 0 0)) (by simp [results, Try.results34, go_sem, n1, zeroSess]) rfl ⟨.slice none 0 0, rfl, own_zero _ _, ?_⟩
      exact fin_below2 (lo := w.heap.size + 1) (hi := w.heap.size + 2) (hWb.trans (hb1.mono hWb.size)) (by repeat (first | with_reducible exact OutOf.refl _ _ _ | with_reducible refine OutOf.alloc ?_ _ | with_reducible refine OutOf.setIn ?_ ?_ ?_ _ | (simp; done) | omega)) (Nat.le_succ _)
    | true =>
      cases hr : (re == 0) with
      | false =>
        have hr' : (re != 0) = true := by simpa [bne] using hr
        clear hr
        go_wp2_with fail
        refine bodyPost_ret (v := vSessOk (zeroSess, false) (.slice none 0 0)) (by simp [results, Try.results34, go_sem, n1, zeroSess]) rfl ⟨.slice none 0 0, rfl, own_zero _ _, ?_⟩
        exact fin_below2 (lo := w.heap.size + 1) (hi := w.heap.size + 2) (hWb.trans (hb1.mono hWb.size)) (by repeat (first | with_reducible exact OutOf.refl _ _ _ | with_reducible refine OutOf.alloc ?_ _ | with_reducible refine OutOf.setIn ?_ ?_ ?_ _ | (simp; done) | omega)) (Nat.le_succ _)
      | true =>
        have hr' : (re != 0) = false := by simpa [bne] using hr
        have hx : inB x 1 1439 = false := by have := HO.out; simpa [hs, hr] using this
        clear hr
        have HX := Lib.hid hx; clear hx
        go_wp2_with (go_at_call 47; refine (i_inside _ _ _ _).mono ?_; rw [HX.out]; rintro e w' ⟨rfl, rfl⟩)
        refine bodyPost_ret (v := vSessOk (zeroSess, false) (.slice none 0 0)) (by simp [results, Try.results34, go_sem, n1, zeroSess]) rfl ⟨.slice none 0 0, rfl, own_zero _ _, ?_⟩
        exact fin_below2 (lo := w.heap.size + 1) (hi := w.heap.size + 2) (hWb.trans (hb1.mono hWb.size)) (by repeat (first | with_reducible exact OutOf.refl _ _ _ | with_reducible refine OutOf.alloc ?_ _ | with_reducible refine OutOf.setIn ?_ ?_ ?_ _ | (simp; done) | omega)) (Nat.le_succ _)
  | true =>
    have HR : Hid (beginRecess ⟨en, nu, de, pr, re⟩ x = (⟨en, nu, de, pr, x⟩, true)) := by simp [Hid, beginRecess, hok]
    simp only [Bool.and_eq_true, beq_iff_eq] at hok
    obtain ⟨⟨h1, rfl⟩, h3⟩ := hok
    have HO := Lib.hid h1; clear h1
    have HX := Lib.hid h3; clear h3
    rw [HR.out]
    go_enter Try.func34, Try.ntmps34
    go_wp2_with fail
    rw [← HW.out]
    refine (i_IsValidSession _ _ _ _ pr _ _ hI).mono ?_
    rw [HO.out]
    rintro e w1 ⟨rfl, hb1⟩
    have B1 := bR.below hb1; have P1 := bP.below hb1
    have p1 := P1.cells; have n1 := B1.cells; have f1 := B1.free
    have hI1 := hI.below hb1
    have hB1 : w.heap.size + 1 < w1.heap.size := B1.1
    go_wp2_with (first | (go_at_call 47; refine (i_inside _ _ _ _).mono ?_; rw [HX.out]; rintro e w' ⟨rfl, rfl⟩) | (go_at_call 49; refine (i_newSession _ _ _ _ pr _ _ hI1 hn).mono ?_; rintro e w2 ⟨u, rfl, ho2, hb2⟩; obtain ⟨a2, k2, rfl⟩ := ho2.at_.form; have B2 := B1.below hb2; have n2 := B2.cells; have f2 := B2.free; have z2 := B2.1))
    refine bodyPost_ret (v := vSessOk (⟨en, nu, de, pr, x⟩, true) (.slice a2 pr.length k2)) (by simp [results, Try.results34, go_sem, n2, z2]) rfl ⟨_, rfl, ?_, ?_⟩
    · exact own_base (fin_own2 (lo := w.heap.size + 1) (b := w.heap.size + 1) ho2 (Below.refl _ _) (by repeat (first | with_reducible exact OutOf.refl _ _ _ | with_reducible refine OutOf.alloc ?_ _ | with_reducible refine OutOf.setIn ?_ ?_ ?_ _ | (simp; done) | omega)) hB1) (by omega)
    · exact fin_below2 (lo := w.heap.size + 1) (hi := w.heap.size + 2) (hWb.trans ((below_step hb1 hb2).mono hWb.size)) (by repeat (first | with_reducible exact OutOf.refl _ _ _ | with_reducible refine OutOf.alloc ?_ _ | with_reducible refine OutOf.setIn ?_ ?_ ?_ _ | (simp; done) | omega)) (Nat.le_succ _)

end Go.Proofs.Ytflkijklipkneaa
