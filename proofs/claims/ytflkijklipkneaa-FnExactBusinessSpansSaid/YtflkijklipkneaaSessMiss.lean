/- Contracts on sessions: the members that are missing for a quorum. No conditions. -/
import Derived.Test.YtflkijklipkneaaSess
namespace Go.Proofs.Ytflkijklipkneaa
open Go.RowKit
set_option linter.unusedVariables false
set_option linter.unusedSimpArgs false

/-- What MissingMembers returns. -/
def missV (en nu de : Int) (pr : List Int) (re : Int) : Int := if sessOk en nu de pr re then max 0 (leastQ en nu de - pr.length) else 0

theorem s_l1Most (a b : Int) (w : World) :
    Calls Try.prog 60 #[.int .i64 a, .int .i64 b] w fun e w' => e = .returned (.int .i64 (max a b)) ∧ w = w' := by
  by_cases h : b < a
  · go_enter Try.func60, Try.ntmps60
    go_wp2
    go_ret
    exact ⟨ret_int (by omega), rfl⟩
  · go_enter Try.func60, Try.ntmps60
    go_wp2
    go_ret
    exact ⟨ret_int (by omega), rfl⟩

set_option maxHeartbeats 1000000 in
theorem s_MissingMembers (en nu de : Int) (v : Value) (pr : List Int) (re : Int) (w : World) (h : IntsAt w v pr) :
    Calls Try.prog 30 #[vSess en nu de v re] w fun e w' => e = .returned (.tuple #[.int .i64 (missV en nu de pr re), .bool (sessOk en nu de pr re)]) ∧ Below w.heap.size w w' := by
  have hlen : pr.length ≤ 9223372036854775807 := by obtain ⟨_, _, _, _, h1, h2, _⟩ := h; unfold maxLen at h2; omega
  obtain ⟨ao, cap, rfl⟩ := h.form
  obtain ⟨W, hW⟩ : ∃ W, W = w.alloc (.cells #[.int .i64 en, .int .i64 nu, .int .i64 de, .slice ao pr.length cap, .int .i64 re] 29) := ⟨_, rfl⟩
  have bP : BoxAt W w.heap.size #[.int .i64 en, .int .i64 nu, .int .i64 de, .slice ao pr.length cap, .int .i64 re] := by rw [hW]; exact BoxAt.new _ _ _
  have hWb : Below w.heap.size w W := by rw [hW]; go_grown
  have hI : IntsAt W (.slice ao pr.length cap) pr := h.below hWb
  have HW := Lib.hid hW; clear hW
  cases hok : sessOk en nu de pr re with
  | false =>
    have HM : Hid (missV en nu de pr re = 0) := by simp [Hid, missV, hok]
    have HO := Lib.hid hok; clear hok
    go_enter Try.func30, Try.ntmps30
    go_wp2_with fail
    rw [← HW.out]
    have p0 := bP.cells
    go_wp2_with fail
    refine (s_l16Good _ _ _ _ pr _ _ hI).mono ?_
    rw [HO.out]
    rintro e w1 ⟨rfl, hb1⟩
    go_wp2_with fail
    go_ret2
    exact ⟨ret_ib HM.out.symm rfl, hWb.trans (hb1.mono hWb.size)⟩
  | true =>
    have HM : Hid (missV en nu de pr re = max 0 (leastQ en nu de - pr.length)) := by simp [Hid, missV, hok]
    obtain ⟨a1, a2, a3, _, _⟩ := sessOk_iff.1 hok
    obtain ⟨l1, l2⟩ := leastQ_bd a1 a2 a3
    have l3 : leastQ en nu de ≤ 30 := by omega
    have HO := Lib.hid hok; clear hok
    have q1 : IntKind.i64.wrap (leastQ en nu de - pr.length) = leastQ en nu de - pr.length := IntWalk.i64_in _ (by omega)
    have hq := Lib.hid q1; clear q1
    go_enter Try.func30, Try.ntmps30
    go_wp2_with fail
    rw [← HW.out]
    have p0 := bP.cells
    go_wp2_with fail
    refine (s_l16Good _ _ _ _ pr _ _ hI).mono ?_
    rw [HO.out]
    rintro e w1 ⟨rfl, hb1⟩
    have P1 := bP.below hb1
    have p1 := P1.cells
    have r1 := P1.rule
    have hI1 := hI.below hb1
    clear p0
    go_wp2_with fail
    go_region_held3 (fun w' => Below w1.heap.size w1 w') (first | assumption | (exact Below.drew (Below.refl _ _)))
      (first
        | (go_at_call 61; refine (s_l16Least _ _ _ _ pr _ _ (hI1.below (by assumption)) HO.out).mono ?_; rintro e w2 ⟨rfl, hb2⟩; have hbn := below_step (W := w1) (by assumption) hb2)
        | (go_at_call 60; refine (s_l1Most _ _ _).mono ?_; rintro e w' ⟨rfl, rfl⟩))
    go_wp2_with fail
    all_goals go_ret2
    all_goals refine ⟨ret_ib ?_ rfl, hWb.trans ((below_step hb1 hbn).mono hWb.size)⟩
    all_goals (have z1 := HM.out; have z2 := hq.out; simp only [z2] at *; omega)

set_option maxHeartbeats 1000000 in
theorem i_MissingMembers (en nu de : Int) (v : Value) (pr : List Int) (re : Int) (w : World) (h : IntsAt w v pr) :
    Calls Try.prog 27 #[vSess en nu de v re] w fun e w' => e = .returned (.tuple #[.int .i64 (missV en nu de pr re), .bool (sessOk en nu de pr re)]) ∧ Below w.heap.size w w' := by
  have hlen : pr.length ≤ 9223372036854775807 := by obtain ⟨_, _, _, _, h1, h2, _⟩ := h; unfold maxLen at h2; omega
  obtain ⟨ao, cap, rfl⟩ := h.form
  obtain ⟨W, hW⟩ : ∃ W, W = w.alloc (.cells #[.int .i64 en, .int .i64 nu, .int .i64 de, .slice ao pr.length cap, .int .i64 re] 29) := ⟨_, rfl⟩
  have bP : BoxAt W w.heap.size #[.int .i64 en, .int .i64 nu, .int .i64 de, .slice ao pr.length cap, .int .i64 re] := by rw [hW]; exact BoxAt.new _ _ _
  have hWb : Below w.heap.size w W := by rw [hW]; go_grown
  have hI : IntsAt W (.slice ao pr.length cap) pr := h.below hWb
  have HW := Lib.hid hW; clear hW
  cases hok : sessOk en nu de pr re with
  | false =>
    have HM : Hid (missV en nu de pr re = 0) := by simp [Hid, missV, hok]
    have HO := Lib.hid hok; clear hok
    go_enter Try.func27, Try.ntmps27
    go_wp2_with fail
    rw [← HW.out]
    have p0 := bP.cells
    go_wp2_with fail
    refine (i_IsValidSession _ _ _ _ pr _ _ hI).mono ?_
    rw [HO.out]
    rintro e w1 ⟨rfl, hb1⟩
    go_wp2_with fail
    go_ret2
    exact ⟨ret_ib HM.out.symm rfl, hWb.trans (hb1.mono hWb.size)⟩
  | true =>
    have HM : Hid (missV en nu de pr re = max (leastQ en nu de - pr.length) 0) := by simp only [Hid, missV, hok, if_true]; omega
    obtain ⟨a1, a2, a3, _, _⟩ := sessOk_iff.1 hok
    obtain ⟨l1, l2⟩ := leastQ_bd a1 a2 a3
    have l3 : leastQ en nu de ≤ 30 := by omega
    have HO := Lib.hid hok; clear hok
    have q1 : IntKind.i64.wrap (leastQ en nu de - pr.length) = leastQ en nu de - pr.length := IntWalk.i64_in _ (by omega)
    have hq := Lib.hid q1; clear q1
    go_enter Try.func27, Try.ntmps27
    go_wp2_with fail
    rw [← HW.out]
    have p0 := bP.cells
    go_wp2_with fail
    refine (i_IsValidSession _ _ _ _ pr _ _ hI).mono ?_
    rw [HO.out]
    rintro e w1 ⟨rfl, hb1⟩
    have P1 := bP.below hb1
    have p1 := P1.cells
    have r1 := P1.rule
    have hI1 := hI.below hb1
    clear p0
    go_wp2_with fail
    go_region_held3 (fun w' => Below w1.heap.size w1 w') (first | assumption | (exact Below.drew (Below.refl _ _)))
      (first
        | (go_at_call 59; refine (i_smallestQuorum _ _ _ _ pr _ _ (hI1.below (by assumption)) HO.out).mono ?_; rintro e w2 ⟨rfl, hb2⟩; have hbn := below_step (W := w1) (by assumption) hb2))
    go_wp2_with fail
    all_goals go_ret2
    all_goals refine ⟨ret_ib ?_ rfl, hWb.trans ((below_step hb1 hbn).mono hWb.size)⟩
    all_goals (have z1 := HM.out; have z2 := hq.out; simp only [z2] at *; omega)

end Go.Proofs.Ytflkijklipkneaa
