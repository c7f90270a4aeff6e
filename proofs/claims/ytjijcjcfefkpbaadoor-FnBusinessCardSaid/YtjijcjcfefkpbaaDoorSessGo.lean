/- Contracts on sessions: GoOut, the reference's and the program's. No conditions beyond sizes. -/
import Derived.Test.YtjijcjcfefkpbaaDoorSessR
import Derived.Test.YtjijcjcfefkpbaaDoorPush
import Derived.Test.YtjijcjcfefkpbaaDoorWithout
namespace Go.Proofs.YtjijcjcfefkpbaaDoor
open Go.RowKit
set_option linter.unusedVariables false
set_option linter.unusedSimpArgs false

/-- GoOut. -/
def goOut (s : DSess) (x : Int) : DSess × Bool := if sessOk s.en s.nu s.de s.pr s.re && hasB s.pr x then ({ s with pr := outB x s.pr }, true) else (zeroSess, false)
theorem goOut_len (s : DSess) (x : Int) (h : s.pr.length ≤ 1048576) : (goOut s x).1.pr.length ≤ 4000000 := by
  unfold goOut
  split
  · have := outB_len x s.pr; simp only; omega
  · simp [zeroSess]

set_option maxHeartbeats 4000000 in
theorem s_GoOut (en nu de : Int) (v : Value) (pr : List Int) (re x : Int) (w : World) (h : IntsAt w v pr) (hn : pr.length ≤ 1048576) :
    Calls Tryd.prog 37 #[vSess en nu de v re, .int .i64 x] w fun e w' => ∃ u, e = .returned (vSessOk (goOut ⟨en, nu, de, pr, re⟩ x) u) ∧ OwnInts w' w.heap.size u (goOut ⟨en, nu, de, pr, re⟩ x).1.pr ∧ Below w.heap.size w w' := by
  obtain ⟨ao, cap, rfl⟩ := h.form
  obtain ⟨W, hW⟩ : ∃ W, W = (w.alloc (.cells #[.int .i64 en, .int .i64 nu, .int .i64 de, .slice ao pr.length cap, .int .i64 re] 28)).alloc (.cells #[.int .i64 0, .int .i64 0, .int .i64 0, .slice none 0 0, .int .i64 0] 28) := ⟨_, rfl⟩
  have bP : BoxAt W w.heap.size #[.int .i64 en, .int .i64 nu, .int .i64 de, .slice ao pr.length cap, .int .i64 re] := by rw [hW]; exact (BoxAt.new _ _ _).alloc _
  have bR : BoxAt W (w.heap.size + 1) #[.int .i64 0, .int .i64 0, .int .i64 0, .slice none 0 0, .int .i64 0] := by rw [hW]; exact BoxAt.new_at _ _ _ _ (by simp)
  have hWb : Below w.heap.size w W := by rw [hW]; go_grown
  have hI : IntsAt W (.slice ao pr.length cap) pr := h.below hWb
  have HW := Lib.hid hW; clear hW
  cases hok : sessOk en nu de pr re && hasB pr x with
  | false =>
    have HR : Hid (goOut ⟨en, nu, de, pr, re⟩ x = (zeroSess, false)) := by simp [Hid, goOut, hok]
    have HO := Lib.hid hok; clear hok
    rw [HR.out]
    go_enter Tryd.func37, Tryd.ntmps37
    go_wp2_with fail
    rw [← HW.out]
    refine (s_l16Good _ _ _ _ pr _ _ hI).mono ?_
    rintro e w1 ⟨rfl, hb1⟩
    have B1 := bR.below hb1; have P1 := bP.below hb1
    have p1 := P1.cells; have n1 := B1.cells; have f1 := B1.free
    have hI1 := hI.below hb1
    have hB1 : w.heap.size + 1 < w1.heap.size := B1.1
    cases hs : sessOk en nu de pr re with
    | false =>
      go_wp2_with fail
      refine bodyPost_ret (v := vSessOk (zeroSess, false) (.slice none 0 0)) (by simp [results, Tryd.results37, go_sem, n1, zeroSess]) rfl ⟨.slice none 0 0, rfl, own_zero _ _, ?_⟩
      exact fin_below2 (lo := w.heap.size + 1) (hi := w.heap.size + 2) (hWb.trans (hb1.mono hWb.size)) (by repeat (first | with_reducible exact OutOf.refl _ _ _ | with_reducible refine OutOf.alloc ?_ _ | with_reducible refine OutOf.setIn ?_ ?_ ?_ _ | (simp; done) | omega)) (Nat.le_succ _)
    | true =>
      have hx : hasB pr x = false := by have := HO.out; simpa [hs] using this
      have HX := Lib.hid hx; clear hx
      go_wp2_with (go_at_call 33; refine (s_l1Has _ pr _ _ hI1).mono ?_; rw [HX.out]; rintro e w' ⟨rfl, rfl⟩)
      refine bodyPost_ret (v := vSessOk (zeroSess, false) (.slice none 0 0)) (by simp [results, Tryd.results37, go_sem, n1, zeroSess]) rfl ⟨.slice none 0 0, rfl, own_zero _ _, ?_⟩
      exact fin_below2 (lo := w.heap.size + 1) (hi := w.heap.size + 2) (hWb.trans (hb1.mono hWb.size)) (by repeat (first | with_reducible exact OutOf.refl _ _ _ | with_reducible refine OutOf.alloc ?_ _ | with_reducible refine OutOf.setIn ?_ ?_ ?_ _ | (simp; done) | omega)) (Nat.le_succ _)
  | true =>
    have HR : Hid (goOut ⟨en, nu, de, pr, re⟩ x = (⟨en, nu, de, outB x pr, re⟩, true)) := by simp [Hid, goOut, hok]
    simp only [Bool.and_eq_true] at hok
    obtain ⟨h1, h3⟩ := hok
    have HO := Lib.hid h1; clear h1
    have HX := Lib.hid h3; clear h3
    rw [HR.out]
    go_enter Tryd.func37, Tryd.ntmps37
    go_wp2_with fail
    rw [← HW.out]
    refine (s_l16Good _ _ _ _ pr _ _ hI).mono ?_
    rw [HO.out]
    rintro e w1 ⟨rfl, hb1⟩
    have B1 := bR.below hb1; have P1 := bP.below hb1
    have p1 := P1.cells
    have hI1 := hI.below hb1
    have hB1 : w.heap.size + 1 < w1.heap.size := B1.1
    have hlit := own_lit0 w1 3
    go_wp2_with (go_at_call 33; refine (s_l1Has _ pr _ _ hI1).mono ?_; rw [HX.out]; rintro e w' ⟨rfl, rfl⟩)
    go_loopw [6, 7] (fun u i wr => ∃ k : Nat, k ≤ pr.length ∧ i = .int .i64 k ∧ OwnInts wr w1.heap.size u (outB x (pr.take k)) ∧ Below w1.heap.size w1 wr) (fun _ i _ => pr.length - (intOf i).toNat)
    case atStart => exact ⟨0, by omega, rfl, by simpa [outB, keepF] using hlit, (Below.refl _ _).alloc (Nat.le_refl _) _⟩
    case round =>
      obtain ⟨k, hk, rfl, ho, hb⟩ := hrel
      have P2 := P1.below hb
      have p2 := P2.cells
      clear p1 hlit
      by_cases hlt : k < pr.length
      · obtain ⟨_, _, _, hv, g1, g2, g3⟩ := hI1.below hb
        cases hv
        obtain ⟨b, off, rfl, h4, h5⟩ := g3 (by omega)
        have hc : wr.cell? ⟨b, off + k, none⟩ = some (.int .i64 pr[k]) := h5.int hlt
        have hol : (outB x (pr.take k)).length ≤ 1048576 := by have := outB_len x (pr.take k); simp only [List.length_take] at this; omega
        cases heq : (pr[k] == x) with
        | true =>
          have hq : (pr[k] != x) = false := by simpa [bne] using heq
          have HK : Hid (outB x (pr.take (k + 1)) = outB x (pr.take k)) := keep_out _ hlt heq
          generalize pr[k] = y at *
          clear heq
          go_wp2_with fail
          go_roundw
          case rel => exact ⟨k + 1, by omega, by go_num, by rw [HK.out]; exact ho, hb⟩
          case measure => simp [intOf]; omega
        | false =>
          have hq : (pr[k] != x) = true := by simpa [bne] using heq
          have HK : Hid (outB x (pr.take (k + 1)) = outB x (pr.take k) ++ [pr[k]]) := keep_in _ hlt heq
          generalize pr[k] = y at *
          clear heq
          go_wp2_with (at_builtin; refine wpList_push_int rfl (.tmp 34) (.tmp 40) _ rfl w1.heap.size 3 _ int_info Tryd.underlying22 _ _ y rfl ho rfl hb.size (by omega) ?_; intro u' w2 ho2 hb2)
          go_roundw
          case rel => exact ⟨k + 1, by omega, by go_num, by rw [HK.out]; exact ho2, hb.trans hb2⟩
          case measure => simp [intOf]; omega
      · have HK : Hid (pr.take k = pr) := List.take_of_length_le (by omega)
        rw [HK.out] at ho
        have B2 := B1.below hb
        obtain ⟨a2, k2, rfl⟩ := ho.at_.form
        go_wp2_with (go_at_call 52; refine (s_l16With _ _ _ _ _ _ _ _ _ _ ⟨_, _, _, rfl⟩).mono ?_; rintro e w3 ⟨rfl, hb3⟩; have B3 := B2.below hb3; have n3 := B3.cells; have f3 := B3.free)
        refine bodyPost_ret (v := vSessOk (⟨en, nu, de, outB x pr, re⟩, true) (.slice a2 (outB x pr).length k2)) (by simp [results, Tryd.results37, go_sem, n3]) rfl ⟨_, rfl, ?_, ?_⟩
        · exact own_base (fin_own2 (lo := w.heap.size + 1) (b := w.heap.size + 1) ho hb3 (by repeat (first | with_reducible exact OutOf.refl _ _ _ | with_reducible refine OutOf.alloc ?_ _ | with_reducible refine OutOf.setIn ?_ ?_ ?_ _ | (simp; done) | omega)) hB1) (by show w.heap.size ≤ w1.heap.size; omega)
        · exact fin_below2 (lo := w.heap.size + 1) (hi := w.heap.size + 2) (hWb.trans ((below_step hb1 (hb.trans (hb3.mono hb.size))).mono hWb.size)) (by repeat (first | with_reducible exact OutOf.refl _ _ _ | with_reducible refine OutOf.alloc ?_ _ | with_reducible refine OutOf.setIn ?_ ?_ ?_ _ | (simp; done) | omega)) (Nat.le_succ _)

set_option maxHeartbeats 4000000 in
theorem i_GoOut (en nu de : Int) (v : Value) (pr : List Int) (re x : Int) (w : World) (h : IntsAt w v pr) (hn : pr.length ≤ 1048576) :
    Calls Tryd.prog 16 #[vSess en nu de v re, .int .i64 x] w fun e w' => ∃ u, e = .returned (vSessOk (goOut ⟨en, nu, de, pr, re⟩ x) u) ∧ OwnInts w' w.heap.size u (goOut ⟨en, nu, de, pr, re⟩ x).1.pr ∧ Below w.heap.size w w' := by
  obtain ⟨ao, cap, rfl⟩ := h.form
  obtain ⟨W, hW⟩ : ∃ W, W = (w.alloc (.cells #[.int .i64 en, .int .i64 nu, .int .i64 de, .slice ao pr.length cap, .int .i64 re] 28)).alloc (.cells #[.int .i64 0, .int .i64 0, .int .i64 0, .slice none 0 0, .int .i64 0] 28) := ⟨_, rfl⟩
  have bP : BoxAt W w.heap.size #[.int .i64 en, .int .i64 nu, .int .i64 de, .slice ao pr.length cap, .int .i64 re] := by rw [hW]; exact (BoxAt.new _ _ _).alloc _
  have bR : BoxAt W (w.heap.size + 1) #[.int .i64 0, .int .i64 0, .int .i64 0, .slice none 0 0, .int .i64 0] := by rw [hW]; exact BoxAt.new_at _ _ _ _ (by simp)
  have hWb : Below w.heap.size w W := by rw [hW]; go_grown
  have hI : IntsAt W (.slice ao pr.length cap) pr := h.below hWb
  have HW := Lib.hid hW; clear hW
  cases hok : sessOk en nu de pr re && hasB pr x with
  | false =>
    have HR : Hid (goOut ⟨en, nu, de, pr, re⟩ x = (zeroSess, false)) := by simp [Hid, goOut, hok]
    have HO := Lib.hid hok; clear hok
    rw [HR.out]
    go_enter Tryd.func16, Tryd.ntmps16
    go_wp2_with fail
    rw [← HW.out]
    refine (i_IsValidSession _ _ _ _ pr _ _ hI).mono ?_
    rintro e w1 ⟨rfl, hb1⟩
    have B1 := bR.below hb1; have P1 := bP.below hb1
    have p1 := P1.cells; have n1 := B1.cells; have f1 := B1.free
    have hI1 := hI.below hb1
    have hB1 : w.heap.size + 1 < w1.heap.size := B1.1
    cases hs : sessOk en nu de pr re with
    | false =>
      go_wp2_with fail
      refine bodyPost_ret (v := vSessOk (zeroSess, false) (.slice none 0 0)) (by simp [results, Tryd.results16, go_sem, n1, zeroSess]) rfl ⟨.slice none 0 0, rfl, own_zero _ _, ?_⟩
      exact fin_below2 (lo := w.heap.size + 1) (hi := w.heap.size + 2) (hWb.trans (hb1.mono hWb.size)) (by repeat (first | with_reducible exact OutOf.refl _ _ _ | with_reducible refine OutOf.alloc ?_ _ | with_reducible refine OutOf.setIn ?_ ?_ ?_ _ | (simp; done) | omega)) (Nat.le_succ _)
    | true =>
      have hx : hasB pr x = false := by have := HO.out; simpa [hs] using this
      have HX := Lib.hid hx; clear hx
      go_wp2_with (go_at_call 40; refine (slices_Contains _ pr _ _ hI1).mono ?_; rw [HX.out]; rintro e w' ⟨rfl, rfl⟩)
      refine bodyPost_ret (v := vSessOk (zeroSess, false) (.slice none 0 0)) (by simp [results, Tryd.results16, go_sem, n1, zeroSess]) rfl ⟨.slice none 0 0, rfl, own_zero _ _, ?_⟩
      exact fin_below2 (lo := w.heap.size + 1) (hi := w.heap.size + 2) (hWb.trans (hb1.mono hWb.size)) (by repeat (first | with_reducible exact OutOf.refl _ _ _ | with_reducible refine OutOf.alloc ?_ _ | with_reducible refine OutOf.setIn ?_ ?_ ?_ _ | (simp; done) | omega)) (Nat.le_succ _)
  | true =>
    have HR : Hid (goOut ⟨en, nu, de, pr, re⟩ x = (⟨en, nu, de, outB x pr, re⟩, true)) := by simp [Hid, goOut, hok]
    simp only [Bool.and_eq_true] at hok
    obtain ⟨h1, h3⟩ := hok
    have HO := Lib.hid h1; clear h1
    have HX := Lib.hid h3; clear h3
    rw [HR.out]
    go_enter Tryd.func16, Tryd.ntmps16
    go_wp2_with fail
    rw [← HW.out]
    refine (i_IsValidSession _ _ _ _ pr _ _ hI).mono ?_
    rw [HO.out]
    rintro e w1 ⟨rfl, hb1⟩
    have B1 := bR.below hb1; have P1 := bP.below hb1
    have p1 := P1.cells
    have hI1 := hI.below hb1
    have hB1 : w.heap.size + 1 < w1.heap.size := B1.1
    go_wp2_with (go_at_call 40; refine (slices_Contains _ pr _ _ hI1).mono ?_; rw [HX.out]; rintro e w' ⟨rfl, rfl⟩)
    refine (i_newSession _ _ _ _ pr _ _ hI1 hn).mono ?_
    rintro e w2 ⟨u, rfl, ho2, hb2⟩
    obtain ⟨a2, k2, rfl⟩ := ho2.at_.form
    have B2 := B1.below hb2
    have p2 := (P1.below hb2).cells
    have z2 : w.heap.size + 1 < w2.heap.size := B2.1
    have z3 : w.heap.size < w2.heap.size := by omega
    have hI2 := hI1.below hb2
    clear p1
    go_wp2_with fail
    refine (i_without _ pr _ _ (hI2.alloc _) hn).mono ?_
    rintro e w3 ⟨u3, rfl, ho3, hb3⟩
    obtain ⟨a3, k3, rfl⟩ := ho3.at_.form
    have O3 := BoxAt.below (BoxAt.new _ _ _) hb3
    have o3 := O3.cells; have of3 := O3.free
    have B3 := (B2.alloc _).below hb3
    have n3 := B3.cells; have f3 := B3.free
    have z4 : w2.heap.size < w3.heap.size := O3.1
    have hb' : Below w1.heap.size w1 w3 := hb2.trans (((Below.refl _ _).alloc (Nat.le_refl _) _).trans (hb3.mono (by simp))|>.mono hb2.size)
    clear p2
    go_wp2_with fail
    refine bodyPost_ret (v := vSessOk (⟨en, nu, de, outB x pr, re⟩, true) (.slice a3 (outB x pr).length k3)) (by simp [results, Tryd.results16, go_sem, n3, o3, z2, z3, z4]) rfl ⟨_, rfl, ?_, ?_⟩
    · exact own_base (fin_own2 (lo := w.heap.size + 1) (b := w2.heap.size) ho3 (Below.refl _ _) (by repeat (first | with_reducible exact OutOf.refl _ _ _ | with_reducible refine OutOf.alloc ?_ _ | with_reducible refine OutOf.setIn ?_ ?_ ?_ _ | (simp; done) | omega)) (by simp)) (by simp; omega)
    · exact fin_below2 (lo := w.heap.size + 1) (hi := w2.heap.size + 1) (hWb.trans ((below_step hb1 hb').mono hWb.size)) (by repeat (first | with_reducible exact OutOf.refl _ _ _ | with_reducible refine OutOf.alloc ?_ _ | with_reducible refine OutOf.setIn ?_ ?_ ?_ _ | (simp; done) | omega)) (Nat.le_succ _)

end Go.Proofs.YtjijcjcfefkpbaaDoor
