/- Contracts on sessions: ComeIn, the reference's and the program's. No conditions beyond sizes. -/
import Derived.Test.YtjijcjcfefkpbaaDoorSessR
import Derived.Test.YtjijcjcfefkpbaaDoorPush
import Derived.Test.YtjijcjcfefkpbaaDoorSortI
import Derived.Test.YtjijcjcfefkpbaaDoorPutW
namespace Go.Proofs.YtjijcjcfefkpbaaDoor
open Go.RowKit
set_option linter.unusedVariables false
set_option linter.unusedSimpArgs false

theorem BoxAt.set {w : World} {b i : Nat} {cs : Array Value} (h : BoxAt w b cs) (hi : i < cs.size) (v : Value) : BoxAt (w.setCell ⟨b, i, none⟩ v) b (cs.setIfInBounds i v) := by
  refine ⟨by simpa [World.setCell] using h.1, fun j => ?_, fun j => by simpa using h.2.2 j⟩
  by_cases he : i = j
  · subst he
    rw [World.cell?_setCell_same _ _ _ (u := cs[i]) (by rw [h.2.1 i, Array.getElem?_eq_getElem hi])]
    simp [hi]
  · rw [World.cell?_setCell_other _ _ _ _ (by simp), h.2.1 j]
    simp [Array.getElem?_setIfInBounds, he]
/-- What is owned stays where another block alone is written. -/
theorem own_off {w w' : World} {B e n size b : Nat} {v : Value} {cs : List Value} (h : w.ownsRow B e size v n cs) (ho : OutOf b (b + 1) w w') (hne : v.ownBlock ≠ some b) : w'.ownsRow B e size v n cs := by
  refine ⟨h.1, ?_⟩
  rcases h.2 with h2 | ⟨g, cap, cur, rfl, hg, hgg, r⟩
  · exact .inl h2
  · have hgb : g ≠ b := fun e => hne (by simp [Value.ownBlock, e])
    exact .inr ⟨g, cap, cur, rfl, hg, (ho.block g (Array.getElem?_eq_some_iff.1 hgg).1 (by omega)).trans hgg, r⟩
theorem box_grown {w w' : World} {b : Nat} {cs : Array Value} {row : Option Nat} (h : BoxAt w b cs) (hg : w.grownBy w' row) (hne : row ≠ some b) : BoxAt w' b cs :=
  ⟨by have := hg.size; have := h.1; omega, fun i => (World.cell?_of_block (w := w) (a := ⟨b, i, none⟩) (hg.block b h.1 (fun e => hne e.symm))).trans (h.2.1 i), fun i => (World.frozen?_of_block (w := w) (a := ⟨b, i, none⟩) (hg.block b h.1 (fun e => hne e.symm))).trans (h.2.2 i)⟩

/-- ComeIn. -/
def comeIn (s : DSess) (x : Int) : DSess × Bool := if sessOk s.en s.nu s.de s.pr s.re && inB x 1 s.en && !hasB s.pr x then ({ s with pr := putL x s.pr }, true) else (zeroSess, false)
theorem comeIn_len (s : DSess) (x : Int) (h : s.pr.length ≤ 1048576) : (comeIn s x).1.pr.length ≤ 4000000 := by
  unfold comeIn
  split
  · simp only [putL_len]; omega
  · simp [zeroSess]

set_option maxHeartbeats 4000000 in
theorem s_ComeIn (en nu de : Int) (v : Value) (pr : List Int) (re x : Int) (w : World) (h : IntsAt w v pr) (hn : pr.length ≤ 1048576) :
    Calls Tryd.prog 36 #[vSess en nu de v re, .int .i64 x] w fun e w' => ∃ u, e = .returned (vSessOk (comeIn ⟨en, nu, de, pr, re⟩ x) u) ∧ OwnInts w' w.heap.size u (comeIn ⟨en, nu, de, pr, re⟩ x).1.pr ∧ Below w.heap.size w w' := by
  obtain ⟨ao, cap, rfl⟩ := h.form
  obtain ⟨W, hW⟩ : ∃ W, W = (w.alloc (.cells #[.int .i64 en, .int .i64 nu, .int .i64 de, .slice ao pr.length cap, .int .i64 re] 28)).alloc (.cells #[.int .i64 0, .int .i64 0, .int .i64 0, .slice none 0 0, .int .i64 0] 28) := ⟨_, rfl⟩
  have bP : BoxAt W w.heap.size #[.int .i64 en, .int .i64 nu, .int .i64 de, .slice ao pr.length cap, .int .i64 re] := by rw [hW]; exact (BoxAt.new _ _ _).alloc _
  have bR : BoxAt W (w.heap.size + 1) #[.int .i64 0, .int .i64 0, .int .i64 0, .slice none 0 0, .int .i64 0] := by rw [hW]; exact BoxAt.new_at _ _ _ _ (by simp)
  have hWb : Below w.heap.size w W := by rw [hW]; go_grown
  have hI : IntsAt W (.slice ao pr.length cap) pr := h.below hWb
  have HW := Lib.hid hW; clear hW
  cases hok : sessOk en nu de pr re && inB x 1 en && !hasB pr x with
  | false =>
    have HR : Hid (comeIn ⟨en, nu, de, pr, re⟩ x = (zeroSess, false)) := by simp [Hid, comeIn, hok]
    have HO := Lib.hid hok; clear hok
    rw [HR.out]
    go_enter Tryd.func36, Tryd.ntmps36
    go_wp2_with fail
    rw [← HW.out]
    refine (s_l16Good _ _ _ _ pr _ _ hI).mono ?_
    rintro e w1 ⟨rfl, hb1⟩
    have B1 := bR.below hb1; have P1 := bP.below hb1
    have p1 := P1.cells; have n1 := B1.cells; have f1 := B1.free
    have hI1 := hI.below hb1
    have hB1 : w.heap.size + 1 < w1.heap.size := B1.1
    cases hs : sessOk en nu de pr re with
    | false =>
      go_wp2_with fail
      refine bodyPost_ret (v := vSessOk (zeroSess, false) (.slice none 0 0)) (by simp [results, Tryd.results36, go_sem, n1, zeroSess]) rfl ⟨.slice none 0 0, rfl, own_zero _ _, ?_⟩
      exact fin_below2 (lo := w.heap.size + 1) (hi := w.heap.size + 2) (hWb.trans (hb1.mono hWb.size)) (by repeat (first | with_reducible exact OutOf.refl _ _ _ | with_reducible refine OutOf.alloc ?_ _ | with_reducible refine OutOf.setIn ?_ ?_ ?_ _ | (simp; done) | omega)) (Nat.le_succ _)
    | true =>
      cases hr : inB x 1 en with
      | false =>
        have HX := Lib.hid hr
        go_wp2_with (go_at_call 45; refine (s_l1In _ _ _ _).mono ?_; rw [HX.out]; rintro e w' ⟨rfl, rfl⟩)
        refine bodyPost_ret (v := vSessOk (zeroSess, false) (.slice none 0 0)) (by simp [results, Tryd.results36, go_sem, n1, zeroSess]) rfl ⟨.slice none 0 0, rfl, own_zero _ _, ?_⟩
        exact fin_below2 (lo := w.heap.size + 1) (hi := w.heap.size + 2) (hWb.trans (hb1.mono hWb.size)) (by repeat (first | with_reducible exact OutOf.refl _ _ _ | with_reducible refine OutOf.alloc ?_ _ | with_reducible refine OutOf.setIn ?_ ?_ ?_ _ | (simp; done) | omega)) (Nat.le_succ _)
      | true =>
        have hx : hasB pr x = true := by have := HO.out; simpa [hs, hr] using this
        have HX := Lib.hid hr; clear hr
        have HY := Lib.hid hx; clear hx
        go_wp2_with (first | (go_at_call 45; refine (s_l1In _ _ _ _).mono ?_; rw [HX.out]; rintro e w' ⟨rfl, rfl⟩) | (go_at_call 33; refine (s_l1Has _ pr _ _ hI1).mono ?_; rw [HY.out]; rintro e w' ⟨rfl, rfl⟩))
        refine bodyPost_ret (v := vSessOk (zeroSess, false) (.slice none 0 0)) (by simp [results, Tryd.results36, go_sem, n1, zeroSess]) rfl ⟨.slice none 0 0, rfl, own_zero _ _, ?_⟩
        exact fin_below2 (lo := w.heap.size + 1) (hi := w.heap.size + 2) (hWb.trans (hb1.mono hWb.size)) (by repeat (first | with_reducible exact OutOf.refl _ _ _ | with_reducible refine OutOf.alloc ?_ _ | with_reducible refine OutOf.setIn ?_ ?_ ?_ _ | (simp; done) | omega)) (Nat.le_succ _)
  | true =>
    have HR : Hid (comeIn ⟨en, nu, de, pr, re⟩ x = (⟨en, nu, de, putL x pr, re⟩, true)) := by simp [Hid, comeIn, hok]
    simp only [Bool.and_eq_true, Bool.not_eq_true'] at hok
    obtain ⟨⟨h1, h2⟩, h3⟩ := hok
    have HS : Hid (pr.Pairwise (· < ·)) := rising_pair (sessOk_iff.1 h1).2.2.2.1
    have HO := Lib.hid h1; clear h1
    have HX := Lib.hid h2; clear h2
    have HY := Lib.hid h3; clear h3
    rw [HR.out]
    go_enter Tryd.func36, Tryd.ntmps36
    go_wp2_with fail
    rw [← HW.out]
    refine (s_l16Good _ _ _ _ pr _ _ hI).mono ?_
    rw [HO.out]
    rintro e w1 ⟨rfl, hb1⟩
    have B1 := bR.below hb1; have P1 := bP.below hb1
    have p1 := P1.cells
    have hI1 := hI.below hb1
    have hB1 : w.heap.size + 1 < w1.heap.size := B1.1
    go_wp2_with (first | (go_at_call 45; refine (s_l1In _ _ _ _).mono ?_; rw [HX.out]; rintro e w' ⟨rfl, rfl⟩) | (go_at_call 33; refine (s_l1Has _ pr _ _ hI1).mono ?_; rw [HY.out]; rintro e w' ⟨rfl, rfl⟩))
    have n1 := B1.cells; have f1 := B1.free
    go_region_with (first
      | (go_at_call 34; refine (s_l1Put _ pr _ _ ?_ (by omega) HY.out).mono ?_; exact hI1; rintro e w2 ⟨u, rfl, ho2, hb2⟩; obtain ⟨a2, k2, rfl⟩ := ho2.at_.form; have B2 := BoxAt.below (by exact B1) hb2; have P2 := BoxAt.below (by exact P1) hb2; have p2 := P2.cells; have g2 := undrew hb2)
      | (go_at_call 52; refine (s_l16With _ _ _ _ _ _ _ _ _ _ ⟨_, _, _, rfl⟩).mono ?_; rintro e w3 ⟨rfl, hb3⟩; have B3 := B2.below hb3; have n3 := B3.cells; have f3 := B3.free))
    all_goals go_wp2_with fail
    all_goals refine bodyPost_ret (v := vSessOk (⟨en, nu, de, putL x pr, re⟩, true) (.slice a2 (putL x pr).length k2)) (by simp [results, Tryd.results36, go_sem, n3]) rfl ⟨_, rfl, ?_, ?_⟩
    all_goals first
      | exact own_base (fin_own2 (lo := w.heap.size + 1) (b := w.heap.size + 1) ho2 hb3 (by repeat (first | with_reducible exact OutOf.refl _ _ _ | with_reducible refine OutOf.alloc ?_ _ | with_reducible refine OutOf.setIn ?_ ?_ ?_ _ | (simp; done) | omega)) hB1) (by show w.heap.size ≤ w1.heap.size; omega)
      | exact fin_below2 (lo := w.heap.size + 1) (hi := w.heap.size + 2) (hWb.trans ((below_step hb1 (below_step g2 hb3)).mono hWb.size)) (by repeat (first | with_reducible exact OutOf.refl _ _ _ | with_reducible refine OutOf.alloc ?_ _ | with_reducible refine OutOf.setIn ?_ ?_ ?_ _ | (simp; done) | omega)) (Nat.le_succ _)

set_option maxHeartbeats 4000000 in
theorem i_ComeIn (en nu de : Int) (v : Value) (pr : List Int) (re x : Int) (w : World) (h : IntsAt w v pr) (hn : pr.length ≤ 1048576) :
    Calls Tryd.prog 15 #[vSess en nu de v re, .int .i64 x] w fun e w' => ∃ u, e = .returned (vSessOk (comeIn ⟨en, nu, de, pr, re⟩ x) u) ∧ OwnInts w' w.heap.size u (comeIn ⟨en, nu, de, pr, re⟩ x).1.pr ∧ Below w.heap.size w w' := by
  obtain ⟨ao, cap, rfl⟩ := h.form
  obtain ⟨W, hW⟩ : ∃ W, W = (w.alloc (.cells #[.int .i64 en, .int .i64 nu, .int .i64 de, .slice ao pr.length cap, .int .i64 re] 28)).alloc (.cells #[.int .i64 0, .int .i64 0, .int .i64 0, .slice none 0 0, .int .i64 0] 28) := ⟨_, rfl⟩
  have bP : BoxAt W w.heap.size #[.int .i64 en, .int .i64 nu, .int .i64 de, .slice ao pr.length cap, .int .i64 re] := by rw [hW]; exact (BoxAt.new _ _ _).alloc _
  have bR : BoxAt W (w.heap.size + 1) #[.int .i64 0, .int .i64 0, .int .i64 0, .slice none 0 0, .int .i64 0] := by rw [hW]; exact BoxAt.new_at _ _ _ _ (by simp)
  have hWb : Below w.heap.size w W := by rw [hW]; go_grown
  have hI : IntsAt W (.slice ao pr.length cap) pr := h.below hWb
  have HW := Lib.hid hW; clear hW
  cases hok : sessOk en nu de pr re && inB x 1 en && !hasB pr x with
  | false =>
    have HR : Hid (comeIn ⟨en, nu, de, pr, re⟩ x = (zeroSess, false)) := by simp [Hid, comeIn, hok]
    have HO := Lib.hid hok; clear hok
    rw [HR.out]
    go_enter Tryd.func15, Tryd.ntmps15
    go_wp2_with fail
    rw [← HW.out]
    refine (i_IsValidSession _ _ _ _ pr _ _ hI).mono ?_
    rintro e w1 ⟨rfl, hb1⟩
    have B1 := bR.below hb1; have P1 := bP.below hb1
    have p1 := P1.cells; have n1 := B1.cells; have f1 := B1.free
    have hI1 := hI.below hb1
    have hB1 : w.heap.size + 1 < w1.heap.size := B1.1
    cases hs : sessOk en nu de pr re with
    | false =>
      go_wp2_with fail
      refine bodyPost_ret (v := vSessOk (zeroSess, false) (.slice none 0 0)) (by simp [results, Tryd.results15, go_sem, n1, zeroSess]) rfl ⟨.slice none 0 0, rfl, own_zero _ _, ?_⟩
      exact fin_below2 (lo := w.heap.size + 1) (hi := w.heap.size + 2) (hWb.trans (hb1.mono hWb.size)) (by repeat (first | with_reducible exact OutOf.refl _ _ _ | with_reducible refine OutOf.alloc ?_ _ | with_reducible refine OutOf.setIn ?_ ?_ ?_ _ | (simp; done) | omega)) (Nat.le_succ _)
    | true =>
      cases hr : inB x 1 en with
      | false =>
        have HX := Lib.hid hr
        go_wp2_with (go_at_call 39; refine (i_inside _ _ _ _).mono ?_; rw [HX.out]; rintro e w' ⟨rfl, rfl⟩)
        refine bodyPost_ret (v := vSessOk (zeroSess, false) (.slice none 0 0)) (by simp [results, Tryd.results15, go_sem, n1, zeroSess]) rfl ⟨.slice none 0 0, rfl, own_zero _ _, ?_⟩
        exact fin_below2 (lo := w.heap.size + 1) (hi := w.heap.size + 2) (hWb.trans (hb1.mono hWb.size)) (by repeat (first | with_reducible exact OutOf.refl _ _ _ | with_reducible refine OutOf.alloc ?_ _ | with_reducible refine OutOf.setIn ?_ ?_ ?_ _ | (simp; done) | omega)) (Nat.le_succ _)
      | true =>
        have hx : hasB pr x = true := by have := HO.out; simpa [hs, hr] using this
        have HX := Lib.hid hr; clear hr
        have HY := Lib.hid hx; clear hx
        go_wp2_with (first | (go_at_call 39; refine (i_inside _ _ _ _).mono ?_; rw [HX.out]; rintro e w' ⟨rfl, rfl⟩) | (go_at_call 40; refine (slices_Contains _ pr _ _ hI1).mono ?_; rw [HY.out]; rintro e w' ⟨rfl, rfl⟩))
        refine bodyPost_ret (v := vSessOk (zeroSess, false) (.slice none 0 0)) (by simp [results, Tryd.results15, go_sem, n1, zeroSess]) rfl ⟨.slice none 0 0, rfl, own_zero _ _, ?_⟩
        exact fin_below2 (lo := w.heap.size + 1) (hi := w.heap.size + 2) (hWb.trans (hb1.mono hWb.size)) (by repeat (first | with_reducible exact OutOf.refl _ _ _ | with_reducible refine OutOf.alloc ?_ _ | with_reducible refine OutOf.setIn ?_ ?_ ?_ _ | (simp; done) | omega)) (Nat.le_succ _)
  | true =>
    have HR : Hid (comeIn ⟨en, nu, de, pr, re⟩ x = (⟨en, nu, de, putL x pr, re⟩, true)) := by simp [Hid, comeIn, hok]
    simp only [Bool.and_eq_true, Bool.not_eq_true'] at hok
    obtain ⟨⟨h1, h2⟩, h3⟩ := hok
    have HS : Hid (pr.Pairwise (· < ·)) := rising_pair (sessOk_iff.1 h1).2.2.2.1
    have HO := Lib.hid h1; clear h1
    have HX := Lib.hid h2; clear h2
    have HY := Lib.hid h3; clear h3
    rw [HR.out]
    go_enter Tryd.func15, Tryd.ntmps15
    go_wp2_with fail
    rw [← HW.out]
    refine (i_IsValidSession _ _ _ _ pr _ _ hI).mono ?_
    rw [HO.out]
    rintro e w1 ⟨rfl, hb1⟩
    have B1 := bR.below hb1; have P1 := bP.below hb1
    have p1 := P1.cells
    have hI1 := hI.below hb1
    have hB1 : w.heap.size + 1 < w1.heap.size := B1.1
    go_wp2_with (first | (go_at_call 39; refine (i_inside _ _ _ _).mono ?_; rw [HX.out]; rintro e w' ⟨rfl, rfl⟩) | (go_at_call 40; refine (slices_Contains _ pr _ _ hI1).mono ?_; rw [HY.out]; rintro e w' ⟨rfl, rfl⟩))
    refine (i_newSession _ _ _ _ pr _ _ hI1 hn).mono ?_
    rintro e w2 ⟨u, rfl, ho2, hb2⟩
    have hlt2 := fun g hg => (ho2.lt g hg).2
    have hge2 := fun g hg => (ho2.lt g hg).1
    have zz : w1.heap.size ≤ w2.heap.size := hb2.size
    obtain ⟨a2, k2, rfl⟩ := ho2.at_.form
    have B2 := B1.below hb2
    have z2 : w.heap.size + 1 < w2.heap.size := B2.1
    clear p1
    obtain ⟨zs, hz⟩ : ∃ zs, zs = pr ++ [x] := ⟨_, rfl⟩
    have hzl : zs.length = pr.length + 1 := by rw [hz]; simp
    have HZL := Lib.hid hzl; clear hzl
    obtain ⟨W3, hW3⟩ : ∃ W3, W3 = w2.alloc (.cells #[.int .i64 en, .int .i64 nu, .int .i64 de, .slice a2 pr.length k2, .int .i64 re] 28) := ⟨_, rfl⟩
    have O3 : BoxAt W3 w2.heap.size #[.int .i64 en, .int .i64 nu, .int .i64 de, .slice a2 pr.length k2, .int .i64 re] := by rw [hW3]; exact BoxAt.new _ _ _
    have hb3 : Below w2.heap.size w2 W3 := by rw [hW3]; exact (Below.refl _ _).alloc (Nat.le_refl _) _
    have B3 := B2.below hb3
    have ho3 := ho2.below hb3
    have o3 := O3.cells; have of3 := O3.free
    have z3 : w2.heap.size < W3.heap.size := O3.1
    have HW3 := Lib.hid hW3; clear hW3
    have HZ := Lib.hid hz; clear hz
    have hal : Below W3.heap.size W3 (W3.alloc (.cells #[.int .i64 x] 3)) := (Below.refl _ _).alloc (Nat.le_refl _) _
    have O3a := O3.below hal
    obtain ⟨i0, hi, hi0, hi1, hi2⟩ := info_parts int_info
    have HI0 := Lib.hid hi; clear hi
    have zal : w1.heap.size ≤ (W3.alloc (.cells #[.int .i64 x] 3)).heap.size := by have := hal.size; omega
    go_wp2_with (first
      | (at_builtin; refine wpList_append_row _ rfl (.tmp 27) (.tmp 29) _ rfl w1.heap.size 3 i0 (.int .i64 0) 1 8 Tryd.underlying22 HI0.out hi0 hi1 hi2 rfl (by decide) (.slice a2 pr.length k2) _ _ rfl (own_below ho3 hal) _ 1 [.int .i64 x] rfl (row_one W3 (.int .i64 x) 3) (ints_one [x]) ?A1 ?A2 ?A3 ?A4; (case A1 => (unfold maxLen; omega)); (case A2 => omega); (case A3 => exact zal); (intro v4 w4 o4' g4 e4);
         (
          have o4 : OwnInts w4 w1.heap.size v4 zs := by
            unfold OwnInts OwnI
            rw [HZL.out, HZ.out]
            simpa [ints] using o4'
          have hne4 : v4.ownBlock ≠ some w2.heap.size := by
            intro e
            rcases e4 with e4 | e4
            · rw [e4] at e; exact absurd (hlt2 _ e) (by omega)
            · rw [e4] at e
              have := Option.some.inj e
              have := hal.size
              omega
          have O4 := box_grown O3a g4 (fun e => absurd (hlt2 _ e) (by omega))
          have B4 := box_grown (B3.below hal) g4 (fun e => absurd (hge2 _ e) (by omega))
          have hb4 : Below w1.heap.size w1 w4 := Below.grown (below_step (below_step hb2 hb3) hal) g4 zal hge2
          have hge4 := fun g hg => (o4.lt g hg).1
          obtain ⟨a4, k4, rfl⟩ := o4.at_.form
          have o4c := O4.cells; have of4 := O4.free
          have z4 := g4.size
          have hset : OutOf w2.heap.size (w2.heap.size + 1) w4 (w4.setCell ⟨w2.heap.size, 3, none⟩ (.slice a4 zs.length k4)) := OutOf.set (OutOf.refl _ _ _) _
          have o5 := own_off o4 hset hne4
          have O5 : BoxAt (w4.setCell ⟨w2.heap.size, 3, none⟩ (.slice a4 zs.length k4)) w2.heap.size #[.int .i64 en, .int .i64 nu, .int .i64 de, .slice a4 zs.length k4, .int .i64 re] := by simpa using O4.set (i := 3) (by simp) (.slice a4 zs.length k4)
          have B5 := hset.box B4 (.inl (by omega))
          have hzal := hal.size
          have hb5 := hb4.trans (hset.below zz (by omega))))
      | (with_reducible change Go.wpList _ _ _ (Oper.mk _ (Op.fieldAddr _ _ _) _ _ _ _ :: _) _ (World.alloc _ _); rw [← HW3.out]))
    go_wp2_with fail
    refine (slices_Sort_own _ zs w1.heap.size _ o5 (by have := hset.size; omega) (by rw [HZ.out]; simp) (by have := HZL.out; omega)).mono ?_
    rintro e w6 ⟨rfl, o6, g6⟩
    have HP : sortL zs = putL x pr := by rw [sortL, HZ.out]; exact merge_put HS.out
    rw [HP] at o6
    have O6 := box_grown O5 g6 hne4
    have B6 := box_grown B5 g6 (fun e => absurd (hge4 _ e) (by omega))
    have hb6 : Below w1.heap.size w1 w6 := Below.grown hb5 g6 (by have := hset.size; omega) hge4
    have o6c := O6.cells; have n6 := B6.cells; have of6 := O6.free; have f6 := B6.free
    have hP6 := Lib.hid HP; clear HP
    clear o4c of4 o3 of3
    go_wp2_with fail
    refine bodyPost_ret (v := vSessOk (⟨en, nu, de, putL x pr, re⟩, true) (.slice a4 zs.length k4)) (by simp [results, Tryd.results15, go_sem, n6, o6c]) rfl ⟨_, rfl, ?_, ?_⟩
    · exact own_base (fin_own2 (lo := w.heap.size + 1) (b := w.heap.size + 1) o6 (Below.refl _ _) (by repeat (first | with_reducible exact OutOf.refl _ _ _ | with_reducible refine OutOf.alloc ?_ _ | with_reducible refine OutOf.setIn ?_ ?_ ?_ _ | (simp; done) | omega)) hB1) (by show w.heap.size ≤ w1.heap.size; omega)
    · exact fin_below2 (lo := w.heap.size + 1) (hi := w.heap.size + 2) (hWb.trans ((below_step hb1 hb6).mono hWb.size)) (by repeat (first | with_reducible exact OutOf.refl _ _ _ | with_reducible refine OutOf.alloc ?_ _ | with_reducible refine OutOf.setIn ?_ ?_ ?_ _ | (simp; done) | omega)) (Nat.le_succ _)

end Go.Proofs.YtjijcjcfefkpbaaDoor
