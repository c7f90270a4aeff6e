/- Contracts: the draws of chapter 16. Condition: fewer than a thousand million choices. -/
import Derived.Test.YtflkijklipkneaaDrawQ
namespace Go.Proofs.Ytflkijklipkneaa
open Go.RowKit
set_option linter.unusedVariables false
set_option linter.unusedSimpArgs false

/-- A session drawn, in its variable (block s), the result's variable in block r, the cursor in block b. -/
structure DrwAt (W0 : World) (cv : Value) (w' : World) (b m r s : Nat) (en nu de re : Int) (u : Value) (xs : List Int) : Prop where
  cur : CurAt W0 cv w' b m
  res : BoxAt w' r #[.int .i64 0, .int .i64 0, .int .i64 0, .slice none 0 0, .int .i64 0]
  box : BoxAt w' s #[.int .i64 en, .int .i64 nu, .int .i64 de, u, .int .i64 re]
  own : OwnInts w' (b + 1) u xs
  ord : r < b ∧ b < s
theorem DrwAt.step {W0 : World} {cv : Value} {w1 w2 : World} {b m r s : Nat} {en nu de re : Int} {u : Value} {xs : List Int} (h : DrwAt W0 cv w1 b m r s en nu de re u xs) (hb : Below w1.heap.size w1 w2) : DrwAt W0 cv w2 b m r s en nu de re u xs :=
  ⟨h.cur.step hb, h.res.below hb, h.box.below hb, OwnI.below h.own hb, h.ord⟩
theorem DrwAt.went {W0 : World} {cv : Value} {w1 w2 : World} {b m m' r s : Nat} {en nu de re : Int} {u : Value} {xs : List Int} (h : DrwAt W0 cv w1 b m r s en nu de re u xs) (k : CurAt W0 cv w2 b m') (t : CurTo b w1 w2) : DrwAt W0 cv w2 b m' r s en nu de re u xs :=
  ⟨k, OutOf.box t h.res (.inl h.ord.1), OutOf.box t h.box (.inr h.ord.2), own_outQ h.own t, h.ord⟩
theorem DrwAt.last {W0 : World} {cv : Value} {w w1 w2 : World} {b m s : Nat} {en nu de re : Int} {u : Value} {xs : List Int} (h : DrwAt W0 cv w1 b m w.heap.size s en nu de re u xs) (hw : Below w.heap.size w W0) (ho : OutOf w.heap.size (w.heap.size + 1) w1 w2) : OwnInts w2 w.heap.size u xs ∧ Below w.heap.size w w2 :=
  ⟨own_base (fin_own2 (lo := w.heap.size) (b := w.heap.size) h.own (Below.refl _ _) ho (by have := h.ord; omega)) (by have := h.ord; omega), (hw.trans (h.cur.below.mono hw.size)).trans (ho.below (Nat.le_refl _) (by have := h.res.1; omega))⟩
theorem ints_cutQ {w : World} {B g n c : Nat} {xs : List Int} (h : OwnInts w B (.slice (some ⟨g, 0, none⟩) n c) xs) {d : Nat} (hd : d ≤ xs.length) : OwnInts w B (.slice (some ⟨g, 0, none⟩) d c) (xs.take d) := by
  have hn : n = xs.length := by
    obtain ⟨_, ao, cp, hv, _⟩ := rowAt_of_own h
    cases hv; rfl
  subst hn
  have h1 := own_cut (m := d) h hd (by simp)
  have h2 : (xs.take d).length = d := by rw [List.length_take]; omega
  unfold OwnInts OwnI
  rw [h2]
  have h3 : (ints xs).take (d * 1) = ints (xs.take d) := by rw [Nat.mul_one]; simp [ints, List.map_take]
  rw [h3] at h1
  exact h1

set_option maxRecDepth 100000 in
set_option maxHeartbeats 4000000 in
theorem draw_ComeIn (cv : Value) (bs : List Int) (w : World) (hv : BytesAt w cv bs) (hl : bs.length ≤ 65537) :
    Calls Try.prog 18 #[cv] w fun e w' => ∃ en nu de u xs re x, e = .returned (.tuple #[vSess en nu de u re, .int .i64 x]) ∧ OwnInts w' w.heap.size u xs ∧ xs.length ≤ 40 ∧ Below w.heap.size w w' := by
  obtain ⟨ao, cap, rfl⟩ := hv.1.form
  obtain ⟨W1, hW1⟩ : ∃ W1, W1 = w.alloc (.cells #[.int .i64 0, .int .i64 0, .int .i64 0, .slice none 0 0, .int .i64 0] 29) := ⟨_, rfl⟩
  have bR : BoxAt W1 w.heap.size #[.int .i64 0, .int .i64 0, .int .i64 0, .slice none 0 0, .int .i64 0] := by rw [hW1]; exact BoxAt.new _ _ _
  have hWb : Below w.heap.size w W1 := by rw [hW1]; exact alQ _ _
  have hWs : W1.heap.size = w.heap.size + 1 := by rw [hW1]; simp
  have HV : Hid (BytesAt W1 (.slice ao bs.length cap) bs) := hv.below hWb
  have hc := cur_new (.slice ao bs.length cap) W1
  have HW1 := Lib.hid hW1; have HWs := Lib.hid hWs; have HWb := Lib.hid hWb
  clear hW1 hWs hv
  go_enter Try.func18, Try.ntmps18
  go_wp2_with fail
  rw [← HW1.out, ← HWs.out]
  have bR2 := bR.below (alQ W1 (.cells #[.slice ao bs.length cap, .int .i64 0, .int .u64 0] 54))
  refine (cur_session W1 _ bs _ 0 _ HV.out hl hc (by omega)).mono ?_
  rintro e w3 ⟨en, nu, de, re, u, xs, rfl, ho, hx, k3, t3⟩
  obtain ⟨au, ku, rfl⟩ := ho.at_.form
  have bR3 := OutOf.box t3 bR2 (.inl bR.1)
  have hs3 := k3.lt
  have D4 : DrwAt W1 (.slice ao bs.length cap) (w3.alloc (.cells #[.int .i64 en, .int .i64 nu, .int .i64 de, .slice au xs.length ku, .int .i64 re] 29)) W1.heap.size (0 + 100) w.heap.size w3.heap.size en nu de re (.slice au xs.length ku) xs :=
    ⟨k3.step (alQ _ _), bR3.below (alQ _ _), BoxAt.new _ _ _, OwnI.below (own_base ho (by simp)) (alQ _ _), bR.1, hs3⟩
  clear hc bR2 ho bR3 k3 t3
  go_upto_region 3 with fail
  generalize (w3.alloc (.cells #[.int .i64 en, .int .i64 nu, .int .i64 de, .slice au xs.length ku, .int .i64 re] 29)) = w4 at D4 ⊢
  generalize w3.heap.size = s at *
  generalize hbq : W1.heap.size = b at *
  have c4 := D4.box.cells
  have hrs := D4.ord
  have hb4 := D4.cur.lt
  have hs4 := D4.box.1
  have hbx : b ≠ w.heap.size := by omega
  have rR4 := D4.res.cells
  have fR4 := D4.res.free
  go_region_law (first
    | ((refine step_call2 (by rfl) 46 (.tmp 14) (.const (.int .i64 24)) _ _ (by rfl) (enters_of Try.func46 (by kernel_rfl) (by kernel_rfl)) _ _ (by rfl) (by rfl) ?_);
       (refine (cur_pick W1 _ bs b _ 24 _ HV.out hl ((D4.step (by first | exact alQ _ _ | exact Below.drew (alQ _ _) | exact Below.drew (Below.refl _ _) | exact Below.refl _ _)).cur) (by omega) (by omega)).mono ?_);
       (rintro e w5 ⟨x, rfl, x0, x1, x2, k5, t5⟩); (refine ⟨_, rfl, ?_⟩); (have x1' := x1 (by omega));
       (have D5 := (D4.step (by first | exact alQ _ _ | exact Below.drew (alQ _ _) | exact Below.drew (Below.refl _ _) | exact Below.refl _ _)).went k5 t5);
       (obtain ⟨d, hd, hd2⟩ : ∃ d : Nat, (6 : Int) + x / 11 = (d : Int) ∧ 6 ≤ d ∧ d ≤ 8 := ⟨(6 + x / 11).toNat, by omega, by omega, by omega⟩);
       (have hwd : IntKind.i64.wrap (6 + IntKind.i64.wrap (x.tdiv 11)) = (d : Int) := by rw [Int.tdiv_eq_ediv_of_nonneg x0, IntWalk.i64_in (x / 11) (by omega), hd, IntWalk.i64_in _ (by omega)]); (have hd0 : (0 : Int) ≤ (d : Int) := by omega); (have hd3 := hd2.2); (have hd1 : (d : Int) ≤ 8 := by omega);
       (have c5 := D5.box.cells); (have rR5 := D5.res.cells); (have fR5 := D5.res.free); (have hb5 := D5.cur.lt); (have hs5 := D5.box.1))
    | ((refine step_call2 (by rfl) 45 (.tmp 12) (.tmp 18) _ _ (by rfl) (enters_of Try.func45 (by kernel_rfl) (by kernel_rfl)) (.pointer (some ⟨b, 0, none⟩)) (.slice (some ⟨w4.heap.size, 0, none⟩) d 8) (by rfl) (by rfl) ?_);
       (refine (cur_among W1 _ bs b _ _ ([1, 2, 3, 5, 9, 30, 0, 31].take d) _ HV.out hl D5.cur (by omega) (own_base (ints_cutQ (own_outQ (World.ownsRow.drew (own_litL w4 3 [1, 2, 3, 5, 9, 30, 0, 31] (by simp))) t5 (by omega)) (d := d) (by simp; omega)) (by omega)) (by simp; omega) (by simp; omega)).mono ?_);
       (rintro e w6 ⟨y, rfl, hy, k6, t6⟩); (refine ⟨_, rfl, ?_⟩);
       (have D6 := D5.went k6 t6);
       (have c6 := D6.box.cells); (have rR6 := D6.res.cells); (have fR6 := D6.res.free); (have hb6 := D6.cur.lt); (have hs6 := D6.box.1))
    | ((refine step_call2 (by rfl) 45 (.tmp 12) (.tmp 18) _ _ (by rfl) (enters_of Try.func45 (by kernel_rfl) (by kernel_rfl)) (.pointer (some ⟨b, 0, none⟩)) (.slice (some ⟨w5.heap.size, 0, none⟩) d 8) (by rfl) (by rfl) ?_);
       (refine (cur_among W1 _ bs b _ _ ([1, 2, 3, 5, 9, 30, 0, 31].take d) _ HV.out hl (D5.step (alQ _ _)).cur (by omega) (own_base (ints_cutQ (own_litL w5 3 [1, 2, 3, 5, 9, 30, 0, 31] (by simp)) (d := d) (by simp; omega)) (by omega)) (by simp; omega) (by simp; omega)).mono ?_);
       (rintro e w6 ⟨y, rfl, hy, k6, t6⟩); (refine ⟨_, rfl, ?_⟩);
       (have D6 := (D5.step (alQ _ _)).went k6 t6);
       (have c6 := D6.box.cells); (have rR6 := D6.res.cells); (have fR6 := D6.res.free); (have hb6 := D6.cur.lt); (have hs6 := D6.box.1)))
  all_goals
    clear c4 rR4 fR4 c5 rR5 fR5 c6
    go_wp2_with fail
    refine bodyPost_ret (v := .tuple #[vSess en nu de (.slice au xs.length ku) re, .int .i64 y]) (by simp [results, Try.results18, go_sem, rR6]) rfl ⟨_, _, _, _, xs, _, _, rfl, ?_⟩
    have hL := fun wf ho => DrwAt.last (w := w) (w2 := wf) D6 HWb.out ho
    refine ⟨(hL _ ?_).1, hx, (hL _ ?_).2⟩
    all_goals repeat (first | with_reducible exact OutOf.refl _ _ _ | with_reducible refine OutOf.drew' ?_ | with_reducible refine OutOf.set ?_ _)

set_option maxRecDepth 100000 in
set_option maxHeartbeats 4000000 in
theorem draw_BeginRecess (cv : Value) (bs : List Int) (w : World) (hv : BytesAt w cv bs) (hl : bs.length ≤ 65537) :
    Calls Try.prog 33 #[cv] w fun e w' => ∃ en nu de u xs re x, e = .returned (.tuple #[vSess en nu de u re, .int .i64 x]) ∧ OwnInts w' w.heap.size u xs ∧ xs.length ≤ 40 ∧ Below w.heap.size w w' := by
  obtain ⟨ao, cap, rfl⟩ := hv.1.form
  obtain ⟨W1, hW1⟩ : ∃ W1, W1 = w.alloc (.cells #[.int .i64 0, .int .i64 0, .int .i64 0, .slice none 0 0, .int .i64 0] 29) := ⟨_, rfl⟩
  have bR : BoxAt W1 w.heap.size #[.int .i64 0, .int .i64 0, .int .i64 0, .slice none 0 0, .int .i64 0] := by rw [hW1]; exact BoxAt.new _ _ _
  have hWb : Below w.heap.size w W1 := by rw [hW1]; exact alQ _ _
  have hWs : W1.heap.size = w.heap.size + 1 := by rw [hW1]; simp
  have HV : Hid (BytesAt W1 (.slice ao bs.length cap) bs) := hv.below hWb
  have hc := cur_new (.slice ao bs.length cap) W1
  have HW1 := Lib.hid hW1; have HWs := Lib.hid hWs; have HWb := Lib.hid hWb
  clear hW1 hWs hv
  go_enter Try.func33, Try.ntmps33
  go_wp2_with fail
  rw [← HW1.out, ← HWs.out]
  have bR2 := bR.below (alQ W1 (.cells #[.slice ao bs.length cap, .int .i64 0, .int .u64 0] 54))
  refine (cur_session W1 _ bs _ 0 _ HV.out hl hc (by omega)).mono ?_
  rintro e w3 ⟨en, nu, de, re, u, xs, rfl, ho, hx, k3, t3⟩
  obtain ⟨au, ku, rfl⟩ := ho.at_.form
  have bR3 := OutOf.box t3 bR2 (.inl bR.1)
  have hs3 := k3.lt
  have D4 : DrwAt W1 (.slice ao bs.length cap) (w3.alloc (.cells #[.int .i64 en, .int .i64 nu, .int .i64 de, .slice au xs.length ku, .int .i64 re] 29)) W1.heap.size (0 + 100) w.heap.size w3.heap.size en nu de re (.slice au xs.length ku) xs :=
    ⟨k3.step (alQ _ _), bR3.below (alQ _ _), BoxAt.new _ _ _, OwnI.below (own_base ho (by simp)) (alQ _ _), bR.1, hs3⟩
  clear hc bR2 ho bR3 k3 t3
  go_upto_region 3 with fail
  generalize (w3.alloc (.cells #[.int .i64 en, .int .i64 nu, .int .i64 de, .slice au xs.length ku, .int .i64 re] 29)) = w4 at D4 ⊢
  generalize w3.heap.size = s at *
  generalize hbq : W1.heap.size = b at *
  have c4 := D4.box.cells
  have hrs := D4.ord
  have hb4 := D4.cur.lt
  have hs4 := D4.box.1
  have hbx : b ≠ w.heap.size := by omega
  have rR4 := D4.res.cells
  have fR4 := D4.res.free
  go_region_law (first
    | ((refine step_call2 (by rfl) 46 (.tmp 14) (.const (.int .i64 24)) _ _ (by rfl) (enters_of Try.func46 (by kernel_rfl) (by kernel_rfl)) _ _ (by rfl) (by rfl) ?_);
       (refine (cur_pick W1 _ bs b _ 24 _ HV.out hl ((D4.step (by first | exact alQ _ _ | exact Below.drew (alQ _ _) | exact Below.drew (Below.refl _ _) | exact Below.refl _ _)).cur) (by omega) (by omega)).mono ?_);
       (rintro e w5 ⟨x, rfl, x0, x1, x2, k5, t5⟩); (refine ⟨_, rfl, ?_⟩); (have x1' := x1 (by omega));
       (have D5 := (D4.step (by first | exact alQ _ _ | exact Below.drew (alQ _ _) | exact Below.drew (Below.refl _ _) | exact Below.refl _ _)).went k5 t5);
       (obtain ⟨d, hd, hd2⟩ : ∃ d : Nat, (3 : Int) + x / 11 = (d : Int) ∧ 3 ≤ d ∧ d ≤ 5 := ⟨(3 + x / 11).toNat, by omega, by omega, by omega⟩);
       (have hwd : IntKind.i64.wrap (3 + IntKind.i64.wrap (x.tdiv 11)) = (d : Int) := by rw [Int.tdiv_eq_ediv_of_nonneg x0, IntWalk.i64_in (x / 11) (by omega), hd, IntWalk.i64_in _ (by omega)]); (have hd0 : (0 : Int) ≤ (d : Int) := by omega); (have hd3 := hd2.2); (have hd1 : (d : Int) ≤ 5 := by omega);
       (have c5 := D5.box.cells); (have rR5 := D5.res.cells); (have fR5 := D5.res.free); (have hb5 := D5.cur.lt); (have hs5 := D5.box.1))
    | ((refine step_call2 (by rfl) 45 (.tmp 12) (.tmp 18) _ _ (by rfl) (enters_of Try.func45 (by kernel_rfl) (by kernel_rfl)) (.pointer (some ⟨b, 0, none⟩)) (.slice (some ⟨w4.heap.size, 0, none⟩) d 5) (by rfl) (by rfl) ?_);
       (refine (cur_among W1 _ bs b _ _ ([1, 600, 1439, 0, 1440].take d) _ HV.out hl D5.cur (by omega) (own_base (ints_cutQ (own_outQ (World.ownsRow.drew (own_litL w4 3 [1, 600, 1439, 0, 1440] (by simp))) t5 (by omega)) (d := d) (by simp; omega)) (by omega)) (by simp; omega) (by simp; omega)).mono ?_);
       (rintro e w6 ⟨y, rfl, hy, k6, t6⟩); (refine ⟨_, rfl, ?_⟩);
       (have D6 := D5.went k6 t6);
       (have c6 := D6.box.cells); (have rR6 := D6.res.cells); (have fR6 := D6.res.free); (have hb6 := D6.cur.lt); (have hs6 := D6.box.1))
    | ((refine step_call2 (by rfl) 45 (.tmp 12) (.tmp 18) _ _ (by rfl) (enters_of Try.func45 (by kernel_rfl) (by kernel_rfl)) (.pointer (some ⟨b, 0, none⟩)) (.slice (some ⟨w5.heap.size, 0, none⟩) d 5) (by rfl) (by rfl) ?_);
       (refine (cur_among W1 _ bs b _ _ ([1, 600, 1439, 0, 1440].take d) _ HV.out hl (D5.step (alQ _ _)).cur (by omega) (own_base (ints_cutQ (own_litL w5 3 [1, 600, 1439, 0, 1440] (by simp)) (d := d) (by simp; omega)) (by omega)) (by simp; omega) (by simp; omega)).mono ?_);
       (rintro e w6 ⟨y, rfl, hy, k6, t6⟩); (refine ⟨_, rfl, ?_⟩);
       (have D6 := (D5.step (alQ _ _)).went k6 t6);
       (have c6 := D6.box.cells); (have rR6 := D6.res.cells); (have fR6 := D6.res.free); (have hb6 := D6.cur.lt); (have hs6 := D6.box.1)))
  all_goals
    clear c4 rR4 fR4 c5 rR5 fR5 c6
    go_wp2_with fail
    refine bodyPost_ret (v := .tuple #[vSess en nu de (.slice au xs.length ku) re, .int .i64 y]) (by simp [results, Try.results33, go_sem, rR6]) rfl ⟨_, _, _, _, xs, _, _, rfl, ?_⟩
    have hL := fun wf ho => DrwAt.last (w := w) (w2 := wf) D6 HWb.out ho
    refine ⟨(hL _ ?_).1, hx, (hL _ ?_).2⟩
    all_goals repeat (first | with_reducible exact OutOf.refl _ _ _ | with_reducible refine OutOf.drew' ?_ | with_reducible refine OutOf.set ?_ _)

set_option maxRecDepth 100000 in
set_option maxHeartbeats 4000000 in
theorem draw_PassMinutes (cv : Value) (bs : List Int) (w : World) (hv : BytesAt w cv bs) (hl : bs.length ≤ 65537) :
    Calls Try.prog 37 #[cv] w fun e w' => ∃ en nu de u xs re x, e = .returned (.tuple #[vSess en nu de u re, .int .i64 x]) ∧ OwnInts w' w.heap.size u xs ∧ xs.length ≤ 40 ∧ Below w.heap.size w w' := by
  obtain ⟨ao, cap, rfl⟩ := hv.1.form
  obtain ⟨W1, hW1⟩ : ∃ W1, W1 = w.alloc (.cells #[.int .i64 0, .int .i64 0, .int .i64 0, .slice none 0 0, .int .i64 0] 29) := ⟨_, rfl⟩
  have bR : BoxAt W1 w.heap.size #[.int .i64 0, .int .i64 0, .int .i64 0, .slice none 0 0, .int .i64 0] := by rw [hW1]; exact BoxAt.new _ _ _
  have hWb : Below w.heap.size w W1 := by rw [hW1]; exact alQ _ _
  have hWs : W1.heap.size = w.heap.size + 1 := by rw [hW1]; simp
  have HV : Hid (BytesAt W1 (.slice ao bs.length cap) bs) := hv.below hWb
  have hc := cur_new (.slice ao bs.length cap) W1
  have HW1 := Lib.hid hW1; have HWs := Lib.hid hWs; have HWb := Lib.hid hWb
  clear hW1 hWs hv
  go_enter Try.func37, Try.ntmps37
  go_wp2_with fail
  rw [← HW1.out, ← HWs.out]
  have bR2 := bR.below (alQ W1 (.cells #[.slice ao bs.length cap, .int .i64 0, .int .u64 0] 54))
  refine (cur_session W1 _ bs _ 0 _ HV.out hl hc (by omega)).mono ?_
  rintro e w3 ⟨en, nu, de, re, u, xs, rfl, ho, hx, k3, t3⟩
  obtain ⟨au, ku, rfl⟩ := ho.at_.form
  have bR3 := OutOf.box t3 bR2 (.inl bR.1)
  have hs3 := k3.lt
  have D4 : DrwAt W1 (.slice ao bs.length cap) (w3.alloc (.cells #[.int .i64 en, .int .i64 nu, .int .i64 de, .slice au xs.length ku, .int .i64 re] 29)) W1.heap.size (0 + 100) w.heap.size w3.heap.size en nu de re (.slice au xs.length ku) xs :=
    ⟨k3.step (alQ _ _), bR3.below (alQ _ _), BoxAt.new _ _ _, OwnI.below (own_base ho (by simp)) (alQ _ _), bR.1, hs3⟩
  clear hc bR2 ho bR3 k3 t3
  go_upto_region 3 with fail
  generalize (w3.alloc (.cells #[.int .i64 en, .int .i64 nu, .int .i64 de, .slice au xs.length ku, .int .i64 re] 29)) = w4 at D4 ⊢
  generalize w3.heap.size = s at *
  generalize hbq : W1.heap.size = b at *
  have c4 := D4.box.cells
  have hrs := D4.ord
  have hb4 := D4.cur.lt
  have hs4 := D4.box.1
  have hbx : b ≠ w.heap.size := by omega
  have rR4 := D4.res.cells
  have fR4 := D4.res.free
  go_region_law (first
    | ((refine step_call2 (by rfl) 46 (.tmp 14) (.const (.int .i64 24)) _ _ (by rfl) (enters_of Try.func46 (by kernel_rfl) (by kernel_rfl)) _ _ (by rfl) (by rfl) ?_);
       (refine (cur_pick W1 _ bs b _ 24 _ HV.out hl ((D4.step (by first | exact alQ _ _ | exact Below.drew (alQ _ _) | exact Below.drew (Below.refl _ _) | exact Below.refl _ _)).cur) (by omega) (by omega)).mono ?_);
       (rintro e w5 ⟨x, rfl, x0, x1, x2, k5, t5⟩); (refine ⟨_, rfl, ?_⟩); (have x1' := x1 (by omega));
       (have D5 := (D4.step (by first | exact alQ _ _ | exact Below.drew (alQ _ _) | exact Below.drew (Below.refl _ _) | exact Below.refl _ _)).went k5 t5);
       (obtain ⟨d, hd, hd2⟩ : ∃ d : Nat, (6 : Int) + x / 11 = (d : Int) ∧ 6 ≤ d ∧ d ≤ 8 := ⟨(6 + x / 11).toNat, by omega, by omega, by omega⟩);
       (have hwd : IntKind.i64.wrap (6 + IntKind.i64.wrap (x.tdiv 11)) = (d : Int) := by rw [Int.tdiv_eq_ediv_of_nonneg x0, IntWalk.i64_in (x / 11) (by omega), hd, IntWalk.i64_in _ (by omega)]); (have hd0 : (0 : Int) ≤ (d : Int) := by omega); (have hd3 := hd2.2); (have hd1 : (d : Int) ≤ 8 := by omega);
       (have c5 := D5.box.cells); (have rR5 := D5.res.cells); (have fR5 := D5.res.free); (have hb5 := D5.cur.lt); (have hs5 := D5.box.1))
    | ((refine step_call2 (by rfl) 45 (.tmp 12) (.tmp 18) _ _ (by rfl) (enters_of Try.func45 (by kernel_rfl) (by kernel_rfl)) (.pointer (some ⟨b, 0, none⟩)) (.slice (some ⟨w4.heap.size, 0, none⟩) d 8) (by rfl) (by rfl) ?_);
       (refine (cur_among W1 _ bs b _ _ ([0, 1, 599, 600, 601, 1439, -1, 1440].take d) _ HV.out hl D5.cur (by omega) (own_base (ints_cutQ (own_outQ (World.ownsRow.drew (own_litL w4 3 [0, 1, 599, 600, 601, 1439, -1, 1440] (by simp))) t5 (by omega)) (d := d) (by simp; omega)) (by omega)) (by simp; omega) (by simp; omega)).mono ?_);
       (rintro e w6 ⟨y, rfl, hy, k6, t6⟩); (refine ⟨_, rfl, ?_⟩);
       (have D6 := D5.went k6 t6);
       (have c6 := D6.box.cells); (have rR6 := D6.res.cells); (have fR6 := D6.res.free); (have hb6 := D6.cur.lt); (have hs6 := D6.box.1))
    | ((refine step_call2 (by rfl) 45 (.tmp 12) (.tmp 18) _ _ (by rfl) (enters_of Try.func45 (by kernel_rfl) (by kernel_rfl)) (.pointer (some ⟨b, 0, none⟩)) (.slice (some ⟨w5.heap.size, 0, none⟩) d 8) (by rfl) (by rfl) ?_);
       (refine (cur_among W1 _ bs b _ _ ([0, 1, 599, 600, 601, 1439, -1, 1440].take d) _ HV.out hl (D5.step (alQ _ _)).cur (by omega) (own_base (ints_cutQ (own_litL w5 3 [0, 1, 599, 600, 601, 1439, -1, 1440] (by simp)) (d := d) (by simp; omega)) (by omega)) (by simp; omega) (by simp; omega)).mono ?_);
       (rintro e w6 ⟨y, rfl, hy, k6, t6⟩); (refine ⟨_, rfl, ?_⟩);
       (have D6 := (D5.step (alQ _ _)).went k6 t6);
       (have c6 := D6.box.cells); (have rR6 := D6.res.cells); (have fR6 := D6.res.free); (have hb6 := D6.cur.lt); (have hs6 := D6.box.1)))
  all_goals
    clear c4 rR4 fR4 c5 rR5 fR5 c6
    go_wp2_with fail
    refine bodyPost_ret (v := .tuple #[vSess en nu de (.slice au xs.length ku) re, .int .i64 y]) (by simp [results, Try.results37, go_sem, rR6]) rfl ⟨_, _, _, _, xs, _, _, rfl, ?_⟩
    have hL := fun wf ho => DrwAt.last (w := w) (w2 := wf) D6 HWb.out ho
    refine ⟨(hL _ ?_).1, hx, (hL _ ?_).2⟩
    all_goals repeat (first | with_reducible exact OutOf.refl _ _ _ | with_reducible refine OutOf.drew' ?_ | with_reducible refine OutOf.set ?_ _)

set_option maxRecDepth 100000 in
set_option maxHeartbeats 2000000 in
theorem draw_DrawGoOut (cv : Value) (bs : List Int) (w : World) (hv : BytesAt w cv bs) (hl : bs.length ≤ 65537) :
    Calls Try.prog 24 #[cv] w fun e w' => ∃ en nu de u xs re x, e = .returned (.tuple #[vSess en nu de u re, .int .i64 x]) ∧ OwnInts w' w.heap.size u xs ∧ xs.length ≤ 40 ∧ Below w.heap.size w w' := by
  obtain ⟨ao, cap, rfl⟩ := hv.1.form
  obtain ⟨W1, hW1⟩ : ∃ W1, W1 = w.alloc (.cells #[.int .i64 0, .int .i64 0, .int .i64 0, .slice none 0 0, .int .i64 0] 29) := ⟨_, rfl⟩
  have bR : BoxAt W1 w.heap.size #[.int .i64 0, .int .i64 0, .int .i64 0, .slice none 0 0, .int .i64 0] := by rw [hW1]; exact BoxAt.new _ _ _
  have hWb : Below w.heap.size w W1 := by rw [hW1]; exact alQ _ _
  have HQ := Lib.hid (draw_ComeIn (.slice ao bs.length cap) bs W1 (hv.below hWb) hl)
  have HW1 := Lib.hid hW1; have HWb := Lib.hid hWb
  clear hW1 hv
  go_enter Try.func24, Try.ntmps24
  go_wp2_with fail
  rw [← HW1.out]
  refine HQ.out.mono ?_
  rintro e w2 ⟨en, nu, de, u, xs, re, x, rfl, ho, hx, hb⟩
  obtain ⟨au, ku, rfl⟩ := ho.at_.form
  have bR2 := bR.below hb
  have rR := bR2.cells
  have fR := bR2.free
  go_wp2_with fail
  refine bodyPost_ret (v := .tuple #[vSess en nu de (.slice au xs.length ku) re, .int .i64 x]) (by simp [results, Try.results24, go_sem, rR]) rfl ⟨_, _, _, _, xs, _, _, rfl, ?_⟩
  have hL : ∀ wf, OutOf w.heap.size (w.heap.size + 1) w2 wf → OwnInts wf w.heap.size (.slice au xs.length ku) xs ∧ Below w.heap.size w wf := fun wf hf =>
    ⟨own_base (fin_own2 (lo := w.heap.size) (b := w.heap.size) ho (Below.refl _ _) hf bR.1) HWb.out.size, (HWb.out.trans (hb.mono HWb.out.size)).trans (hf.below (Nat.le_refl _) (by have := bR2.1; omega))⟩
  refine ⟨(hL _ ?_).1, hx, (hL _ ?_).2⟩
  all_goals repeat (first | with_reducible exact OutOf.refl _ _ _ | with_reducible refine OutOf.set ?_ _)

set_option maxRecDepth 100000 in
set_option maxHeartbeats 2000000 in
theorem draw_IsValid (cv : Value) (bs : List Int) (w : World) (hv : BytesAt w cv bs) (hl : bs.length ≤ 65537) :
    Calls Try.prog 58 #[cv] w fun e w' => ∃ en nu de u xs re, e = .returned (vSess en nu de u re) ∧ OwnInts w' w.heap.size u xs ∧ xs.length ≤ 40 ∧ Below w.heap.size w w' := by
  obtain ⟨ao, cap, rfl⟩ := hv.1.form
  obtain ⟨W1, hW1⟩ : ∃ W1, W1 = w.alloc (.cells #[.int .i64 0, .int .i64 0, .int .i64 0, .slice none 0 0, .int .i64 0] 29) := ⟨_, rfl⟩
  have bR : BoxAt W1 w.heap.size #[.int .i64 0, .int .i64 0, .int .i64 0, .slice none 0 0, .int .i64 0] := by rw [hW1]; exact BoxAt.new _ _ _
  have hWb : Below w.heap.size w W1 := by rw [hW1]; exact alQ _ _
  have hWs : W1.heap.size = w.heap.size + 1 := by rw [hW1]; simp
  have HV : Hid (BytesAt W1 (.slice ao bs.length cap) bs) := hv.below hWb
  have hc := cur_new (.slice ao bs.length cap) W1
  have bR2 := bR.below (alQ W1 (.cells #[.slice ao bs.length cap, .int .i64 0, .int .u64 0] 54))
  have HW1 := Lib.hid hW1; have HWs := Lib.hid hWs; have HWb := Lib.hid hWb
  clear hW1 hWs hv
  go_enter Try.func58, Try.ntmps58
  go_wp2_with fail
  rw [← HW1.out, ← HWs.out]
  refine (cur_session W1 _ bs _ 0 _ HV.out hl hc (by omega)).mono ?_
  rintro e w3 ⟨en, nu, de, re, u, xs, rfl, ho, hx, k3, t3⟩
  obtain ⟨au, ku, rfl⟩ := ho.at_.form
  have bR3 := OutOf.box t3 bR2 (.inl bR.1)
  have rR := bR3.cells
  have fR := bR3.free
  have hs1 := bR.1
  have hb3 : Below w.heap.size w w3 := HWb.out.trans (k3.below.mono HWb.out.size)
  go_wp2_with fail
  refine bodyPost_ret (v := vSess en nu de (.slice au xs.length ku) re) (by simp [results, Try.results58, go_sem, rR]) rfl ⟨_, _, _, _, xs, _, rfl, ?_⟩
  have hL : ∀ wf, OutOf w.heap.size (w.heap.size + 1) w3 wf → OwnInts wf w.heap.size (.slice au xs.length ku) xs ∧ Below w.heap.size w wf := fun wf hf =>
    ⟨own_base (fin_own2 (lo := w.heap.size) (b := w.heap.size) ho (Below.refl _ _) hf (by simp; omega)) (by simp; omega), hb3.trans (hf.below (Nat.le_refl _) hb3.size)⟩
  refine ⟨(hL _ ?_).1, hx, (hL _ ?_).2⟩
  all_goals repeat (first | with_reducible exact OutOf.refl _ _ _ | with_reducible refine OutOf.set ?_ _)

set_option maxRecDepth 100000 in
set_option maxHeartbeats 2000000 in
theorem draw_Missing (cv : Value) (bs : List Int) (w : World) (hv : BytesAt w cv bs) (hl : bs.length ≤ 65537) :
    Calls Try.prog 26 #[cv] w fun e w' => ∃ en nu de u xs re, e = .returned (vSess en nu de u re) ∧ OwnInts w' w.heap.size u xs ∧ xs.length ≤ 40 ∧ Below w.heap.size w w' := by
  obtain ⟨ao, cap, rfl⟩ := hv.1.form
  obtain ⟨W1, hW1⟩ : ∃ W1, W1 = w.alloc (.cells #[.int .i64 0, .int .i64 0, .int .i64 0, .slice none 0 0, .int .i64 0] 29) := ⟨_, rfl⟩
  have bR : BoxAt W1 w.heap.size #[.int .i64 0, .int .i64 0, .int .i64 0, .slice none 0 0, .int .i64 0] := by rw [hW1]; exact BoxAt.new _ _ _
  have hWb : Below w.heap.size w W1 := by rw [hW1]; exact alQ _ _
  have HQ := Lib.hid (draw_IsValid (.slice ao bs.length cap) bs W1 (hv.below hWb) hl)
  have HW1 := Lib.hid hW1; have HWb := Lib.hid hWb
  clear hW1 hv
  go_enter Try.func26, Try.ntmps26
  go_wp2_with fail
  rw [← HW1.out]
  refine HQ.out.mono ?_
  rintro e w2 ⟨en, nu, de, u, xs, re, rfl, ho, hx, hb⟩
  obtain ⟨au, ku, rfl⟩ := ho.at_.form
  have bR2 := bR.below hb
  have rR := bR2.cells
  have fR := bR2.free
  go_wp2_with fail
  refine bodyPost_ret (v := vSess en nu de (.slice au xs.length ku) re) (by simp [results, Try.results26, go_sem, rR]) rfl ⟨_, _, _, _, xs, _, rfl, ?_⟩
  have hL : ∀ wf, OutOf w.heap.size (w.heap.size + 1) w2 wf → OwnInts wf w.heap.size (.slice au xs.length ku) xs ∧ Below w.heap.size w wf := fun wf hf =>
    ⟨own_base (fin_own2 (lo := w.heap.size) (b := w.heap.size) ho (Below.refl _ _) hf bR.1) HWb.out.size, (HWb.out.trans (hb.mono HWb.out.size)).trans (hf.below (Nat.le_refl _) (by have := bR2.1; omega))⟩
  refine ⟨(hL _ ?_).1, hx, (hL _ ?_).2⟩
  all_goals repeat (first | with_reducible exact OutOf.refl _ _ _ | with_reducible refine OutOf.set ?_ _)

end Go.Proofs.Ytflkijklipkneaa
