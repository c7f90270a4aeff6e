/- Contracts: draws of votes and seats. Condition: fewer than a thousand million choices. -/
import Derived.Test.YtokjamdikenkoaaCur
import Derived.Test.YtokjamdikenkoaaPush
import Derived.Test.YtokjamdikenkoaaDelete
namespace Go.Proofs.Ytokjamdikenkoaa
open Go.RowKit
set_option linter.unusedVariables false
set_option linter.unusedSimpArgs false

theorem own_litL (w : World) (e : TypeId) (xs : List Int) (hn : xs.length ≤ 1000) : OwnI e (w.alloc (.cells (ints xs).toArray e)) w.heap.size (.slice (some ⟨w.heap.size, 0, none⟩) xs.length xs.length) xs := by
  have h := World.ownsRow_lit (base := w.heap.size) (e := e) (size := 1) w (ints xs).toArray xs.length (Nat.le_refl _) (by unfold maxLen; omega) (by simp)
  simpa [OwnI] using h
theorem alQ (w : World) (o : Obj) : Below w.heap.size w (w.alloc o) := (Below.refl _ _).alloc (Nat.le_refl _) _
theorem curTo_of {b : Nat} {w w' : World} (h : Below w.heap.size w w') : CurTo b w w' := OutOf.of_below h
theorem curTo_grown {b B : Nat} {w0 w w' : World} {row : Option Nat} (h : CurTo b w0 w) (hg : w.grownBy w' row) (hr : ∀ k, row = some k → w0.heap.size ≤ k) : CurTo b w0 w' :=
  ⟨hg.os.trans h.os, hg.tape.trans h.tape, hg.output.trans h.output, Nat.le_trans h.size hg.size, fun k hk ho => (hg.block k (Nat.lt_of_lt_of_le hk h.size) (fun e => by have := hr k e.symm; omega)).trans (h.block k hk ho)⟩
theorem curTo_below {b : Nat} {w0 w w' : World} (h : CurTo b w0 w) (hb : Below w0.heap.size w w') : CurTo b w0 w' :=
  ⟨hb.os.trans h.os, hb.tape.trans h.tape, hb.output.trans h.output, Nat.le_trans h.size hb.size, fun k hk ho => (hb.block k hk).trans (h.block k hk ho)⟩
theorem CurAt.keep {W0 : World} {cv : Value} {b m B : Nat} {w w' : World} (h : CurAt W0 cv w b m) (hb : Below B w w') (hB : b < B) : CurAt W0 cv w' b m := by
  obtain ⟨h1, h2, a, s, h3, h4⟩ := h
  refine ⟨h1, h2.trans (hb.mono (by omega)), a, s, ⟨by have := hb.size; have := h3.1; omega, fun i => (hb.cell (p := ⟨b, i, none⟩) hB).trans (h3.2.1 i), fun i => (hb.frozen (p := ⟨b, i, none⟩) hB).trans (h3.2.2 i)⟩, h4⟩

def slenQ : Value → Nat | .slice _ n _ => n | _ => 0
set_option maxHeartbeats 4000000 in
theorem cur_voteList (W0 : World) (cv : Value) (bs : List Int) (b m : Nat) (w : World) (hv : BytesAt W0 cv bs) (hl : bs.length ≤ 65537) (h : CurAt W0 cv w b m) (hm : m ≤ 800000000) :
    Calls Try.prog 41 #[.pointer (some ⟨b, 0, none⟩)] w fun e w' => ∃ u xs, e = .returned u ∧ OwnInts w' w.heap.size u xs ∧ xs.length ≤ 20 ∧ CurAt W0 cv w' b (m + 70) ∧ CurTo b w w' := by
  have hbw := h.lt
  have hbB : b + 1 ≤ w.heap.size := hbw
  have hlit := own_lit0 w 3
  have h0 := h.step (alQ w (.cells #[] 3))
  have HV := Lib.hid hv; clear hv
  go_enter Try.func41, Try.ntmps41
  go_wp2_with fail
  refine (cur_pick W0 cv bs b m 6 _ HV.out hl h0 (by omega) (by omega)).mono ?_
  rintro e w1 ⟨x, rfl, x0, x1, x2, k1, t1⟩
  have x1' := x1 (by omega)
  obtain ⟨k, rfl⟩ : ∃ k : Nat, x = k := ⟨x.toNat, by omega⟩
  have ho1 : OwnInts w1 w.heap.size (.slice (some ⟨w.heap.size, 0, none⟩) 0 0) [] := own_outQ hlit t1 hbB
  have T1 : CurTo b w w1 := (curTo_of (alQ w _)).trans t1
  have hk1 : (1 : Int) + (k : Int) = (k : Int) + 1 := by omega
  have HK1 := Lib.hid hk1
  clear x1 x2 hlit h0 t1 hk1
  go_wp2_with fail
  rw [HK1.out]
  go_loopw [3, 4] (fun u i wr => ∃ (xs : List Int) (j : Nat), xs.length + j ≤ 6 ∧ i = .int .i64 j ∧ OwnInts wr w.heap.size u xs ∧ CurAt W0 cv wr b (m + 2 + 2 * xs.length) ∧ CurTo b w wr) (fun _ i _ => (intOf i).toNat)
  case atStart => exact ⟨[], k + 1, by simp; omega, by go_num, ho1, k1, T1⟩
  case round =>
    rename World => wa
    clear ho1 k1 T1
    obtain ⟨xs, j, hj, rfl, ho, hc, ht⟩ := hrel
    by_cases hj0 : 0 < j
    · go_wp2_with (first
        | (go_at_call 56; refine (cur_among W0 cv bs b _ _ [0, 1, 2, 5, 50, 53, 100, 480, 10000] _ HV.out hl (hc.step (alQ _ _)) (by omega) (own_base (own_litL _ 3 [0, 1, 2, 5, 50, 53, 100, 480, 10000] (by simp)) (by have := ht.size; omega)) (by simp) (by simp)).mono ?_; rintro e w1 ⟨y, rfl, hy, k1, t1⟩; have T1 := ht.trans ((curTo_of (alQ _ _)).trans t1); have ho1 := own_outQ (OwnI.below ho (alQ _ _)) t1 hbB)
        | (at_builtin; refine wpList_push_int rfl (.tmp 13) (.tmp 17) _ rfl _ 3 _ int_info Try.underlying22 _ xs y rfl ho1 rfl T1.size (by omega) ?_; intro u3 w3 ho3 hb3; have k3 := k1.keep hb3 hbw; have T3 := curTo_below T1 hb3))
      go_roundw
      case rel => exact ⟨xs ++ [y], j - 1, by simp; omega, by congr 1; omega, ho3, k3.more (by simp; omega), T3⟩
      case measure => simp [intOf]; omega
    · obtain rfl : j = 0 := by omega
      go_wp2_with fail
      refine (cur_pick W0 cv bs b _ 30 _ HV.out hl hc (by omega) (by omega)).mono ?_
      rintro e w4 ⟨x, rfl, x0, x1, x2, k4, t4⟩
      have T4 := ht.trans t4
      have ho4 := own_outQ ho t4 hbB
      clear hc ho ht t4
      by_cases c0 : x = 0
      · subst c0
        go_wp2_with (first
        | (go_at_call 56; refine (cur_among W0 cv bs b _ _ [-1, 10001] _ HV.out hl (k4.step (alQ _ _)) (by omega) (own_base (own_litL _ 3 [-1, 10001] (by simp)) (by have := T4.size; omega)) (by simp) (by simp)).mono ?_; rintro e w1 ⟨y, rfl, hy, k1, t1⟩; have T1 := T4.trans ((curTo_of (alQ _ _)).trans t1); have ho1 := own_outQ (OwnI.below ho4 (alQ _ _)) t1 hbB)
        | (at_builtin; refine wpList_push_int rfl (.tmp 23) (.tmp 27) _ rfl _ 3 _ int_info Try.underlying22 _ xs y rfl ho1 rfl T1.size (by omega) ?_; intro u3 w3 ho3 hb3; have k3 := k1.keep hb3 hbw; have T3 := curTo_below T1 hb3))
        go_ret
        exact ⟨_, _, rfl, ho3, by simp; omega, k3.more (by omega), T3⟩
      · by_cases c1 : x = 1
        · subst c1
          go_wp2_with fail
          go_loopw [3] (fun u wr => ∃ (ys : List Int), ys.length ≤ 9 ∧ OwnInts wr w.heap.size u ys ∧ CurAt W0 cv wr b (m + 40 + 2 * ys.length) ∧ CurTo b w wr ∧ ∃ a k, u = .slice a ys.length k) (fun u _ => 9 - slenQ u)
          case atStart => exact ⟨xs, by omega, ho4, k4.more (by omega), T4, OwnI.at_ ho4 |>.form⟩
          case round =>
            rename World => wb
            obtain ⟨ys, hy9, ho5, k5, T5, a5, c5, rfl⟩ := hrel
            go_wp2_with fail
            refine (cur_pick W0 cv bs b _ 2 _ HV.out hl k5 (by omega) (by omega)).mono ?_
            rintro e w6 ⟨z, rfl, z0, z1, z2, k6, t6⟩
            have z1' := z1 (by omega)
            have T6 := T5.trans t6
            have ho6 := own_outQ ho5 t6 hbB
            by_cases hlt : (ys.length : Int) < 8 + z
            · go_wp2_with (at_builtin; refine wpList_push_int rfl (.tmp 37) (.tmp 38) _ rfl _ 3 _ int_info Try.underlying22 _ ys 7 rfl ho6 rfl T6.size (by omega) ?_; intro u7 w7 ho7 hb7; have k7 := k6.keep hb7 hbw; have T7 := curTo_below T6 hb7; obtain ⟨a7, c7, hu7⟩ := ho7.at_.form; rw [List.length_append, List.length_singleton] at hu7; subst hu7)
              go_roundw
              case rel => exact ⟨ys ++ [7], by simp; omega, ho7, k7.more (by simp; omega), T7, _, _, by rw [List.length_append, List.length_singleton]⟩
              case measure => simp only [slenQ]; omega
            · go_wp2_with fail
              go_ret
              exact ⟨_, ys, rfl, ho6, by omega, k6.more (by omega), T6⟩
        · by_cases c2 : x = 2
          · subst c2
            obtain ⟨a4, k4', hu4⟩ := (OwnI.at_ ho4).form
            subst hu4
            have hcut : OwnInts w4 w.heap.size (.slice a4 0 k4') [] := by
              cases a4 with
              | none =>
                rcases ho4.2 with ⟨hv0, _⟩ | ⟨g, cap, cur, hv1, _⟩
                · injection hv0 with e1 e2 e3
                  subst e3
                  exact World.ownsRow_nil _ _ 3 1
                · injection hv1 with e1 e2 e3; cases e1
              | some ad => exact own_cut (m := 0) ho4 (Nat.zero_le _) (by simp)
            go_wp2_with fail
            go_ret
            exact ⟨_, [], rfl, hcut, by simp, k4.more (by omega), T4⟩
          · go_wp2_with fail
            go_ret
            exact ⟨_, xs, rfl, ho4, by omega, k4.more (by omega), T4⟩

set_option maxHeartbeats 1000000 in
theorem cur_seats (W0 : World) (cv : Value) (bs : List Int) (b m : Nat) (w : World) (hv : BytesAt W0 cv bs) (hl : bs.length ≤ 65537) (h : CurAt W0 cv w b m) (hm : m ≤ 800000000) :
    Calls Try.prog 42 #[.pointer (some ⟨b, 0, none⟩)] w fun e w' => ∃ x : Int, e = .returned (.int .i64 x) ∧ -1 ≤ x ∧ x ≤ 51 ∧ CurAt W0 cv w' b (m + 4) ∧ CurTo b w w' := by
  have hbw := h.lt
  have hbB : b + 1 ≤ w.heap.size := hbw
  have hlit := own_litL w 3 [0, 1, 2, 5, 10, 25, 49, 50, -1, 51] (by simp)
  have h0 := h.step (alQ w (.cells (ints [0, 1, 2, 5, 10, 25, 49, 50, -1, 51]).toArray 3))
  have HV := Lib.hid hv; clear hv
  go_enter Try.func42, Try.ntmps42
  go_wp2_with fail
  refine (cur_pick W0 cv bs b m 24 _ HV.out hl h0 (by omega) (by omega)).mono ?_
  rintro e w1 ⟨x, rfl, x0, x1, x2, k1, t1⟩
  have x1' := x1 (by omega)
  have ho1 := own_outQ hlit t1 hbB
  obtain ⟨d, hd, hd2⟩ : ∃ d : Nat, (8 : Int) + x / 11 = (d : Int) ∧ 8 ≤ d ∧ d ≤ 10 := ⟨(8 + x / 11).toNat, by omega, by omega, by omega⟩
  have hcut : OwnInts w1 w.heap.size (.slice (some ⟨w.heap.size, 0, none⟩) d 10) ([0, 1, 2, 5, 10, 25, 49, 50, -1, 51].take d) := by
    have h1 := own_cut (m := d) ho1 (by simp; omega) (by simp)
    have h2 : ([0, 1, 2, 5, 10, 25, 49, 50, -1, 51].take d : List Int).length = d := by simp; omega
    unfold OwnInts OwnI
    rw [h2]
    have h3 : (ints [0, 1, 2, 5, 10, 25, 49, 50, -1, 51]).take (d * 1) = ints ([0, 1, 2, 5, 10, 25, 49, 50, -1, 51].take d) := by rw [Nat.mul_one]; simp [ints, List.map_take]
    rw [h3] at h1
    exact h1
  have hd0 : (0 : Int) ≤ (d : Int) := by omega
  have hd1 : (d : Int) ≤ 10 := by omega
  have T1 : CurTo b w w1 := (curTo_of (alQ w _)).trans t1
  clear ho1 hlit
  go_wp2_with (go_at_call 56; refine (cur_among W0 cv bs b _ _ ([0, 1, 2, 5, 10, 25, 49, 50, -1, 51].take d) _ HV.out hl k1 (by omega) (own_base hcut hbB) (by simp; omega) (by simp; omega)).mono ?_; rintro e w2 ⟨y, rfl, hy, k2, t2⟩)
  have hy2 : y ∈ ([0, 1, 2, 5, 10, 25, 49, 50, -1, 51] : List Int) := List.mem_of_mem_take hy
  simp only [List.mem_cons, List.not_mem_nil, or_false] at hy2
  go_ret
  exact ⟨y, rfl, by omega, by omega, k2.more (by omega), T1.trans t2⟩

theorem cur_new (cv : Value) (w : World) : CurAt w cv (w.alloc (.cells #[cv, .int .i64 0, .int .u64 0] 51)) w.heap.size 0 :=
  ⟨Nat.le_refl _, alQ _ _, 0, 0, BoxAt.new _ _ _, by omega, by omega, by omega⟩

set_option maxHeartbeats 1000000 in
theorem draw_votesSeats (cv : Value) (bs : List Int) (w : World) (hv : BytesAt w cv bs) (hl : bs.length ≤ 65537) :
    Calls Try.prog 16 #[cv] w fun e w' => ∃ u xs s, e = .returned (.tuple #[u, .int .i64 s]) ∧ OwnInts w' w.heap.size u xs ∧ xs.length ≤ 20 ∧ -1 ≤ s ∧ s ≤ 51 ∧ Below w.heap.size w w' := by
  have hc := cur_new cv w
  obtain ⟨ao, cap, rfl⟩ := hv.1.form
  have HV := Lib.hid hv; clear hv
  go_enter Try.func16, Try.ntmps16
  go_wp2_with fail
  refine (cur_voteList w _ bs _ 0 _ HV.out hl hc (by omega)).mono ?_
  rintro e w1 ⟨u, xs, rfl, ho, hx, k1, t1⟩
  obtain ⟨au, ku, rfl⟩ := ho.at_.form
  go_wp2_with fail
  refine (cur_seats w _ bs _ _ _ HV.out hl k1 (by omega)).mono ?_
  rintro e w2 ⟨s, rfl, s0, s1, k2, t2⟩
  have ho2 := own_outQ ho t2 (by simp)
  go_wp2_with fail
  go_ret2
  exact ⟨_, xs, s, rfl, own_base ho2 (by simp), hx, s0, s1, k2.below⟩

end Go.Proofs.Ytokjamdikenkoaa
