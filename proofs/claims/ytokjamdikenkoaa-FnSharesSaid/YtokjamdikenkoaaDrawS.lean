/- Contracts: draws of chapter 14. Condition: fewer than a thousand million choices. -/
import Derived.Test.YtokjamdikenkoaaDrawV
import Derived.Test.YtokjamdikenkoaaSeats
import Derived.Test.YtokjamdikenkoaaNestM
import Derived.Test.YtokjamdikenkoaaRankM
namespace Go.Proofs.Ytokjamdikenkoaa
open Go.RowKit
set_option linter.unusedVariables false
set_option linter.unusedSimpArgs false

theorem draw_lastSeat (cv : Value) (bs : List Int) (w : World) (hv : BytesAt w cv bs) (hl : bs.length ≤ 65537) :
    Calls Try.prog 35 #[cv] w fun e w' => ∃ u xs s, e = .returned (.tuple #[u, .int .i64 s]) ∧ OwnInts w' w.heap.size u xs ∧ xs.length ≤ 20 ∧ -1 ≤ s ∧ s ≤ 51 ∧ Below w.heap.size w w' := by
  obtain ⟨ao, cap, rfl⟩ := hv.1.form
  have HQ := Lib.hid (draw_votesSeats _ bs w hv hl)
  go_enter Try.func35, Try.ntmps35
  go_wp2_with fail
  refine HQ.out.mono ?_
  rintro e w1 ⟨u, xs, s, rfl, ho, hx, s0, s1, hb⟩
  obtain ⟨au, ku, rfl⟩ := ho.at_.form
  go_wp2_with fail
  go_ret2
  exact ⟨_, xs, s, rfl, ho, hx, s0, s1, hb⟩

set_option maxHeartbeats 1000000 in
theorem draw_exactShare (cv : Value) (bs : List Int) (w : World) (hv : BytesAt w cv bs) (hl : bs.length ≤ 65537) :
    Calls Try.prog 26 #[cv] w fun e w' => ∃ u xs s g, e = .returned (.tuple #[u, .int .i64 s, .int .i64 g]) ∧ OwnInts w' w.heap.size u xs ∧ xs.length ≤ 20 ∧ -1 ≤ s ∧ s ≤ 51 ∧ -1 ≤ g ∧ g ≤ 21 ∧ Below w.heap.size w w' := by
  have hc := cur_new cv w
  obtain ⟨ao, cap, rfl⟩ := hv.1.form
  have HV := Lib.hid hv; clear hv
  go_enter Try.func26, Try.ntmps26
  go_wp2_with fail
  refine (cur_voteList w _ bs _ 0 _ HV.out hl hc (by omega)).mono ?_
  rintro e w1 ⟨u, xs, rfl, ho, hx, k1, t1⟩
  obtain ⟨au, ku, rfl⟩ := ho.at_.form
  go_wp2_with fail
  refine (cur_seats w _ bs _ _ _ HV.out hl k1 (by omega)).mono ?_
  rintro e w2 ⟨s, rfl, s0, s1, k2, t2⟩
  have ho2 := own_outQ ho t2 (by simp)
  go_wp2_with fail
  refine (cur_pick w _ bs _ _ ((xs.length : Int) + 1) _ HV.out hl k2 (by omega) (by omega)).mono ?_
  rintro e w3 ⟨x, rfl, x0, x1, x2, k3, t3⟩
  have x1' := x1 (by omega)
  have ho3 := own_outQ ho2 t3 (by simp)
  go_wp2_with fail
  refine (cur_pick w _ bs _ _ 16 _ HV.out hl k3 (by omega) (by omega)).mono ?_
  rintro e w4 ⟨y, rfl, y0, y1, y2, k4, t4⟩
  have y1' := y1 (by omega)
  have ho4 := own_outQ ho3 t4 (by simp)
  go_wp2_with fail
  go_ret3
  exact ⟨_, xs, s, x - y / 15, rfl, own_base ho4 (by simp), hx, s0, s1, by omega, by omega, k4.below⟩

set_option maxHeartbeats 4000000 in
theorem draw_fewest (cv : Value) (bs : List Int) (w : World) (hv : BytesAt w cv bs) (hl : bs.length ≤ 65537) :
    Calls Try.prog 32 #[cv] w fun e w' => ∃ u xs, e = .returned u ∧ OwnInts w' w.heap.size u xs ∧ xs.length ≤ 20 ∧ Below w.heap.size w w' := by
  obtain ⟨W0, hW0⟩ : ∃ W0, W0 = w := ⟨_, rfl⟩
  obtain ⟨b, hb⟩ : ∃ b, b = w.heap.size := ⟨_, rfl⟩
  have hc := cur_new cv w
  obtain ⟨W, hW⟩ : ∃ W, W = w.alloc (.cells #[cv, .int .i64 0, .int .u64 0] 51) := ⟨_, rfl⟩
  rw [← hW, ← hb] at hc
  have hbw : b < W.heap.size := hc.lt
  have hbB : b + 1 ≤ W.heap.size := hbw
  have hBW0 : W.heap.size = b + 1 := by rw [hW, hb]; simp
  have hlit := own_lit0 W 3
  rw [hBW0] at hlit
  have hBW : Hid (b + 1 = W.heap.size) := hBW0.symm
  clear hBW0
  have hbase : w.heap.size ≤ b + 1 := by omega
  have h0 := hc.step (alQ W (.cells #[] 3))
  have HV : Hid (BytesAt W0 cv bs) := by rw [hW0]; exact hv
  rw [← hW0] at h0
  obtain ⟨ao, cap, rfl⟩ := hv.1.form
  have HW := Lib.hid hW; have HB := Lib.hid hb; have HW0 := Lib.hid hW0
  clear hv hW hc
  go_enter Try.func32, Try.ntmps32
  go_wp2_with fail
  rw [← HW.out, ← HB.out]
  refine (cur_pick W0 _ bs b 0 8 _ HV.out hl h0 (by omega) (by omega)).mono ?_
  rintro e w1 ⟨x, rfl, x0, x1, x2, k1, t1⟩
  have x1' := x1 (by omega)
  obtain ⟨k, rfl⟩ : ∃ k : Nat, x = k := ⟨x.toNat, by omega⟩
  have ho1 : OwnInts w1 (b + 1) (.slice (some ⟨b + 1, 0, none⟩) 0 0) [] := own_outQ hlit t1
  have T1 : CurTo b W w1 := (curTo_of (alQ W _)).trans t1
  clear x1 x2 hlit h0 t1 hW0 hb
  go_wp2_with fail
  go_loopw [4, 5] (fun u i wr => ∃ (xs : List Int) (j : Nat), xs.length + j ≤ 8 ∧ i = .int .i64 j ∧ OwnInts wr (b + 1) u xs ∧ CurAt W0 (.slice ao bs.length cap) wr b (2 + 2 * xs.length) ∧ CurTo b W wr) (fun _ i _ => (intOf i).toNat)
  case atStart => exact ⟨[], k, by simp; omega, rfl, ho1, k1, T1⟩
  case round =>
    rename World => wa
    clear ho1 k1 T1
    obtain ⟨xs, j, hj, rfl, ho, hc, ht⟩ := hrel
    by_cases hj0 : 0 < j
    · go_wp2_with (first
        | (go_at_call 56; refine (cur_among W0 _ bs b _ _ [0, 1, 2, 5, 10, 50] _ HV.out hl (hc.step (alQ _ _)) (by omega) (own_base (own_litL _ 3 [0, 1, 2, 5, 10, 50] (by simp)) (by have := ht.size; omega)) (by simp) (by simp)).mono ?_; rintro e w1 ⟨y, rfl, hy, k1, t1⟩; have T1 := ht.trans ((curTo_of (alQ _ _)).trans t1); have ho1 := own_outQ (OwnI.below ho (alQ _ _)) t1)
        | (at_builtin; refine wpList_push_int rfl (.tmp 16) (.tmp 20) _ rfl _ 3 _ int_info Try.underlying22 _ xs y rfl ho1 rfl (Nat.le_trans hbB T1.size) (by omega) ?_; intro u3 w3 ho3 hb3; have k3 := k1.keep hb3 (Nat.lt_succ_self b); have T3 := curTo_below T1 (hBW.out ▸ hb3)))
      go_roundw
      case rel => exact ⟨xs ++ [y], j - 1, by simp; omega, by congr 1; omega, ho3, k3.more (by simp; omega), T3⟩
      case measure => simp [intOf]; omega
    · obtain rfl : j = 0 := by omega
      go_wp2_with fail
      refine (cur_pick W0 _ bs b _ 24 _ HV.out hl hc (by omega) (by omega)).mono ?_
      rintro e w4 ⟨x, rfl, x0, x1, x2, k4, t4⟩
      have T4 := ht.trans t4
      have ho4 := own_outQ ho t4
      have hfin : ∀ wf b' m, CurAt W0 (.slice ao bs.length cap) wf b' m → Below w.heap.size w wf := fun wf b' m h => by have := h.below; rw [HW0.out] at this; exact this
      clear hc ho ht t4
      by_cases c0 : x = 0
      · subst c0
        go_wp2_with (first
        | (go_at_call 56; refine (cur_among W0 _ bs b _ _ [-1, 51] _ HV.out hl (k4.step (alQ _ _)) (by omega) (own_base (own_litL _ 3 [-1, 51] (by simp)) (by have := T4.size; omega)) (by simp) (by simp)).mono ?_; rintro e w1 ⟨y, rfl, hy, k1, t1⟩; have T1 := T4.trans ((curTo_of (alQ _ _)).trans t1); have ho1 := own_outQ (OwnI.below ho4 (alQ _ _)) t1)
        | (at_builtin; refine wpList_push_int rfl (.tmp 26) (.tmp 30) _ rfl _ 3 _ int_info Try.underlying22 _ xs y rfl ho1 rfl (Nat.le_trans hbB T1.size) (by omega) ?_; intro u3 w3 ho3 hb3; have k3 := k1.keep hb3 (Nat.lt_succ_self b); have T3 := curTo_below T1 (hBW.out ▸ hb3)))
        go_ret
        exact ⟨_, _, rfl, own_base ho3 hbase, by simp; omega, hfin _ _ _ k3⟩
      · by_cases c1 : x = 1
        · subst c1
          go_wp2_with fail
          go_loopw [4] (fun u wr => ∃ (ys : List Int), ys.length ≤ 9 ∧ OwnInts wr (b + 1) u ys ∧ CurAt W0 (.slice ao bs.length cap) wr b (40 + 2 * ys.length) ∧ CurTo b W wr ∧ ∃ a k, u = .slice a ys.length k) (fun u _ => 9 - slenQ u)
          case atStart => exact ⟨xs, by omega, ho4, k4.more (by omega), T4, OwnI.at_ ho4 |>.form⟩
          case round =>
            rename World => wb
            obtain ⟨ys, hy9, ho5, k5, T5, a5, c5, rfl⟩ := hrel
            go_wp2_with fail
            refine (cur_pick W0 _ bs b _ 2 _ HV.out hl k5 (by omega) (by omega)).mono ?_
            rintro e w6 ⟨z, rfl, z0, z1, z2, k6, t6⟩
            have z1' := z1 (by omega)
            have T6 := T5.trans t6
            have ho6 := own_outQ ho5 t6
            by_cases hlt : (ys.length : Int) < 8 + z
            · go_wp2_with (at_builtin; refine wpList_push_int rfl (.tmp 40) (.tmp 41) _ rfl _ 3 _ int_info Try.underlying22 _ ys 3 rfl ho6 rfl (Nat.le_trans hbB T6.size) (by omega) ?_; intro u7 w7 ho7 hb7; have k7 := k6.keep hb7 (Nat.lt_succ_self b); have T7 := curTo_below T6 (hBW.out ▸ hb7); obtain ⟨a7, c7, hu7⟩ := ho7.at_.form; rw [List.length_append, List.length_singleton] at hu7; subst hu7)
              go_roundw
              case rel => exact ⟨ys ++ [3], by simp; omega, ho7, k7.more (by simp; omega), T7, _, _, by rw [List.length_append, List.length_singleton]⟩
              case measure => simp only [slenQ]; omega
            · go_wp2_with fail
              go_ret
              exact ⟨_, ys, rfl, own_base ho6 hbase, by omega, hfin _ _ _ k6⟩
        · go_wp2_with fail
          go_ret
          exact ⟨_, xs, rfl, own_base ho4 hbase, by omega, hfin _ _ _ k4⟩

theorem OwnR.cur {lo hi b : Nat} {w w' : World} {v : Value} {xs : List Int} (h : OwnR 3 w lo hi v xs) (ht : CurTo b w w') (hb : b + 1 ≤ lo) : OwnR 3 w' lo hi v xs := OwnIn.keep h (ht.same (.inr hb) h.2.2)
theorem ints_cut {w : World} {B g n c : Nat} {xs : List Int} (h : OwnInts w B (.slice (some ⟨g, 0, none⟩) n c) xs) {d : Nat} (hd : d ≤ xs.length) : OwnInts w B (.slice (some ⟨g, 0, none⟩) d c) (xs.take d) := by
  have hn : n = xs.length := by
    obtain ⟨_, ao, cp, hv, _⟩ := rowAt_of_own h
    cases hv; rfl
  subst hn
  have h1 := own_cut (m := d) h hd (by simp)
  have h2 : (xs.take d).length = d := by rw [List.length_take]; omega
  unfold OwnInts OwnI
  rw [h2]
  have h3 : (ints xs).take (d * 1) = ints (xs.take d) := by rw [Nat.mul_one]; simp [ints, List.map_take]
  rw [h3] at h1
  exact h1

set_option maxHeartbeats 4000000 in
theorem draw_keepsQuota (cv : Value) (bs : List Int) (w : World) (hv : BytesAt w cv bs) (hl : bs.length ≤ 65537) :
    Calls Try.prog 29 #[cv] w fun e w' => ∃ u q vs ys, e = .returned (.tuple #[u, q]) ∧ IntsAt w' u vs ∧ IntsAt w' q ys ∧ vs.length ≤ 20 ∧ ys.length ≤ 1000000 ∧ Below w.heap.size w w' := by
  have hc := cur_new cv w
  obtain ⟨ao, cap, rfl⟩ := hv.1.form
  have HV := Lib.hid hv; clear hv
  go_enter Try.func29, Try.ntmps29
  go_wp2_with fail
  refine (cur_voteList w _ bs _ 0 _ HV.out hl hc (by omega)).mono ?_
  rintro e w1 ⟨u, vs, rfl, ho, hx, k1, t1⟩
  obtain ⟨au, ku, rfl⟩ := ho.at_.form
  go_wp2_with fail
  refine (cur_seats w _ bs _ _ _ HV.out hl k1 (by omega)).mono ?_
  rintro e w2 ⟨s, rfl, s0, s1, k2, t2⟩
  have ho2 := own_outQ ho t2 (by simp)
  go_wp2_with fail
  refine (s_SeatsByHalves _ vs s _ (OwnI.at_ ho2)).mono ?_
  rintro e w3 ⟨p, rfl, hp3, hb3⟩
  obtain ⟨ap, kp, rfl⟩ := hp3.at_.form
  have ho3 := OwnI.below ho2 hb3
  have k3 := k2.step hb3
  have hpl := seatsV_len 1 vs s (by omega)
  have hpl2 : (seatsV 1 vs s).1.length ≤ 1000000 := by
    unfold seatsV
    split
    · rw [qSeats_len]; omega
    · simp
  have hp3' := own_base (base' := w.heap.size + 1) hp3 (by exact k2.lt)
  have ho3' : OwnInts w3 (w.heap.size + 1) (.slice au vs.length ku) vs := by simpa using ho3
  clear ho ho2 ho3 hp3 k1 k2 hpl
  obtain ⟨L, hL⟩ : ∃ L, L = (seatsV 1 vs s).1 := ⟨_, rfl⟩
  rw [← hL] at hp3' hpl2 ⊢
  have HL := Lib.hid hL; clear hL
  -- behind the choice
  have rest : ∀ (w4 : World) (m4 : Nat), m4 ≤ 1000 → OwnInts w4 (w.heap.size + 1) (.slice au vs.length ku) vs → CurAt w (.slice ao bs.length cap) w4 w.heap.size m4 → Hid (Below w.heap.size w w4) := fun w4 m4 _ _ k => k.below
  clear rest
  cases hok : (seatsV 1 vs s).2 with
  | true =>
    go_wp2_with fail
    refine (cur_one w _ bs _ _ 2 _ HV.out hl k3 (by omega) (by omega)).mono ?_
    rintro e w4 ⟨x, rfl, k4, t4⟩
    have ho4 := own_outQ ho3' t4
    have hp4 := own_outQ hp3' t4
    cases x with
    | true =>
      go_wp2_with fail
      go_ret2
      exact ⟨_, _, vs, L, rfl, (OwnI.at_ ho4), (OwnI.at_ hp4), hx, hpl2, k4.below⟩
    | false =>
      have hb4 : w.heap.size + 1 ≤ w4.heap.size := k4.lt
      have hlit := own_lit0 w4 3
      have hR4 : OwnR 3 w4 (w.heap.size + 1) w4.heap.size (.slice au vs.length ku) vs := OwnR.of ho4
      have hst : OwnR 3 (w4.alloc (.cells #[] 3)) (w.heap.size + 1) w4.heap.size (.slice au vs.length ku) vs := OwnIn.keep hR4 (below_same (alQ w4 _) (Nat.le_refl _))
      have k4' := k4.step (alQ w4 (.cells #[] 3))
      have hx20 := hx
      clear k4 ho4 hR4
      go_wp2_with fail
      go_loopw [8, 9] (fun o i wr => ∃ (ys : List Int) (j : Nat), ys.length = j ∧ j ≤ vs.length ∧ i = .int .i64 j ∧ OwnInts wr w4.heap.size o ys ∧ OwnR 3 wr (w.heap.size + 1) w4.heap.size (.slice au vs.length ku) vs ∧ CurAt w (.slice ao bs.length cap) wr w.heap.size (100 + 10 * j)) (fun _ i _ => vs.length - (intOf i).toNat)
      case atStart => exact ⟨[], 0, rfl, Nat.zero_le _, rfl, hlit, hst, k4'.more (by omega)⟩
      case round =>
        rename World => wa
        clear hst hlit k4'
        obtain ⟨ys, j, hyl, hjl, rfl, ho, hr, hc⟩ := hrel
        have HYL := Lib.hid hyl; clear hyl
        have hwa : w.heap.size < wa.heap.size := hc.lt
        have hw4a : w4.heap.size ≤ wa.heap.size := hr.2.2
        by_cases hlt : j < vs.length
        · have hlitL := own_litL wa 3 [0, 1, 2, 10, 50, -1, 51] (by simp)
          have hc' := hc.step (alQ wa (.cells (ints [0, 1, 2, 10, 50, -1, 51]).toArray 3))
          have hr' : OwnR 3 (wa.alloc (.cells (ints [0, 1, 2, 10, 50, -1, 51]).toArray 3)) (w.heap.size + 1) w4.heap.size (.slice au vs.length ku) vs := OwnIn.keep hr (below_same (alQ wa _) hw4a)
          have ho' := OwnI.below ho (alQ wa (.cells (ints [0, 1, 2, 10, 50, -1, 51]).toArray 3))
          go_wp2_with fail
          refine (cur_pick w _ bs _ _ 60 _ HV.out hl hc' (by omega) (by omega)).mono ?_
          rintro e w6 ⟨x, rfl, x0, x1, x2, k6, t6⟩
          have x1' := x1 (by omega)
          obtain ⟨d, hd, hd1, hd2⟩ : ∃ d : Nat, (5 : Int) + x / 29 = (d : Int) ∧ 5 ≤ d ∧ d ≤ 7 := ⟨(5 + x / 29).toNat, by omega, by omega, by omega⟩
          have hcut := ints_cut (own_outQ hlitL t6 hwa) (d := d) (by simp; omega)
          have hr6 := OwnR.cur hr' t6 (Nat.le_refl _)
          have ho6 := own_outQ ho' t6 hb4
          have hs6 := t6.size
          have hs6' : wa.heap.size ≤ w6.heap.size := by simp at hs6; omega
          have hd3 : (0 : Int) ≤ (d : Int) := by omega
          have hd4 : (d : Int) ≤ 7 := by omega
          clear hlitL hc' hr' ho' ho hr hc x1
          go_wp2_with (first
            | (go_at_call 56; refine (cur_among w _ bs _ _ _ ([0, 1, 2, 10, 50, -1, 51].take d) _ HV.out hl k6 (by omega) (own_base hcut hwa) (by simp; omega) (by simp; omega)).mono ?_; rintro e w7 ⟨y, rfl, hy, k7, t7⟩; have hr7 := OwnR.cur hr6 t7 (Nat.le_refl _); have ho7 := own_outQ ho6 t7 hb4; have hs7 := t7.size; have hs7' : w4.heap.size ≤ w7.heap.size := by omega)
            | (at_builtin; refine wpList_push_int rfl (.tmp 36) (.tmp 45) _ rfl _ 3 _ int_info Try.underlying22 _ ys y rfl ho7 rfl hs7' (by have := HYL.out; omega) ?_; intro o8 w8 ho8 hb8; have k8 := k7.keep hb8 hb4; have hr8 := OwnIn.keep hr7 (below_same hb8 (Nat.le_refl _))))
          go_roundw
          case rel => exact ⟨ys ++ [y], j + 1, by have := HYL.out; simp; omega, by omega, by go_num, ho8, hr8, k8.more (by omega)⟩
          case measure => simp [intOf]; omega
        · obtain rfl : j = vs.length := by omega
          go_wp2_with fail
          refine (cur_one w _ bs _ _ 16 _ HV.out hl hc (by omega) (by omega)).mono ?_
          rintro e w6 ⟨x, rfl, k6, t6⟩
          have hr6 := OwnR.cur hr t6 (Nat.le_refl _)
          have ho6 := own_outQ ho t6 hb4
          have hs6 := t6.size
          have hs6' : w4.heap.size ≤ w6.heap.size := by omega
          obtain ⟨ao6, ko6, rfl⟩ := (OwnI.at_ ho6).form
          have hq6 : IntsAt w6 _ ys := OwnI.at_ ho6
          cases x with
          | true =>
            go_wp2_with (at_builtin; refine wpList_push_int rfl (.tmp 49) (.tmp 50) _ rfl _ 3 _ int_info Try.underlying22 _ ys 0 rfl ho6 rfl hs6' (by have := HYL.out; omega) ?_; intro o8 w8 ho8 hb8; have k8 := k6.keep hb8 hb4; have hr8 := OwnIn.keep hr6 (below_same hb8 (Nat.le_refl _)); obtain ⟨a8, c8, hf8⟩ := ho8.at_.form; rw [List.length_append, List.length_singleton] at hf8; subst hf8)
            go_ret2
            exact ⟨_, _, vs, _, rfl, OwnIn.at_ hr8, ho8.at_, hx20, by have := HYL.out; simp; omega, k8.below⟩
          | false =>
            go_wp2_with fail
            go_ret2
            exact ⟨_, _, vs, ys, rfl, OwnIn.at_ hr6, hq6, hx20, by have := HYL.out; omega, k6.below⟩
  | false =>
    have k4 := k3.more (m' := 0 + 70 + 4 + 2) (by omega)
    have ho4 := ho3'
    obtain ⟨w4, hw4⟩ : ∃ w4, w4 = w3 := ⟨_, rfl⟩
    rw [← hw4] at ho4 k4 ⊢
    clear hw4 k3 ho3' hp3'
    have hb4 : w.heap.size + 1 ≤ w4.heap.size := k4.lt
    have hlit := own_lit0 w4 3
    have hR4 : OwnR 3 w4 (w.heap.size + 1) w4.heap.size (.slice au vs.length ku) vs := OwnR.of ho4
    have hst : OwnR 3 (w4.alloc (.cells #[] 3)) (w.heap.size + 1) w4.heap.size (.slice au vs.length ku) vs := OwnIn.keep hR4 (below_same (alQ w4 _) (Nat.le_refl _))
    have k4' := k4.step (alQ w4 (.cells #[] 3))
    have hx20 := hx
    clear k4 ho4 hR4
    go_wp2_with fail
    go_loopw [8, 9] (fun o i wr => ∃ (ys : List Int) (j : Nat), ys.length = j ∧ j ≤ vs.length ∧ i = .int .i64 j ∧ OwnInts wr w4.heap.size o ys ∧ OwnR 3 wr (w.heap.size + 1) w4.heap.size (.slice au vs.length ku) vs ∧ CurAt w (.slice ao bs.length cap) wr w.heap.size (100 + 10 * j)) (fun _ i _ => vs.length - (intOf i).toNat)
    case atStart => exact ⟨[], 0, rfl, Nat.zero_le _, rfl, hlit, hst, k4'.more (by omega)⟩
    case round =>
      rename World => wa
      clear hst hlit k4'
      obtain ⟨ys, j, hyl, hjl, rfl, ho, hr, hc⟩ := hrel
      have HYL := Lib.hid hyl; clear hyl
      have hwa : w.heap.size < wa.heap.size := hc.lt
      have hw4a : w4.heap.size ≤ wa.heap.size := hr.2.2
      by_cases hlt : j < vs.length
      · have hlitL := own_litL wa 3 [0, 1, 2, 10, 50, -1, 51] (by simp)
        have hc' := hc.step (alQ wa (.cells (ints [0, 1, 2, 10, 50, -1, 51]).toArray 3))
        have hr' : OwnR 3 (wa.alloc (.cells (ints [0, 1, 2, 10, 50, -1, 51]).toArray 3)) (w.heap.size + 1) w4.heap.size (.slice au vs.length ku) vs := OwnIn.keep hr (below_same (alQ wa _) hw4a)
        have ho' := OwnI.below ho (alQ wa (.cells (ints [0, 1, 2, 10, 50, -1, 51]).toArray 3))
        go_wp2_with fail
        refine (cur_pick w _ bs _ _ 60 _ HV.out hl hc' (by omega) (by omega)).mono ?_
        rintro e w6 ⟨x, rfl, x0, x1, x2, k6, t6⟩
        have x1' := x1 (by omega)
        obtain ⟨d, hd, hd1, hd2⟩ : ∃ d : Nat, (5 : Int) + x / 29 = (d : Int) ∧ 5 ≤ d ∧ d ≤ 7 := ⟨(5 + x / 29).toNat, by omega, by omega, by omega⟩
        have hcut := ints_cut (own_outQ hlitL t6 hwa) (d := d) (by simp; omega)
        have hr6 := OwnR.cur hr' t6 (Nat.le_refl _)
        have ho6 := own_outQ ho' t6 hb4
        have hs6 := t6.size
        have hs6' : wa.heap.size ≤ w6.heap.size := by simp at hs6; omega
        have hd3 : (0 : Int) ≤ (d : Int) := by omega
        have hd4 : (d : Int) ≤ 7 := by omega
        clear hlitL hc' hr' ho' ho hr hc x1
        go_wp2_with (first
          | (go_at_call 56; refine (cur_among w _ bs _ _ _ ([0, 1, 2, 10, 50, -1, 51].take d) _ HV.out hl k6 (by omega) (own_base hcut hwa) (by simp; omega) (by simp; omega)).mono ?_; rintro e w7 ⟨y, rfl, hy, k7, t7⟩; have hr7 := OwnR.cur hr6 t7 (Nat.le_refl _); have ho7 := own_outQ ho6 t7 hb4; have hs7 := t7.size; have hs7' : w4.heap.size ≤ w7.heap.size := by omega)
          | (at_builtin; refine wpList_push_int rfl (.tmp 36) (.tmp 45) _ rfl _ 3 _ int_info Try.underlying22 _ ys y rfl ho7 rfl hs7' (by have := HYL.out; omega) ?_; intro o8 w8 ho8 hb8; have k8 := k7.keep hb8 hb4; have hr8 := OwnIn.keep hr7 (below_same hb8 (Nat.le_refl _))))
        go_roundw
        case rel => exact ⟨ys ++ [y], j + 1, by have := HYL.out; simp; omega, by omega, by go_num, ho8, hr8, k8.more (by omega)⟩
        case measure => simp [intOf]; omega
      · obtain rfl : j = vs.length := by omega
        go_wp2_with fail
        refine (cur_one w _ bs _ _ 16 _ HV.out hl hc (by omega) (by omega)).mono ?_
        rintro e w6 ⟨x, rfl, k6, t6⟩
        have hr6 := OwnR.cur hr t6 (Nat.le_refl _)
        have ho6 := own_outQ ho t6 hb4
        have hs6 := t6.size
        have hs6' : w4.heap.size ≤ w6.heap.size := by omega
        obtain ⟨ao6, ko6, rfl⟩ := (OwnI.at_ ho6).form
        have hq6 : IntsAt w6 _ ys := OwnI.at_ ho6
        cases x with
        | true =>
          go_wp2_with (at_builtin; refine wpList_push_int rfl (.tmp 49) (.tmp 50) _ rfl _ 3 _ int_info Try.underlying22 _ ys 0 rfl ho6 rfl hs6' (by have := HYL.out; omega) ?_; intro o8 w8 ho8 hb8; have k8 := k6.keep hb8 hb4; have hr8 := OwnIn.keep hr6 (below_same hb8 (Nat.le_refl _)); obtain ⟨a8, c8, hf8⟩ := ho8.at_.form; rw [List.length_append, List.length_singleton] at hf8; subst hf8)
          go_ret2
          exact ⟨_, _, vs, _, rfl, OwnIn.at_ hr8, ho8.at_, hx20, by have := HYL.out; simp; omega, k8.below⟩
        | false =>
          go_wp2_with fail
          go_ret2
          exact ⟨_, _, vs, ys, rfl, OwnIn.at_ hr6, hq6, hx20, by have := HYL.out; omega, k6.below⟩

/-- Slices of numbers that lie in a slice. -/
def LitsAt (w : World) (b g n : Nat) : Prop := b < g ∧ g < w.heap.size ∧ ∀ k, k < n → ∃ u xs, w.cell? ⟨g, k, none⟩ = some u ∧ OwnInts w (b + 1) u xs ∧ xs.length ≤ 10
theorem LitsAt.cur {w w' : World} {b g n : Nat} (h : LitsAt w b g n) (ht : CurTo b w w') : LitsAt w' b g n := by
  obtain ⟨h1, h2, h3⟩ := h
  refine ⟨h1, by have := ht.size; omega, fun k hk => ?_⟩
  obtain ⟨u, xs, c, o, l⟩ := h3 k hk
  exact ⟨u, xs, (World.cell?_of_block (w := w) (a := ⟨g, k, none⟩) (ht.block g h2 (by omega))).trans c, own_outQ o ht, l⟩
set_option maxHeartbeats 1000000 in
theorem lits5 (w : World) (b : Nat) (et : TypeId) (hb : b < w.heap.size) (L0 L1 L2 L3 L4 : List Int) (h0 : L0.length ≤ 10) (h1 : L1.length ≤ 10) (h2 : L2.length ≤ 10) (h3 : L3.length ≤ 10) (h4 : L4.length ≤ 10) :
    LitsAt ((((((w.alloc (.cells (ints L0).toArray 3)).alloc (.cells (ints L1).toArray 3)).alloc (.cells (ints L2).toArray 3)).alloc (.cells (ints L3).toArray 3)).alloc (.cells (ints L4).toArray 3)).alloc (.cells #[.slice (some ⟨w.heap.size, 0, none⟩) L0.length L0.length, .slice (some ⟨w.heap.size + 1, 0, none⟩) L1.length L1.length, .slice (some ⟨w.heap.size + 2, 0, none⟩) L2.length L2.length, .slice (some ⟨w.heap.size + 3, 0, none⟩) L3.length L3.length, .slice (some ⟨w.heap.size + 4, 0, none⟩) L4.length L4.length] et)) b (w.heap.size + 5) 5 := by
  have o0 := (OwnI.below (OwnI.below (OwnI.below (OwnI.below (own_litL w 3 L0 (by omega)) (alQ (w.alloc (.cells (ints L0).toArray 3)) (.cells (ints L1).toArray 3))) (alQ ((w.alloc (.cells (ints L0).toArray 3)).alloc (.cells (ints L1).toArray 3)) (.cells (ints L2).toArray 3))) (alQ (((w.alloc (.cells (ints L0).toArray 3)).alloc (.cells (ints L1).toArray 3)).alloc (.cells (ints L2).toArray 3)) (.cells (ints L3).toArray 3))) (alQ ((((w.alloc (.cells (ints L0).toArray 3)).alloc (.cells (ints L1).toArray 3)).alloc (.cells (ints L2).toArray 3)).alloc (.cells (ints L3).toArray 3)) (.cells (ints L4).toArray 3)))
  have o1 := (OwnI.below (OwnI.below (OwnI.below (own_litL (w.alloc (.cells (ints L0).toArray 3)) 3 L1 (by omega)) (alQ ((w.alloc (.cells (ints L0).toArray 3)).alloc (.cells (ints L1).toArray 3)) (.cells (ints L2).toArray 3))) (alQ (((w.alloc (.cells (ints L0).toArray 3)).alloc (.cells (ints L1).toArray 3)).alloc (.cells (ints L2).toArray 3)) (.cells (ints L3).toArray 3))) (alQ ((((w.alloc (.cells (ints L0).toArray 3)).alloc (.cells (ints L1).toArray 3)).alloc (.cells (ints L2).toArray 3)).alloc (.cells (ints L3).toArray 3)) (.cells (ints L4).toArray 3)))
  have o2 := (OwnI.below (OwnI.below (own_litL ((w.alloc (.cells (ints L0).toArray 3)).alloc (.cells (ints L1).toArray 3)) 3 L2 (by omega)) (alQ (((w.alloc (.cells (ints L0).toArray 3)).alloc (.cells (ints L1).toArray 3)).alloc (.cells (ints L2).toArray 3)) (.cells (ints L3).toArray 3))) (alQ ((((w.alloc (.cells (ints L0).toArray 3)).alloc (.cells (ints L1).toArray 3)).alloc (.cells (ints L2).toArray 3)).alloc (.cells (ints L3).toArray 3)) (.cells (ints L4).toArray 3)))
  have o3 := (OwnI.below (own_litL (((w.alloc (.cells (ints L0).toArray 3)).alloc (.cells (ints L1).toArray 3)).alloc (.cells (ints L2).toArray 3)) 3 L3 (by omega)) (alQ ((((w.alloc (.cells (ints L0).toArray 3)).alloc (.cells (ints L1).toArray 3)).alloc (.cells (ints L2).toArray 3)).alloc (.cells (ints L3).toArray 3)) (.cells (ints L4).toArray 3)))
  have o4 := (own_litL ((((w.alloc (.cells (ints L0).toArray 3)).alloc (.cells (ints L1).toArray 3)).alloc (.cells (ints L2).toArray 3)).alloc (.cells (ints L3).toArray 3)) 3 L4 (by omega))
  have hs0 : w.heap.size = w.heap.size := by simp
  have hs1 : (w.alloc (.cells (ints L0).toArray 3)).heap.size = w.heap.size + 1 := by simp
  have hs2 : ((w.alloc (.cells (ints L0).toArray 3)).alloc (.cells (ints L1).toArray 3)).heap.size = w.heap.size + 2 := by simp
  have hs3 : (((w.alloc (.cells (ints L0).toArray 3)).alloc (.cells (ints L1).toArray 3)).alloc (.cells (ints L2).toArray 3)).heap.size = w.heap.size + 3 := by simp
  have hs4 : ((((w.alloc (.cells (ints L0).toArray 3)).alloc (.cells (ints L1).toArray 3)).alloc (.cells (ints L2).toArray 3)).alloc (.cells (ints L3).toArray 3)).heap.size = w.heap.size + 4 := by simp
  have hs5 : (((((w.alloc (.cells (ints L0).toArray 3)).alloc (.cells (ints L1).toArray 3)).alloc (.cells (ints L2).toArray 3)).alloc (.cells (ints L3).toArray 3)).alloc (.cells (ints L4).toArray 3)).heap.size = w.heap.size + 5 := by simp
  rw [hs0] at o0
  rw [hs1] at o1
  rw [hs2] at o2
  rw [hs3] at o3
  rw [hs4] at o4
  generalize (((((w.alloc (.cells (ints L0).toArray 3)).alloc (.cells (ints L1).toArray 3)).alloc (.cells (ints L2).toArray 3)).alloc (.cells (ints L3).toArray 3)).alloc (.cells (ints L4).toArray 3)) = W at *
  have hx : ∀ i, (W.alloc (.cells #[.slice (some ⟨w.heap.size, 0, none⟩) L0.length L0.length, .slice (some ⟨w.heap.size + 1, 0, none⟩) L1.length L1.length, .slice (some ⟨w.heap.size + 2, 0, none⟩) L2.length L2.length, .slice (some ⟨w.heap.size + 3, 0, none⟩) L3.length L3.length, .slice (some ⟨w.heap.size + 4, 0, none⟩) L4.length L4.length] et)).cell? ⟨w.heap.size + 5, i, none⟩ = #[.slice (some ⟨w.heap.size, 0, none⟩) L0.length L0.length, .slice (some ⟨w.heap.size + 1, 0, none⟩) L1.length L1.length, .slice (some ⟨w.heap.size + 2, 0, none⟩) L2.length L2.length, .slice (some ⟨w.heap.size + 3, 0, none⟩) L3.length L3.length, .slice (some ⟨w.heap.size + 4, 0, none⟩) L4.length L4.length][i]? := fun i => by exact World.cell?_alloc_at _ _ _ _ hs5.symm
  refine ⟨by omega, by simp; omega, fun k hk => ?_⟩
  obtain rfl | hk0 : k = 0 ∨ 0 < k := by omega
  · exact ⟨_, L0, hx 0, own_base (base' := b + 1) (OwnI.below o0 (alQ _ _)) (by omega), h0⟩
  obtain rfl | hk1 : k = 1 ∨ 1 < k := by omega
  · exact ⟨_, L1, hx 1, own_base (base' := b + 1) (OwnI.below o1 (alQ _ _)) (by omega), h1⟩
  obtain rfl | hk2 : k = 2 ∨ 2 < k := by omega
  · exact ⟨_, L2, hx 2, own_base (base' := b + 1) (OwnI.below o2 (alQ _ _)) (by omega), h2⟩
  obtain rfl | hk3 : k = 3 ∨ 3 < k := by omega
  · exact ⟨_, L3, hx 3, own_base (base' := b + 1) (OwnI.below o3 (alQ _ _)) (by omega), h3⟩
  obtain rfl : k = 4 := by omega
  exact ⟨_, L4, hx 4, own_base (base' := b + 1) (OwnI.below o4 (alQ _ _)) (by omega), h4⟩
set_option maxHeartbeats 1000000 in
theorem cur_among3 (W0 : World) (cv : Value) (bs : List Int) (b m g n : Nat) (w : World) (hv : BytesAt W0 cv bs) (hl : bs.length ≤ 65537) (h : CurAt W0 cv w b m) (hm : m ≤ 800000000) (hg : LitsAt w b g n) (hn0 : 0 < n) (hn : n ≤ 100) :
    Calls Try.prog 59 #[.pointer (some ⟨b, 0, none⟩), .slice (some ⟨g, 0, none⟩) n n] w fun e w' => ∃ u xs, e = .returned u ∧ OwnInts w' w.heap.size u xs ∧ xs.length ≤ 10 ∧ CurAt W0 cv w' b (m + 2) ∧ CurTo b w w' := by
  have HV := Lib.hid hv; clear hv
  go_enter Try.func59, Try.ntmps59
  go_wp2_with fail
  refine (cur_pick W0 _ bs b _ (n : Int) _ HV.out hl h (by omega) (by omega)).mono ?_
  rintro e w1 ⟨x, rfl, x0, x1, x2, k1, t1⟩
  have x1' := x1 (by omega)
  obtain ⟨k, rfl⟩ : ∃ k : Nat, x = k := ⟨x.toNat, by omega⟩
  obtain ⟨_, _, hc3⟩ := hg.cur t1
  obtain ⟨u, xs, c, o, l⟩ := hc3 k (by omega)
  obtain ⟨au, ku, rfl⟩ := o.at_.form
  clear hc3
  go_wp2_with fail
  refine (s_l1Own _ xs _ o.at_ (by omega)).mono ?_
  rintro e w2 ⟨p, rfl, ho, hb2⟩
  go_wp2_with fail
  go_ret
  exact ⟨p, xs, rfl, own_base ho t1.size, l, k1.step hb2, t1.trans (curTo_of hb2)⟩

set_option maxHeartbeats 1000000 in
theorem draw_shrinking (cv : Value) (bs : List Int) (w : World) (hv : BytesAt w cv bs) (hl : bs.length ≤ 65537) :
    Calls Try.prog 31 #[cv] w fun e w' => ∃ u xs s, e = .returned (.tuple #[u, .int .i64 s]) ∧ IntsAt w' u xs ∧ xs.length ≤ 20 ∧ -1 ≤ s ∧ s ≤ 51 ∧ Below w.heap.size w w' := by
  have hc := cur_new cv w
  obtain ⟨ao, cap, rfl⟩ := hv.1.form
  have HV := Lib.hid hv; clear hv
  go_enter Try.func31, Try.ntmps31
  go_wp2_with fail
  refine (cur_one w _ bs _ 0 2 _ HV.out hl hc (by omega) (by omega)).mono ?_
  rintro e w1 ⟨x, rfl, k1, t1⟩
  have hw1 : w.heap.size < w1.heap.size := k1.lt
  cases x with
  | false =>
    go_wp2_with fail
    refine (cur_voteList w _ bs _ _ _ HV.out hl k1 (by omega)).mono ?_
    rintro e w2 ⟨u, xs, rfl, ho, hx, k2, t2⟩
    obtain ⟨au, ku, rfl⟩ := ho.at_.form
    go_wp2_with fail
    refine (cur_seats w _ bs _ _ _ HV.out hl k2 (by omega)).mono ?_
    rintro e w3 ⟨s, rfl, s0, s1, k3, t3⟩
    have ho3 := own_outQ ho t3 hw1
    go_wp2_with fail
    go_ret2
    exact ⟨_, xs, s, rfl, (OwnI.at_ ho3), hx, s0, s1, k3.below⟩
  | true =>
    have hL := lits5 w1 w.heap.size 22 hw1 [480, 480, 50] [53, 53, 7] [100, 100, 20, 5] [5, 5, 1] [1500, 1500, 900, 500, 500, 200] (by decide) (by decide) (by decide) (by decide) (by decide)
    have kL := ((((((k1.step (alQ _ (.cells (ints [480, 480, 50]).toArray 3))).step (alQ _ (.cells (ints [53, 53, 7]).toArray 3))).step (alQ _ (.cells (ints [100, 100, 20, 5]).toArray 3))).step (alQ _ (.cells (ints [5, 5, 1]).toArray 3))).step (alQ _ (.cells (ints [1500, 1500, 900, 500, 500, 200]).toArray 3))).step (alQ _ (.cells #[.slice (some ⟨w1.heap.size, 0, none⟩) 3 3, .slice (some ⟨w1.heap.size + 1, 0, none⟩) 3 3, .slice (some ⟨w1.heap.size + 2, 0, none⟩) 4 4, .slice (some ⟨w1.heap.size + 3, 0, none⟩) 3 3, .slice (some ⟨w1.heap.size + 4, 0, none⟩) 6 6] 22)))
    go_wp2_with fail
    refine (cur_among3 w _ bs _ _ (w1.heap.size + 5) 5 _ HV.out hl kL (by omega) hL (by omega) (by omega)).mono ?_
    rintro e w2 ⟨u, xs, rfl, ho, hx, k2, t2⟩
    obtain ⟨au, ku, rfl⟩ := ho.at_.form
    have hw2 : w.heap.size < w2.heap.size := k2.lt
    go_wp2_with fail
    refine (cur_pick w _ bs _ _ 30 _ HV.out hl k2 (by omega) (by omega)).mono ?_
    rintro e w3 ⟨x, rfl, x0, x1, x2, k3, t3⟩
    have x1' := x1 (by omega)
    have ho3 := own_outQ ho t3 (Nat.le_of_lt (by simp; omega))
    have hq3 : IntsAt w3 _ xs := OwnI.at_ ho3
    go_wp2_with fail
    go_ret2
    exact ⟨_, xs, _, rfl, hq3, by omega, by omega, by omega, k3.below⟩

end Go.Proofs.Ytokjamdikenkoaa
