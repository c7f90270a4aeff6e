/- Contracts: the draws of chapter 13. Condition: fewer than a thousand million choices. -/
import Derived.Test.YtgjgdephpliolaaDrawE
namespace Go.Proofs.Ytgjgdephpliolaa
open Go.RowKit
set_option linter.unusedVariables false
set_option linter.unusedSimpArgs false

theorem draw_election (cv : Value) (bs : List Int) (w : World) (hv : BytesAt w cv bs) (hl : bs.length ≤ 65537) :
    Calls Try.prog 45 #[cv] w fun e w' => ∃ n u rs, e = .returned (.tuple #[.int .i64 n, u]) ∧ RanksAt w' u rs ∧ rs.length ≤ 20 ∧ ShortR 10 rs ∧ 0 ≤ n ∧ n ≤ 10 ∧ Below w.heap.size w w' := by
  have hc := cur_new cv w
  obtain ⟨ao, cap, rfl⟩ := hv.1.form
  have HV := Lib.hid hv; clear hv
  go_enter Try.func45, Try.ntmps45
  go_wp2_with fail
  refine (cur_election w _ bs _ 0 _ HV.out hl hc (by omega)).mono ?_
  rintro e w1 ⟨n, u, rs, rfl, ho, hx, hs, hn0, hn1, k1, t1⟩
  obtain ⟨au, ku, rfl⟩ := ho.form
  go_wp2_with fail
  go_ret2
  exact ⟨_, _, rs, rfl, ho.at_, hx, hs, hn0, hn1, k1.below⟩

theorem draw_DominantSet (cv : Value) (bs : List Int) (w : World) (hv : BytesAt w cv bs) (hl : bs.length ≤ 65537) :
    Calls Try.prog 8 #[cv] w fun e w' => ∃ n u rs, e = .returned (.tuple #[.int .i64 n, u]) ∧ RanksAt w' u rs ∧ rs.length ≤ 20 ∧ ShortR 10 rs ∧ 0 ≤ n ∧ n ≤ 10 ∧ Below w.heap.size w w' := by
  obtain ⟨ao, cap, rfl⟩ := hv.1.form
  have HQ := Lib.hid (draw_election _ bs w hv hl)
  go_enter Try.func8, Try.ntmps8
  go_wp2_with fail
  refine HQ.out.mono ?_
  rintro e w1 ⟨n, u, rs, rfl, ho, hx, hs, hn0, hn1, hb⟩
  obtain ⟨au, ku, rfl⟩ := ho.form
  go_wp2_with fail
  go_ret2
  exact ⟨_, _, rs, rfl, ho, hx, hs, hn0, hn1, hb⟩

theorem draw_BordaScores (cv : Value) (bs : List Int) (w : World) (hv : BytesAt w cv bs) (hl : bs.length ≤ 65537) :
    Calls Try.prog 26 #[cv] w fun e w' => ∃ n u rs, e = .returned (.tuple #[.int .i64 n, u]) ∧ RanksAt w' u rs ∧ rs.length ≤ 20 ∧ ShortR 10 rs ∧ 0 ≤ n ∧ n ≤ 10 ∧ Below w.heap.size w w' := by
  obtain ⟨ao, cap, rfl⟩ := hv.1.form
  have HQ := Lib.hid (draw_election _ bs w hv hl)
  go_enter Try.func26, Try.ntmps26
  go_wp2_with fail
  refine HQ.out.mono ?_
  rintro e w1 ⟨n, u, rs, rfl, ho, hx, hs, hn0, hn1, hb⟩
  obtain ⟨au, ku, rfl⟩ := ho.form
  go_wp2_with fail
  go_ret2
  exact ⟨_, _, rs, rfl, ho, hx, hs, hn0, hn1, hb⟩

theorem draw_RunoffWinner (cv : Value) (bs : List Int) (w : World) (hv : BytesAt w cv bs) (hl : bs.length ≤ 65537) :
    Calls Try.prog 37 #[cv] w fun e w' => ∃ n u rs, e = .returned (.tuple #[.int .i64 n, u]) ∧ RanksAt w' u rs ∧ rs.length ≤ 20 ∧ ShortR 10 rs ∧ 0 ≤ n ∧ n ≤ 10 ∧ Below w.heap.size w w' := by
  obtain ⟨ao, cap, rfl⟩ := hv.1.form
  have HQ := Lib.hid (draw_election _ bs w hv hl)
  go_enter Try.func37, Try.ntmps37
  go_wp2_with fail
  refine HQ.out.mono ?_
  rintro e w1 ⟨n, u, rs, rfl, ho, hx, hs, hn0, hn1, hb⟩
  obtain ⟨au, ku, rfl⟩ := ho.form
  go_wp2_with fail
  go_ret2
  exact ⟨_, _, rs, rfl, ho, hx, hs, hn0, hn1, hb⟩

theorem draw_PluralityWinners (cv : Value) (bs : List Int) (w : World) (hv : BytesAt w cv bs) (hl : bs.length ≤ 65537) :
    Calls Try.prog 42 #[cv] w fun e w' => ∃ n u rs, e = .returned (.tuple #[.int .i64 n, u]) ∧ RanksAt w' u rs ∧ rs.length ≤ 20 ∧ ShortR 10 rs ∧ 0 ≤ n ∧ n ≤ 10 ∧ Below w.heap.size w w' := by
  obtain ⟨ao, cap, rfl⟩ := hv.1.form
  have HQ := Lib.hid (draw_election _ bs w hv hl)
  go_enter Try.func42, Try.ntmps42
  go_wp2_with fail
  refine HQ.out.mono ?_
  rintro e w1 ⟨n, u, rs, rfl, ho, hx, hs, hn0, hn1, hb⟩
  obtain ⟨au, ku, rfl⟩ := ho.form
  go_wp2_with fail
  go_ret2
  exact ⟨_, _, rs, rfl, ho, hx, hs, hn0, hn1, hb⟩

theorem draw_MoveUp (cv : Value) (bs : List Int) (w : World) (hv : BytesAt w cv bs) (hl : bs.length ≤ 65537) :
    Calls Try.prog 20 #[cv] w fun e w' => ∃ n u rs v c, e = .returned (.tuple #[.int .i64 n, u, .int .i64 v, .int .i64 c]) ∧ RanksAt w' u rs ∧ rs.length ≤ 20 ∧ ShortR 10 rs ∧ 0 ≤ n ∧ n ≤ 10 ∧ -1 ≤ v ∧ v ≤ 30 ∧ 0 ≤ c ∧ c ≤ 6 ∧ Below w.heap.size w w' := by
  have hc := cur_new cv w
  obtain ⟨ao, cap, rfl⟩ := hv.1.form
  have HV := Lib.hid hv; clear hv
  go_enter Try.func20, Try.ntmps20
  go_wp2_with fail
  refine (cur_election w _ bs _ 0 _ HV.out hl hc (by omega)).mono ?_
  rintro e w1 ⟨n, u, rs, rfl, ho, hx, hs, hn0, hn1, k1, t1⟩
  obtain ⟨au, ku, rfl⟩ := ho.form
  go_wp2_with fail
  refine (cur_pick w _ bs _ _ ((rs.length : Int) + 2) _ HV.out hl k1 (by omega) (by omega)).mono ?_
  rintro e w2 ⟨x, rfl, x0, x1, x2, k2, t2⟩
  have x1' := x1 (by omega)
  go_wp2_with fail
  refine (cur_pick w _ bs _ _ 9 _ HV.out hl k2 (by omega) (by omega)).mono ?_
  rintro e w3 ⟨y, rfl, y0, y1, y2, k3, t3⟩
  have y1' := y1 (by omega)
  go_wp2_with fail
  refine (cur_pick w _ bs _ _ 6 _ HV.out hl k3 (by omega) (by omega)).mono ?_
  rintro e w4 ⟨z, rfl, z0, z1, z2, k4, t4⟩
  have z1' := z1 (by omega)
  have h4 := ((ho.out t2 (by simp)).out t3 (by simp)).out t4 (by simp)
  go_wp2_with fail
  refine bodyPost_ret (v := .tuple #[.int .i64 n, .slice au rs.length ku, .int .i64 (x - y / 8), .int .i64 z]) (by simp [results, Try.results20, go_sem]) rfl ?_
  exact ⟨_, _, rs, x - y / 8, z, rfl, h4.at_, hx, hs, hn0, hn1, by omega, by omega, by omega, by omega, k4.below⟩

set_option maxHeartbeats 1000000 in
theorem draw_FirstVotes (cv : Value) (bs : List Int) (w : World) (hv : BytesAt w cv bs) (hl : bs.length ≤ 65537) :
    Calls Try.prog 40 #[cv] w fun e w' => ∃ n u rs q am, e = .returned (.tuple #[.int .i64 n, u, q]) ∧ RanksAt w' u rs ∧ IntsAt w' q am ∧ am.length ≤ 20 ∧ rs.length ≤ 20 ∧ ShortR 10 rs ∧ 0 ≤ n ∧ n ≤ 10 ∧ Below w.heap.size w w' := by
  have hc := cur_new cv w
  obtain ⟨ao, cap, rfl⟩ := hv.1.form
  have HV := Lib.hid hv; clear hv
  go_enter Try.func40, Try.ntmps40
  go_wp2_with fail
  refine (cur_election w _ bs _ 0 _ HV.out hl hc (by omega)).mono ?_
  rintro e w1 ⟨n, u, rs, rfl, ho, hx, hs, hn0, hn1, k1, t1⟩
  obtain ⟨au, ku, rfl⟩ := ho.form
  obtain ⟨N, rfl⟩ : ∃ N : Nat, n = N := ⟨n.toNat, by omega⟩
  obtain ⟨b, hb⟩ : ∃ b, b = w.heap.size := ⟨_, rfl⟩
  rw [← hb] at k1 t1
  have hbw : b < w1.heap.size := k1.lt
  have ho' : LooseR w1 (b + 1) (.slice au rs.length ku) rs := ho.base (by simp; omega)
  have hlit := own_lit0 w1 3
  have h0 := k1.step (alQ w1 (.cells #[] 3))
  have T1 : CurTo b w1 (w1.alloc (.cells #[] 3)) := curTo_of (alQ _ _)
  have HB := Lib.hid hb
  clear hc ho hb t1
  go_wp2_with fail
  try rw [← HB.out]
  go_loopw [8, 9] (fun o i wr => ∃ (k : Nat) (am : List Int), k ≤ N ∧ am.length ≤ k ∧ i = .int .i64 k ∧ OwnInts wr w1.heap.size o am ∧ CurAt w (.slice ao bs.length cap) wr b (0 + 1000 + 2 * k) ∧ CurTo b w1 wr) (fun _ i _ => N - (intOf i).toNat)
  case atStart => exact ⟨0, [], by omega, by simp, rfl, hlit, h0, T1⟩
  case round =>
    rename World => wa
    clear hlit h0 T1
    obtain ⟨k, am, hk, hak, rfl, hq, kc, tc⟩ := hrel
    obtain ⟨aq, kq, rfl⟩ := (OwnI.at_ hq : IntsAt wa _ am).form
    by_cases hlt : k < N
    · have hltI : (k : Int) < (N : Int) := by omega
      go_wp2_with fail
      refine (cur_one w _ bs b _ 3 _ HV.out hl kc (by omega) (by omega)).mono ?_
      rintro e w3 ⟨x, rfl, k3, t3⟩
      have hq3 := own_outQ hq t3 (by omega)
      have T3 := tc.trans t3
      cases x with
      | true =>
        go_wp2_with fail
        go_roundw
        case rel => exact ⟨k + 1, am, by omega, by omega, by go_num, hq3, k3.more (by omega), T3⟩
        case measure => first | (simp [intOf]; done) | (simp [intOf]; omega)
      | false =>
        go_wp2_with (at_builtin; refine wpList_push_int rfl (.tmp 27) (.tmp 29) _ rfl _ 3 _ int_info Try.underlying27 _ am (k : Int) rfl hq3 rfl T3.size (by omega) ?_; intro u4 w4 hq4 hb4)
        go_roundw
        case rel => exact ⟨k + 1, am ++ [(k : Int)], by omega, by simp; omega, by go_num, hq4, (k3.keep hb4 hbw).more (by omega), curTo_below T3 hb4⟩
        case measure => first | (simp [intOf]; done) | (simp [intOf]; omega)
    · obtain rfl : k = N := by omega
      go_wp2_with fail
      refine (cur_one w _ bs b _ 16 _ HV.out hl kc (by omega) (by omega)).mono ?_
      rintro e w3 ⟨x, rfl, k3, t3⟩
      have hq3 := own_outQ hq t3 (by omega)
      have T3 := tc.trans t3
      cases x with
      | true =>
        go_wp2_with fail
        refine (cur_pick w _ bs b _ 6 _ HV.out hl k3 (by omega) (by omega)).mono ?_
        rintro e w5 ⟨z, rfl, z0, z1, z2, k5, t5⟩
        have hq5 := own_outQ hq3 t5 (by omega)
        have T5 := T3.trans t5
        go_wp2_with (at_builtin; refine wpList_push_int rfl (.tmp 33) (.tmp 36) _ rfl _ 3 _ int_info Try.underlying27 _ am z rfl hq5 rfl T5.size (by omega) ?_; intro u4 w4 hq4 hb4; obtain ⟨a8, c8, hu8⟩ := hq4.at_.form; rw [List.length_append, List.length_singleton] at hu8; subst hu8)
        have hr4 := (ho'.out (curTo_below T5 hb4) (Nat.le_refl _)).at_
        go_ret3
        exact ⟨_, _, rs, _, _, rfl, hr4, hq4.at_, by simp; omega, hx, hs, by omega, by omega, (k5.keep hb4 hbw).below⟩
      | false =>
        have hr4 := (ho'.out T3 (Nat.le_refl _)).at_
        have hq4 : IntsAt w3 (.slice aq am.length kq) am := OwnI.at_ hq3
        go_wp2_with fail
        go_ret3
        exact ⟨_, _, rs, _, _, rfl, hr4, hq4, by omega, hx, hs, by omega, by omega, k3.below⟩

end Go.Proofs.Ytgjgdephpliolaa
