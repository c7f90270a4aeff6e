/- The walk of FnSeats out of its callees' contracts: it returns true, and what was there stays. No conditions. -/
import Derived.Test.YtokjamdikenkoaaSeatL
import Derived.Test.YtokjamdikenkoaaSeats
import Derived.Test.YtokjamdikenkoaaDrawV
import Derived.Test.YtokjamdikenkoaaLawU
namespace Go.Proofs.Ytokjamdikenkoaa
open Go.RowKit
set_option linter.unusedVariables false
set_option linter.unusedSimpArgs false

theorem remV_ok {vs : List Int} {s : Int} (h : seatsOk vs s = true) : remV vs s = (remS vs s, true) := by simp [remV, h]
theorem remV_no {vs : List Int} {s : Int} (h : seatsOk vs s = false) : remV vs s = ([], false) := by simp [remV, h]
theorem seatsV_ok {st : Int} {vs : List Int} {s : Int} (h : seatsOk vs s = true) : seatsV st vs s = ((qSeats st vs s.toNat).1, true) := by simp [seatsV, h]
theorem seatsV_no {st : Int} {vs : List Int} {s : Int} (h : seatsOk vs s = false) : seatsV st vs s = ([], false) := by simp [seatsV, h]
theorem lastV_ok {vs : List Int} {s : Int} (h : seatsOk vs s = true) (h0 : (s == 0) = false) : lastV vs s = (((qSeats 1 vs s.toNat).2 : Int), true) := by simp [lastV, h, h0]
theorem lastV_no {vs : List Int} {s : Int} (h : seatsOk vs s = false) : lastV vs s = (0, false) := by simp [lastV, h]
theorem seatsOk_next {vs : List Int} {s : Int} (h : seatsOk vs s = true) : seatsOk vs (s + 1) = decide (s + 1 ≤ 50) := by
  obtain ⟨h1, h2, h3⟩ := seatsOk_parts h
  have e : inB (s + 1) 0 50 = decide (s + 1 ≤ 50) := by
    unfold inB
    rw [decide_eq_true (show (0 : Int) ≤ s + 1 by omega), Bool.true_and]
  simp only [seatsOk, h1, e, Bool.true_and]

set_option maxRecDepth 100000 in
set_option maxHeartbeats 4000000 in
theorem law_FnSeats (w : World) (v : Value) (bs : List Int) (h : BytesAt w v bs) :
    Calls Try.prog 5 #[v] w fun e w' => e = .returned (.bool true) ∧ Below w.heap.size w w' := by
  have HQ := rBig_c v bs w h
  by_cases hbig : 65536 < bs.length
  · rw [decide_eq_true hbig] at HQ
    have HQ' := Lib.hid HQ; clear HQ
    go_enter Try.func5, Try.ntmps5
    go_wp2_with (go_at_call 15; refine HQ'.out.mono ?_; rintro e w' ⟨rfl, rfl⟩)
    go_ret
    exact ⟨rfl, Below.refl _ _⟩
  · rw [decide_eq_false hbig] at HQ
    have HQ' := Lib.hid HQ; clear HQ
    go_enter Try.func5, Try.ntmps5
    go_wp2_with (go_at_call 15; refine HQ'.out.mono ?_; rintro e w' ⟨rfl, rfl⟩)
    refine (draw_votesSeats v bs w h (by omega)).mono ?_
    rintro e w1 ⟨u, vs, s, rfl, ho, hx, s0, s1, hb1⟩
    have hV := ho.at_
    obtain ⟨au, ku, rfl⟩ := ho.at_.form
    have hg := hb1
    clear ho h
    cases hok : seatsOk vs s with
    | false =>
      go_wp2_with fail
      refine (i_SeatsByRemainders _ vs s _ hV).mono ?_
      rw [remV_no hok]
      rintro e w2 ⟨p2, rfl, ho2, hb2⟩
      replace hV := hV.below hb2
      replace hg := below_step hg hb2
      have hA := (ho2).at_
      obtain ⟨a2, k2, hf2⟩ := (hA).form
      subst hf2
      clear ho2
      go_wp2_with fail
      refine (i_SeatsByHalves _ vs s _ hV).mono ?_
      rw [seatsV_no hok]
      rintro e w3 ⟨p3, rfl, ho3, hb3⟩
      replace hV := hV.below hb3
      replace hA := hA.below hb3
      replace hg := below_step hg hb3
      have hB := (ho3).at_
      obtain ⟨a3, k3, hf3⟩ := (hB).form
      subst hf3
      clear ho3
      go_wp2_with fail
      refine (i_SeatsByOdds _ vs s _ hV).mono ?_
      rw [seatsV_no hok]
      rintro e w4 ⟨p4, rfl, ho4, hb4⟩
      replace hV := hV.below hb4
      replace hA := hA.below hb4
      replace hB := hB.below hb4
      replace hg := below_step hg hb4
      have hC := (ho4).at_
      obtain ⟨a4, k4, hf4⟩ := (hC).form
      subst hf4
      clear ho4
      go_wp2_with fail
      refine (s_SeatsByRemainders _ vs s _ hV).mono ?_
      rw [remV_no hok]
      rintro e w5 ⟨p5, rfl, ho5, hb5⟩
      replace hV := hV.below hb5
      replace hA := hA.below hb5
      replace hB := hB.below hb5
      replace hC := hC.below hb5
      replace hg := below_step hg hb5
      have hA' := (ho5).at_
      obtain ⟨a5, k5, hf5⟩ := (hA').form
      subst hf5
      clear ho5
      go_wp2_with fail
      refine (rInts_c _ _ _ _ _ hA hA').mono ?_
      rw [decide_eq_true rfl]
      rintro e w6 ⟨rfl, hb6⟩
      replace hV := hV.below hb6
      replace hA := hA.below hb6
      replace hB := hB.below hb6
      replace hC := hC.below hb6
      replace hA' := hA'.below hb6
      replace hg := below_step hg hb6
      go_wp2_with fail
      refine (s_SeatsByHalves _ vs s _ hV).mono ?_
      rw [seatsV_no hok]
      rintro e w7 ⟨p7, rfl, ho7, hb7⟩
      replace hV := hV.below hb7
      replace hA := hA.below hb7
      replace hB := hB.below hb7
      replace hC := hC.below hb7
      replace hA' := hA'.below hb7
      replace hg := below_step hg hb7
      have hB' := (ho7).at_
      obtain ⟨a7, k7, hf7⟩ := (hB').form
      subst hf7
      clear ho7
      go_wp2_with fail
      refine (rInts_c _ _ _ _ _ hB hB').mono ?_
      rw [decide_eq_true rfl]
      rintro e w8 ⟨rfl, hb8⟩
      replace hV := hV.below hb8
      replace hA := hA.below hb8
      replace hB := hB.below hb8
      replace hC := hC.below hb8
      replace hA' := hA'.below hb8
      replace hB' := hB'.below hb8
      replace hg := below_step hg hb8
      go_wp2_with fail
      refine (s_SeatsByOdds _ vs s _ hV).mono ?_
      rw [seatsV_no hok]
      rintro e w9 ⟨p9, rfl, ho9, hb9⟩
      replace hV := hV.below hb9
      replace hA := hA.below hb9
      replace hB := hB.below hb9
      replace hC := hC.below hb9
      replace hA' := hA'.below hb9
      replace hB' := hB'.below hb9
      replace hg := below_step hg hb9
      have hC' := (ho9).at_
      obtain ⟨a9, k9, hf9⟩ := (hC').form
      subst hf9
      clear ho9
      go_wp2_with fail
      refine (rInts_c _ _ _ _ _ hC hC').mono ?_
      rw [decide_eq_true rfl]
      rintro e w10 ⟨rfl, hb10⟩
      replace hV := hV.below hb10
      replace hA := hA.below hb10
      replace hB := hB.below hb10
      replace hC := hC.below hb10
      replace hA' := hA'.below hb10
      replace hB' := hB'.below hb10
      replace hC' := hC'.below hb10
      replace hg := below_step hg hb10
      go_wp2_with fail
      go_ret
      exact ⟨rfl, hg⟩
    | true =>
      go_wp2_with fail
      refine (i_SeatsByRemainders _ vs s _ hV).mono ?_
      rw [remV_ok hok]
      rintro e w2 ⟨p2, rfl, ho2, hb2⟩
      replace hV := hV.below hb2
      replace hg := below_step hg hb2
      have hA := (ho2).at_
      obtain ⟨a2, k2, hf2⟩ := (hA).form
      subst hf2
      clear ho2
      go_wp2_with fail
      refine (i_SeatsByHalves _ vs s _ hV).mono ?_
      rw [seatsV_ok hok]
      rintro e w3 ⟨p3, rfl, ho3, hb3⟩
      replace hV := hV.below hb3
      replace hA := hA.below hb3
      replace hg := below_step hg hb3
      have hB := (ho3).at_
      obtain ⟨a3, k3, hf3⟩ := (hB).form
      subst hf3
      clear ho3
      go_wp2_with fail
      refine (i_SeatsByOdds _ vs s _ hV).mono ?_
      rw [seatsV_ok hok]
      rintro e w4 ⟨p4, rfl, ho4, hb4⟩
      replace hV := hV.below hb4
      replace hA := hA.below hb4
      replace hB := hB.below hb4
      replace hg := below_step hg hb4
      have hC := (ho4).at_
      obtain ⟨a4, k4, hf4⟩ := (hC).form
      subst hf4
      clear ho4
      go_wp2_with fail
      refine (s_SeatsByRemainders _ vs s _ hV).mono ?_
      rw [remV_ok hok]
      rintro e w5 ⟨p5, rfl, ho5, hb5⟩
      replace hV := hV.below hb5
      replace hA := hA.below hb5
      replace hB := hB.below hb5
      replace hC := hC.below hb5
      replace hg := below_step hg hb5
      have hA' := (ho5).at_
      obtain ⟨a5, k5, hf5⟩ := (hA').form
      subst hf5
      clear ho5
      go_wp2_with fail
      refine (rInts_c _ _ _ _ _ hA hA').mono ?_
      rw [decide_eq_true rfl]
      rintro e w6 ⟨rfl, hb6⟩
      replace hV := hV.below hb6
      replace hA := hA.below hb6
      replace hB := hB.below hb6
      replace hC := hC.below hb6
      replace hA' := hA'.below hb6
      replace hg := below_step hg hb6
      go_wp2_with fail
      refine (s_SeatsByHalves _ vs s _ hV).mono ?_
      rw [seatsV_ok hok]
      rintro e w7 ⟨p7, rfl, ho7, hb7⟩
      replace hV := hV.below hb7
      replace hA := hA.below hb7
      replace hB := hB.below hb7
      replace hC := hC.below hb7
      replace hA' := hA'.below hb7
      replace hg := below_step hg hb7
      have hB' := (ho7).at_
      obtain ⟨a7, k7, hf7⟩ := (hB').form
      subst hf7
      clear ho7
      go_wp2_with fail
      refine (rInts_c _ _ _ _ _ hB hB').mono ?_
      rw [decide_eq_true rfl]
      rintro e w8 ⟨rfl, hb8⟩
      replace hV := hV.below hb8
      replace hA := hA.below hb8
      replace hB := hB.below hb8
      replace hC := hC.below hb8
      replace hA' := hA'.below hb8
      replace hB' := hB'.below hb8
      replace hg := below_step hg hb8
      go_wp2_with fail
      refine (s_SeatsByOdds _ vs s _ hV).mono ?_
      rw [seatsV_ok hok]
      rintro e w9 ⟨p9, rfl, ho9, hb9⟩
      replace hV := hV.below hb9
      replace hA := hA.below hb9
      replace hB := hB.below hb9
      replace hC := hC.below hb9
      replace hA' := hA'.below hb9
      replace hB' := hB'.below hb9
      replace hg := below_step hg hb9
      have hC' := (ho9).at_
      obtain ⟨a9, k9, hf9⟩ := (hC').form
      subst hf9
      clear ho9
      go_wp2_with fail
      refine (rInts_c _ _ _ _ _ hC hC').mono ?_
      rw [decide_eq_true rfl]
      rintro e w10 ⟨rfl, hb10⟩
      replace hV := hV.below hb10
      replace hA := hA.below hb10
      replace hB := hB.below hb10
      replace hC := hC.below hb10
      replace hA' := hA'.below hb10
      replace hB' := hB'.below hb10
      replace hC' := hC'.below hb10
      replace hg := below_step hg hb10
      have hR := remOk_of hok
      have hkeep := remS_keeps hR
      go_wp2_with fail
      refine (i_KeepsQuota _ vs _ (remS vs s) _ hV hA).mono ?_
      rw [hkeep.2, hkeep.1]
      rintro e w11 ⟨rfl, hb11⟩
      replace hV := hV.below hb11
      replace hA := hA.below hb11
      replace hB := hB.below hb11
      replace hC := hC.below hb11
      replace hA' := hA'.below hb11
      replace hB' := hB'.below hb11
      replace hC' := hC'.below hb11
      replace hg := below_step hg hb11
      have hvb : ∀ x ∈ vs, 0 ≤ x ∧ x ≤ 1000000 := fun x hx => by have := hR.v x hx; omega
      have hn1 := hR.n1; have hn8 := hR.n8
      obtain ⟨n, rfl⟩ : ∃ n : Nat, s = n := ⟨s.toNat, by have := hR.s0; omega⟩
      have hs50 := hR.s1
      simp only [Int.toNat_natCast] at *
      have hbq : ∀ st, ∀ x ∈ (qSeats st vs n).1, 0 ≤ x ∧ x ≤ 1000000 := fun st x hx => by have := qSeats_bd st vs n x hx; omega
      go_wp2_with fail
      refine (rSum_c _ (remS vs (n : Int)) _ hA (fun x hx => by have := rem_bd hR x hx; omega) (by rw [remS_len]; omega)).mono ?_
      rw [remS_sum hR.a]
      rintro e w' ⟨rfl, rfl⟩
      go_wp2_with fail
      refine (rSum_c _ (qSeats 1 vs n).1 _ hB (fun x hx => by have := hbq 1 x hx; omega) (by rw [qSeats_len]; omega)).mono ?_
      rw [qSeats_sum (by omega) n]
      rintro e w' ⟨rfl, rfl⟩
      go_wp2_with fail
      refine (rSum_c _ (qSeats 2 vs n).1 _ hC (fun x hx => by have := hbq 2 x hx; omega) (by rw [qSeats_len]; omega)).mono ?_
      rw [qSeats_sum (by omega) n]
      rintro e w' ⟨rfl, rfl⟩
      have hvok : votesOk vs = true := (seatsOk_parts hok).1
      go_wp2_with fail
      refine (i_AreVotes _ vs _ hV).mono ?_
      rw [hvok]
      rintro e w12 ⟨rfl, hb12⟩
      replace hV := hV.below hb12
      replace hA := hA.below hb12
      replace hB := hB.below hb12
      replace hC := hC.below hb12
      replace hA' := hA'.below hb12
      replace hB' := hB'.below hb12
      replace hC' := hC'.below hb12
      replace hg := below_step hg hb12
      by_cases h50 : (n : Int) + 1 ≤ 50
      case pos =>
        have hok2 : seatsOk vs ((n : Int) + 1) = true := by rw [seatsOk_next hok]; exact decide_eq_true h50
        have ht : ((n : Int) + 1).toNat = n + 1 := by omega
        have hz : (((n : Int) + 1) == 0) = false := by simp only [beq_eq_false_iff_ne]; omega
        have hS := fun st => seatsV_ok (st := st) hok2
        have hLv := lastV_ok hok2 hz
        rw [ht] at hLv
        simp only [ht] at hS
        obtain ⟨la, hla⟩ : ∃ la, la = (qSeats 1 vs (n + 1)).2 := ⟨_, rfl⟩
        rw [← hla] at hLv
        have HLA := Lib.hid hla; clear hla
        have HS := Lib.hid hS; have HL := Lib.hid hLv; have HK := Lib.hid hok; have HK2 := Lib.hid hok2
        clear hS hLv hok hok2 hkeep
        go_wp2_with fail
        refine (i_SeatsByHalves _ vs ((n : Int) + 1) _ hV).mono ?_
        rw [HS.out 1]
        rintro e w13 ⟨p13, rfl, ho13, hb13⟩
        replace hV := hV.below hb13
        replace hA := hA.below hb13
        replace hB := hB.below hb13
        replace hC := hC.below hb13
        replace hA' := hA'.below hb13
        replace hB' := hB'.below hb13
        replace hC' := hC'.below hb13
        replace hg := below_step hg hb13
        have hM := (ho13).at_
        obtain ⟨a13, k13, hf13⟩ := (hM).form
        subst hf13
        clear ho13
        go_wp2_with fail
        refine (i_LastSeat _ vs ((n : Int) + 1) _ hV).mono ?_
        rw [HL.out]
        rintro e w14 ⟨rfl, hb14⟩
        replace hV := hV.below hb14
        replace hA := hA.below hb14
        replace hB := hB.below hb14
        replace hC := hC.below hb14
        replace hA' := hA'.below hb14
        replace hB' := hB'.below hb14
        replace hC' := hC'.below hb14
        replace hM := hM.below hb14
        replace hg := below_step hg hb14
        have hnl : 0 < (qSeats 1 vs n).1.length := by rw [qSeats_len]; omega
        have hnl2 : 0 < (qSeats 2 vs n).1.length := by rw [qSeats_len]; omega
        have hnd : decide (0 < (qSeats 1 vs n).1.length) = true := decide_eq_true hnl
        have hnd2 : decide (0 < (qSeats 2 vs n).1.length) = true := decide_eq_true hnl2
        have hM1 := fun i (hi : i < vs.length) => qSeats_more (st := 1) (vs := vs) (s := n) (i := i) hi
        have hM2 := fun i (hi : i < vs.length) => qSeats_more (st := 2) (vs := vs) (s := n) (i := i) hi
        rw [← HLA.out] at hM1
        have hb1' := qSeats_bd 1 vs n
        have hb2' := qSeats_bd 2 vs n
        have lb1 := qSeats_len 1 vs n; have lb2 := qSeats_len 2 vs n; have lm1 := qSeats_len 1 vs (n + 1); have lm2 := qSeats_len 2 vs (n + 1)
        obtain ⟨b2, hb2e⟩ : ∃ b2, b2 = (qSeats 2 vs n).2 := ⟨_, rfl⟩
        obtain ⟨X1, hX1⟩ : ∃ X, X = (qSeats 1 vs n).1 := ⟨_, rfl⟩
        obtain ⟨X2, hX2⟩ : ∃ X, X = (qSeats 2 vs n).1 := ⟨_, rfl⟩
        obtain ⟨Y1, hY1⟩ : ∃ X, X = (qSeats 1 vs (n + 1)).1 := ⟨_, rfl⟩
        obtain ⟨Y2, hY2⟩ : ∃ X, X = (qSeats 2 vs (n + 1)).1 := ⟨_, rfl⟩
        obtain ⟨l2, hl2⟩ : ∃ X, X = (qSeats 2 vs (n + 1)).2 := ⟨_, rfl⟩
        rw [← hX1, ← hY1] at hM1
        rw [← hX2, ← hY2, ← hl2] at hM2
        rw [← hX1] at hb1' lb1 hB hnl hnd ⊢
        rw [← hX2] at hb2' lb2 hC hnl2 hnd2 ⊢
        rw [← hY1] at lm1 hM ⊢
        rw [← hY2] at lm2
        have HLB1 := Lib.hid lb1; have HLB2 := Lib.hid lb2; have HLM1 := Lib.hid lm1; have HLM2 := Lib.hid lm2
        have HM1 := Lib.hid hM1; have HM2 := Lib.hid hM2; have HB1 := Lib.hid hb1'; have HB2 := Lib.hid hb2'
        have HS2 : Hid (seatsV 2 vs ((n : Int) + 1) = (Y2, true)) := by rw [Hid, HS.out 2, hY2]
        clear hM1 hM2 hb1' hb2' lb1 lb2 lm1 lm2 hX1 hX2 hY1 hY2 hl2 hb2e HS HLA
        clear hA hA' hB' hC' hbq
        clear hnd hnd2
        go_wp2_with fail
        go_loopw [23] (fun i wr => ∃ k : Nat, k ≤ X1.length ∧ i = .int .i64 k ∧ Below w14.heap.size w14 wr) (fun i _ => X1.length - (intOf i).toNat)
        case atStart => exact ⟨0, by omega, rfl, Below.refl _ _⟩
        case round =>
          obtain ⟨k, hk, rfl, hbr⟩ := hrel
          by_cases hlt : k < X1.length
          · have hkv : k < vs.length := by rw [← HLB1.out]; exact hlt
            have hkM : k < Y1.length := by rw [HLM1.out]; exact hkv
            obtain ⟨_, _, _, hv1, q1, q2, q3⟩ := hB.below hbr
            cases hv1
            obtain ⟨g1, o1, rfl, l1, cs1⟩ := q3 (by omega)
            obtain ⟨_, _, _, hv2, p1, p2, p3⟩ := hM.below hbr
            cases hv2
            obtain ⟨g2, o2, rfl, l2, cs2⟩ := p3 (by omega)
            have c1 := cs1.intD hlt
            have c2 := cs2.intD hkM
            have hm := HM1.out k hkv
            have hbd := HB1.out _ (mem_getD hlt)
            rw [hm] at c2
            clear q3 p3 hm
            generalize X1.getD k 0 = x at *
            have hk0 : (0 : Int) ≤ (k : Int) := by omega
            have hk1 : (k : Int) < (X1.length : Int) := by omega
            have hk2 : (k : Int) < (Y1.length : Int) := by omega
            by_cases hla : k = la
            · have he1 : ((k : Int) == (la : Int)) = true := by rw [hla]; simp
              have he2 : (k == la) = true := by rw [hla]; simp
              rw [if_pos hla] at c2
              have HLAK := Lib.hid hla; clear hla
              have hx1 : (x + 1 != x + 1) = false := by simp
              have hxw : IntKind.i64.wrap (x + 1) = x + 1 := IntWalk.i64_in _ (by omega)
              go_wp2_with fail
              go_quiet (fail)
              go_wp2_with fail
              go_roundw
              case rel => exact ⟨k + 1, by omega, by go_num, Below.drewN' hbr _⟩
              case measure => simp [intOf]; omega
            · have he1 : ((k : Int) == (la : Int)) = false := by simp only [beq_eq_false_iff_ne]; omega
              have he2 : (k == la) = false := by simp only [beq_eq_false_iff_ne]; omega
              rw [if_neg hla, Int.add_zero] at c2
              have HLAK := Lib.hid hla; clear hla
              have hx1 : (x != x) = false := by simp
              have hxw : IntKind.i64.wrap x = x := IntWalk.i64_in _ (by omega)
              go_wp2_with fail
              go_quiet (fail)
              go_wp2_with fail
              go_roundw
              case rel => exact ⟨k + 1, by omega, by go_num, Below.drewN' hbr _⟩
              case measure => simp [intOf]; omega
          · obtain rfl : k = X1.length := by omega
            replace hV := hV.below hbr
            replace hC := hC.below hbr
            replace hg := below_step hg hbr
            go_wp2_with fail
            refine (i_SeatsByOdds _ vs ((n : Int) + 1) _ hV).mono ?_
            rw [HS2.out]
            rintro e wZ ⟨p, rfl, hoZ, hbZ⟩
            have hD := hoZ.at_
            obtain ⟨aZ, kZ, hfZ⟩ := hD.form
            subst hfZ
            replace hC := hC.below hbZ
            replace hg := below_step hg hbZ
            go_wp2_with fail
            go_loopw [27] (fun i wr => ∃ k : Nat, k ≤ X2.length ∧ i = .int .i64 k ∧ Below wZ.heap.size wZ wr) (fun i _ => X2.length - (intOf i).toNat)
            case atStart => exact ⟨0, by omega, rfl, Below.refl _ _⟩
            case round =>
              obtain ⟨k, hk, rfl, hbr⟩ := hrel
              by_cases hlt : k < X2.length
              · have hkv : k < vs.length := by rw [← HLB2.out]; exact hlt
                have hkM : k < Y2.length := by rw [HLM2.out]; exact hkv
                obtain ⟨_, _, _, hv1, q1, q2, q3⟩ := hC.below hbr
                cases hv1
                obtain ⟨g1, o1, rfl, l1, cs1⟩ := q3 (by omega)
                obtain ⟨_, _, _, hv2, p1, p2, p3⟩ := hD.below hbr
                cases hv2
                obtain ⟨g2, o2, rfl, l2, cs2⟩ := p3 (by omega)
                have c1 := cs1.intD hlt
                have c2 := cs2.intD hkM
                have hm := HM2.out k hkv
                have hle : ¬ Y2.getD k 0 < X2.getD k 0 := by rw [hm]; split <;> omega
                have hld : decide (Y2.getD k 0 < X2.getD k 0) = false := decide_eq_false hle
                clear q3 p3 hm
                generalize X2.getD k 0 = x at *
                generalize Y2.getD k 0 = y at *
                have hk0 : (0 : Int) ≤ (k : Int) := by omega
                have hk1 : (k : Int) < (X2.length : Int) := by omega
                have hk2 : (k : Int) < (Y2.length : Int) := by omega
                go_wp2_with fail
                go_quiet (fail)
                go_wp2_with fail
                go_roundw
                case rel => exact ⟨k + 1, by omega, by go_num, Below.drewN' hbr _⟩
                case measure => simp [intOf]; omega
              · obtain rfl : k = X2.length := by omega
                replace hg := below_step hg hbr
                go_wp2_with fail
                go_ret
                exact ⟨rfl, hg⟩
      case neg =>
        have hok2 : seatsOk vs ((n : Int) + 1) = false := by rw [seatsOk_next hok]; exact decide_eq_false h50
        have hS := fun st => seatsV_no (st := st) hok2
        have hLv := lastV_no hok2
        have HS := Lib.hid hS; have HL := Lib.hid hLv; have HK := Lib.hid hok; have HK2 := Lib.hid hok2
        clear hS hLv hok hok2 hkeep
        go_wp2_with fail
        refine (i_SeatsByHalves _ vs ((n : Int) + 1) _ hV).mono ?_
        rw [HS.out 1]
        rintro e w13 ⟨p13, rfl, ho13, hb13⟩
        replace hV := hV.below hb13
        replace hA := hA.below hb13
        replace hB := hB.below hb13
        replace hC := hC.below hb13
        replace hA' := hA'.below hb13
        replace hB' := hB'.below hb13
        replace hC' := hC'.below hb13
        replace hg := below_step hg hb13
        have hM := (ho13).at_
        obtain ⟨a13, k13, hf13⟩ := (hM).form
        subst hf13
        clear ho13
        go_wp2_with fail
        refine (i_LastSeat _ vs ((n : Int) + 1) _ hV).mono ?_
        rw [HL.out]
        rintro e w14 ⟨rfl, hb14⟩
        replace hV := hV.below hb14
        replace hA := hA.below hb14
        replace hB := hB.below hb14
        replace hC := hC.below hb14
        replace hA' := hA'.below hb14
        replace hB' := hB'.below hb14
        replace hC' := hC'.below hb14
        replace hM := hM.below hb14
        replace hg := below_step hg hb14
        have hnl : 0 < (qSeats 1 vs n).1.length := by rw [qSeats_len]; omega
        have hnl2 : 0 < (qSeats 2 vs n).1.length := by rw [qSeats_len]; omega
        have hnd : decide (0 < (qSeats 1 vs n).1.length) = true := decide_eq_true hnl
        have hnd2 : decide (0 < (qSeats 2 vs n).1.length) = true := decide_eq_true hnl2
        go_wp2_with fail
        refine wp_loop_rounds 1 ?_; rw [rounds_succ]
        go_wp2_with fail
        refine (i_SeatsByOdds _ vs ((n : Int) + 1) _ hV).mono ?_
        rw [HS.out 2]
        rintro e w15 ⟨p15, rfl, ho15, hb15⟩
        replace hV := hV.below hb15
        replace hA := hA.below hb15
        replace hB := hB.below hb15
        replace hC := hC.below hb15
        replace hA' := hA'.below hb15
        replace hB' := hB'.below hb15
        replace hC' := hC'.below hb15
        replace hM := hM.below hb15
        replace hg := below_step hg hb15
        have hD := (ho15).at_
        obtain ⟨a15, k15, hf15⟩ := (hD).form
        subst hf15
        clear ho15
        go_wp2_with fail
        refine wp_loop_rounds 1 ?_; rw [rounds_succ]
        go_wp2_with fail
        go_ret
        exact ⟨rfl, hg⟩

end Go.Proofs.Ytokjamdikenkoaa
