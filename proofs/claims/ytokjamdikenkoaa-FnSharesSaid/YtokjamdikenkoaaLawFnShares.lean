/- The walk of FnShares out of its callees' contracts: it returns true, and what was there stays. No conditions. -/
import Derived.Test.YtokjamdikenkoaaShareL
import Derived.Test.YtokjamdikenkoaaSeats
import Derived.Test.YtokjamdikenkoaaQuota
import Derived.Test.YtokjamdikenkoaaFewest
import Derived.Test.YtokjamdikenkoaaRemV
import Derived.Test.YtokjamdikenkoaaDrawS
import Derived.Test.YtokjamdikenkoaaLawU
import Derived.Deep.DeepCutAuto
namespace Go.Proofs.Ytokjamdikenkoaa
open Go.RowKit
set_option linter.unusedVariables false
set_option linter.unusedSimpArgs false

theorem remV_ok {vs : List Int} {s : Int} (h : seatsOk vs s = true) : remV vs s = (remS vs s, true) := by simp [remV, h]
theorem fewV_small {rs b : List Int} {k : Bool} (h : fewV rs = (b, k)) : b.length ≤ rs.length := by
  unfold fewV at h
  split at h
  · cases hf : few rs (2 ^ rs.length) with
    | none => rw [hf] at h; simp at h; simp [h.1]
    | some c =>
      rw [hf] at h
      simp only [Option.getD_some, Prod.mk.injEq] at h
      rw [← h.1]
      exact few_len hf
  · simp only [Prod.mk.injEq] at h
    rw [← h.1]; simp
set_option maxRecDepth 100000 in
set_option maxHeartbeats 4000000 in
theorem law_FnShares (w : World) (v : Value) (bs : List Int) (h : BytesAt w v bs) :
    Calls Try.prog 6 #[v] w fun e w' => e = .returned (.bool true) ∧ Below w.heap.size w w' := by
  have HQ := rBig_c v bs w h
  by_cases hbig : 65536 < bs.length
  · rw [decide_eq_true hbig] at HQ
    have HQ' := Lib.hid HQ; clear HQ
    go_enter Try.func6, Try.ntmps6
    go_wp2_with (go_at_call 15; refine HQ'.out.mono ?_; rintro e w' ⟨rfl, rfl⟩)
    go_ret
    exact ⟨rfl, Below.refl _ _⟩
  · rw [decide_eq_false hbig] at HQ
    have HQ' := Lib.hid HQ; clear HQ
    go_enter Try.func6, Try.ntmps6
    go_wp2_with (go_at_call 15; refine HQ'.out.mono ?_; rintro e w' ⟨rfl, rfl⟩)
    refine (draw_exactShare v bs w h (by omega)).mono ?_
    rintro e w1 ⟨u, vs, s, g, rfl, ho, hx, s0, s1, g0, g1, hb1⟩
    have hV := ho.at_
    obtain ⟨au, ku, rfl⟩ := ho.at_.form
    have hg := hb1
    replace h := h.below hb1
    clear ho
    obtain ⟨N, hN⟩ : ∃ N, N = shNum vs s g := ⟨_, rfl⟩
    obtain ⟨D, hD⟩ : ∃ D, D = shDen vs s g := ⟨_, rfl⟩
    obtain ⟨ok, hok⟩ : ∃ ok, ok = shareOk vs s g := ⟨_, rfl⟩
    go_wp2_with fail
    refine (i_ExactShare _ vs s g _ hV).mono ?_
    rw [← hN, ← hD, ← hok]
    rintro e w2 ⟨rfl, hb2⟩
    replace hV := hV.below hb2
    replace h := h.below hb2
    replace hg := below_step hg hb2
    go_wp2_with fail
    refine (s_ExactShare _ vs s g _ hV).mono ?_
    rw [← hN, ← hD, ← hok]
    rintro e w3 ⟨rfl, hb3⟩
    replace hV := hV.below hb3
    replace h := h.below hb3
    replace hg := below_step hg hb3
    have HN := Lib.hid hN; have HD := Lib.hid hD; have HO := Lib.hid hok
    clear hN hD hok hb1 hb2 hb3
    go_upto_region 8 with fail
    go_cut [94] (fun a wx => a = .bool false ∧ Below w3.heap.size w3 wx)
    case first => as_aux_lemma =>
      cases ok with
      | false =>
        go_quiet (fail)
        go_wp2_with fail
        go_meet
        exact ⟨rfl, Below.drewN' (Below.refl _ _) _⟩
      | true =>
        have hsh := share_eq HO.out.symm
        obtain ⟨b1, b2, b3, b4, b5, b6, b7, b8, b9⟩ := share_bd HO.out.symm
        obtain ⟨⟨l1, l2⟩, hvb, v0, v1⟩ := votesOk_parts b9
        rw [← HN.out, ← HD.out] at hsh
        rw [← HN.out] at b1 b2
        rw [← HD.out] at b3 b4
        obtain ⟨j, rfl⟩ : ∃ j : Nat, g = j := ⟨g.toNat, by omega⟩
        rw [Int.toNat_natCast] at hsh
        have hj : j < vs.length := by omega
        obtain ⟨_, _, _, hv1, q1, q2, q3⟩ := id hV
        cases hv1
        obtain ⟨g1', o1, rfl, l1', cs1⟩ := q3 (by omega)
        have c1 := cs1.intD hj
        have hxb := hvb _ (mem_getD hj)
        generalize vs.getD j 0 = x at *
        have m1 := mul_bd b1 b2 (Int.le_of_lt v0) v1
        have m2 := mul_bd hxb.1 hxb.2 b7 b8
        have m3 := mul_bd m2.1 m2.2 b3 b4
        have HC := Lib.hid (fun w' (hb : Below w3.heap.size w3 w') => rSum_c _ vs w' (hV.below hb) (fun x hx => by have := hvb x hx; omega) (by omega))
        clear hvb hV q3
        generalize vs.sum = A at *
        generalize hP : N * A = P at *
        generalize hR : x * s = R at *
        generalize hT : R * D = T at *
        have i1 : IntKind.i64.wrap P = P := IntWalk.i64_in _ (by omega)
        have i2 : IntKind.i64.wrap R = R := IntWalk.i64_in _ (by omega)
        have i3 : IntKind.i64.wrap T = T := IntWalk.i64_in _ (by omega)
        have i4 : (P != T) = false := by rw [hsh]; simp
        have hk0 : (0 : Int) ≤ (j : Int) := by omega
        have hk1 : (j : Int) < (vs.length : Int) := by omega
        go_quiet ((go_at_call 23; exact quiet_eq (HC.out _ (Below.drewN' (Below.refl _ _) _))))
        go_wp2_with fail
        go_meet
        exact ⟨rfl, Below.drewN' (Below.refl _ _) _⟩
    case rest => as_aux_lemma =>
      rename World => wx
      obtain ⟨rfl, hbx⟩ := hcut
      replace h := h.below hbx
      replace hg := below_step hg hbx
      clear hV hbx HN HD HO
      go_wp2_with fail
      refine (draw_keepsQuota _ bs _ h (by omega)).mono ?_
      rintro e w4 ⟨u, q, ks, ys, rfl, hU, hY, hk20, hy6, hb4⟩
      obtain ⟨a4, k4, rfl⟩ := hU.form
      obtain ⟨a5, k5, rfl⟩ := hY.form
      replace h := h.below hb4
      replace hg := below_step hg hb4
      obtain ⟨E, hE⟩ : ∃ E, E = (quotaOk ks ys && keepsB ks.sum ys.sum ks ys) := ⟨_, rfl⟩
      obtain ⟨F, hF⟩ : ∃ F, F = quotaOk ks ys := ⟨_, rfl⟩
      go_wp2_with fail
      refine (i_KeepsQuota _ ks _ ys _ hU hY).mono ?_
      rw [← hE, ← hF]
      rintro e w5 ⟨rfl, hb5⟩
      replace hU := hU.below hb5
      replace hY := hY.below hb5
      replace h := h.below hb5
      replace hg := below_step hg hb5
      go_wp2_with fail
      refine (s_KeepsQuota _ ks _ ys _ hU hY).mono ?_
      rw [← hE, ← hF]
      rintro e w6 ⟨rfl, hb6⟩
      replace h := h.below hb6
      replace hg := below_step hg hb6
      clear hU hY hb4 hb5 hb6 hE hF
      go_wp2_with fail
      refine (draw_shrinking _ bs _ h (by omega)).mono ?_
      rintro e w7 ⟨u, ws, n, rfl, hW, hw20, n0, n1, hb7⟩
      obtain ⟨a7, k7, rfl⟩ := hW.form
      replace h := h.below hb7
      replace hg := below_step hg hb7
      obtain ⟨X, hX⟩ : ∃ X, X = (shrV ws n).1 := ⟨_, rfl⟩
      obtain ⟨T, hT⟩ : ∃ T, T = (shrV ws n).2 := ⟨_, rfl⟩
      go_wp2_with fail
      refine (i_ShrinkingGroup _ ws n _ hW).mono ?_
      rw [← hX, ← hT]
      rintro e w8 ⟨rfl, hb8⟩
      replace hW := hW.below hb8
      replace h := h.below hb8
      replace hg := below_step hg hb8
      go_wp2_with fail
      refine (s_ShrinkingGroup _ ws n _ hW).mono ?_
      rw [← hX, ← hT]
      rintro e w9 ⟨rfl, hb9⟩
      replace hW := hW.below hb9
      replace h := h.below hb9
      replace hg := below_step hg hb9
      have HX := Lib.hid hX; have HT := Lib.hid hT
      clear hX hT hb7 hb8 hb9
      go_upto_if 145 with fail
      go_cut [24] (fun _ wx => Below w9.heap.size w9 wx)
      case first => as_aux_lemma =>
        cases T with
        | false =>
          go_wp2_with fail
          go_meet
          exact Below.refl _ _
        | true =>
          obtain ⟨hok1, hok2, i, hi, hi1, hi2⟩ := shrV_spec HT.out.symm
          rw [← HX.out] at hi
          subst hi
          have hl1 : (remS ws n).length = ws.length := remS_len _ _
          have hl2 : (remS ws (n + 1)).length = ws.length := remS_len _ _
          have hwr : IntKind.i64.wrap (n + 1) = n + 1 := IntWalk.i64_in _ (by omega)
          obtain ⟨P1, hP1⟩ : ∃ P, P = remS ws n := ⟨_, rfl⟩
          obtain ⟨P2, hP2⟩ : ∃ P, P = remS ws (n + 1) := ⟨_, rfl⟩
          have HR1 := Lib.hid (fun w' (hb : Below w9.heap.size w9 w') => i_SeatsByRemainders _ ws n w' (hW.below hb))
          have HR2 := Lib.hid (fun w' (hb : Below w9.heap.size w9 w') => i_SeatsByRemainders _ ws (n + 1) w' (hW.below hb))
          rw [remV_ok hok1, ← hP1] at HR1
          rw [remV_ok hok2, ← hP2] at HR2
          rw [← hP1] at hi1 hl1
          rw [← hP1, ← hP2] at hi2
          rw [← hP2] at hl2
          have hL2 : i < P2.length := by omega
          have HL1 := Lib.hid hl1; have HL2 := Lib.hid hl2
          clear hok1 hok2 hP1 hP2 hl1 hl2
          go_wp2_with fail
          refine (HR1.out _ (Below.refl _ _)).mono ?_
          rintro e wa ⟨p, rfl, ho, hba⟩
          have hA := ho.at_
          obtain ⟨pa, ka, rfl⟩ := ho.at_.form
          clear ho
          go_wp2_with fail
          refine (HR2.out _ hba).mono ?_
          rintro e wb ⟨p, rfl, ho, hbb⟩
          have hB := ho.at_
          obtain ⟨pb, kb, rfl⟩ := ho.at_.form
          have hall := below_step hba hbb
          replace hA := hA.below hbb
          obtain ⟨_, _, _, hv1, q1, q2, q3⟩ := id hA
          cases hv1
          obtain ⟨ga, oa, rfl, la, ca⟩ := q3 (by omega)
          obtain ⟨_, _, _, hv2, p1, p2, p3⟩ := id hB
          cases hv2
          obtain ⟨gb, ob, rfl, lb, cb⟩ := p3 (by omega)
          have c1 := ca.intD hi1
          have c2 := cb.intD hL2
          clear ho hba hbb hA hB q3 p3
          generalize P1.getD i 0 = x at *
          generalize P2.getD i 0 = y at *
          have hk0 : (0 : Int) ≤ (i : Int) := by omega
          have hk1 : (i : Int) < (P1.length : Int) := by omega
          have hk2 : (i : Int) < (P2.length : Int) := by omega
          have hge : decide (x ≤ y) = false := decide_eq_false (by omega)
          go_wp2_with fail
          go_quiet (fail)
          go_wp2_with fail
          go_meet
          exact Below.drewN' hall _
      case rest => as_aux_lemma =>
        rename World => wx
        replace h := h.below hcut
        replace hg := below_step hg hcut
        clear hW hcut HX HT
        go_wp2_with fail
        refine (draw_fewest _ bs _ h (by omega)).mono ?_
        rintro e w10 ⟨u, rs, rfl, ho, hr20, hb10⟩
        have hR := ho.at_
        obtain ⟨ar, kr, rfl⟩ := ho.at_.form
        replace h := h.below hb10
        replace hg := below_step hg hb10
        obtain ⟨B, hB⟩ : ∃ B, B = (fewV rs).1 := ⟨_, rfl⟩
        obtain ⟨K, hK⟩ : ∃ K, K = (fewV rs).2 := ⟨_, rfl⟩
        clear ho hb10
        go_wp2_with fail
        refine (i_FewestForMajority _ rs _ hR).mono ?_
        rw [← hB, ← hK]
        rintro e w11 ⟨p, rfl, ho, hb11⟩
        have hA := ho.at_
        obtain ⟨pa, ka, rfl⟩ := ho.at_.form
        replace hR := hR.below hb11
        replace h := h.below hb11
        replace hg := below_step hg hb11
        clear ho hb11
        go_wp2_with fail
        refine (s_FewestForMajority _ rs _ hR).mono ?_
        rw [← hB, ← hK]
        rintro e w12 ⟨p, rfl, ho, hb12⟩
        have hC := ho.at_
        obtain ⟨pc, kc, rfl⟩ := ho.at_.form
        replace hR := hR.below hb12
        replace hA := hA.below hb12
        replace h := h.below hb12
        replace hg := below_step hg hb12
        have HF : Hid (fewV rs = (B, K)) := by rw [Hid, hB, hK]
        clear ho hb12 hB hK
        go_wp2_with fail
        refine (rInts_c _ _ _ _ _ hA hC).mono ?_
        rw [decide_eq_true rfl]
        rintro e w13 ⟨rfl, hb13⟩
        replace hR := hR.below hb13
        replace hA := hA.below hb13
        replace h := h.below hb13
        replace hg := below_step hg hb13
        clear hC hb13
        go_upto_if 197 with fail
        go_cut [33] (fun _ wx => Below w13.heap.size w13 wx)
        case first => as_aux_lemma =>
          cases K with
          | false =>
            go_wp2_with fail
            go_meet
            exact Below.refl _ _
          | true =>
            obtain ⟨hr, hne, hmem, _, _⟩ := few_law HF.out
            obtain ⟨rb, r1, r2, r3, r4⟩ := resOk_parts hr
            have HC := Lib.hid (rSum_c _ rs w13 hR (fun x hx => by have := rb x hx; omega) (by omega))
            have HB := Lib.hid hmem; have HRB := Lib.hid rb
            have hBp : 0 < B.length := List.length_pos_iff.2 hne
            obtain ⟨_, _, _, hv1, q1, q2, q3⟩ := id hR
            cases hv1
            obtain ⟨gr, or, rfl, lr, cr⟩ := q3 (by omega)
            obtain ⟨_, _, _, hv2, p1, p2, p3⟩ := id hA
            cases hv2
            obtain ⟨ga, oa, rfl, la, ca⟩ := p3 (by omega)
            have hBn : B.length ≤ 8 := by
              have hle := fewV_small HF.out
              omega
            clear hr hne hmem rb q3 p3
            go_wp2_with fail
            go_loopw [33, 34, 35] (fun sm l i wr => ∃ (k : Nat) (a b : Int), k ≤ B.length ∧ i = .int .i64 k ∧ sm = .int .i64 a ∧ l = .int .i64 b ∧ FewSt rs B k a b ∧ wr = w13) (fun _ _ i _ => B.length - (intOf i).toNat)
            case atStart => exact ⟨0, 0, 50, by omega, rfl, rfl, rfl, FewSt.new _ _, rfl⟩
            case round =>
              obtain ⟨k, a, b, hk, rfl, rfl, rfl, hst, rfl⟩ := hrel
              have t1 := hst.s0; have t2 := hst.s1; have t3 := hst.l0; have t4 := hst.l1
              have HS := Lib.hid hst; clear hst
              by_cases hlt : k < B.length
              · have hm1 := HB.out _ (mem_getD hlt)
                have c1 := ca.intD hlt
                obtain ⟨j, hj⟩ : ∃ j : Nat, B.getD k 0 = j := ⟨(B.getD k 0).toNat, by omega⟩
                have hat : atL rs (B.getD k 0) = rs.getD j 0 := by rw [hj]; simp [atL]
                rw [hj] at c1 hm1
                have hjl : j < rs.length := by omega
                have c2 := cr.intD hjl
                have hxb := HRB.out _ (mem_getD hjl)
                have HS1 := Lib.hid (fun (hl : rs.getD j 0 < b) => by have := FewSt.less HS.out hlt (by rw [hat]; exact hxb.1) (by rw [hat]; exact hxb.2) (by rw [hat]; exact hl); rwa [hat] at this : rs.getD j 0 < b → FewSt rs B (k + 1) (a + rs.getD j 0) (rs.getD j 0))
                have HS2 := Lib.hid (fun (hl : ¬ rs.getD j 0 < b) => by have := FewSt.same HS.out hlt (by rw [hat]; exact hxb.1) (by rw [hat]; exact hxb.2) (by rw [hat]; exact hl); rwa [hat] at this : ¬ rs.getD j 0 < b → FewSt rs B (k + 1) (a + rs.getD j 0) b)
                clear hj hat
                generalize rs.getD j 0 = x at *
                have hk0 : (0 : Int) ≤ (k : Int) := by omega
                have hk1 : (k : Int) < (B.length : Int) := by omega
                have hj0 : (0 : Int) ≤ (j : Int) := by omega
                have hj1 : (j : Int) < (rs.length : Int) := by omega
                have hw1 : IntKind.i64.wrap (a + x) = a + x := IntWalk.i64_in _ (by omega)
                by_cases hl : x < b
                · have hs := Lib.hid (HS1.out hl)
                  clear HS1 HS2
                  go_wp2_with fail
                  go_roundw
                  case rel => exact ⟨k + 1, a + x, x, by omega, by go_num, by go_num, rfl, hs.out, by first | rfl | trivial⟩
                  case measure => simp [intOf]; omega
                · have hs := Lib.hid (HS2.out hl)
                  clear HS1 HS2
                  go_wp2_with fail
                  go_roundw
                  case rel => exact ⟨k + 1, a + x, b, by omega, by go_num, by go_num, rfl, hs.out, by first | rfl | trivial⟩
                  case measure => simp [intOf]; omega
              · obtain rfl : k = B.length := by omega
                obtain ⟨d1, d2⟩ := HS.out.done HF.out
                have e1 : IntKind.i64.wrap (2 * a) = 2 * a := IntWalk.i64_in _ (by omega)
                have e2 : IntKind.i64.wrap (a - b) = a - b := IntWalk.i64_in _ (by omega)
                have e3 : IntKind.i64.wrap (2 * (a - b)) = 2 * (a - b) := IntWalk.i64_in _ (by omega)
                generalize rs.sum = S at *
                go_wp2_with (go_at_call 23; refine HC.out.mono ?_; rintro e w' ⟨rfl, rfl⟩)
                go_meet
                exact Below.refl _ _
        case rest => as_aux_lemma =>
          rename World => wy
          replace h := h.below hcut
          replace hg := below_step hg hcut
          clear hR hA hcut HF
          go_wp2_with fail
          refine (draw_lastSeat _ bs _ h (by omega)).mono ?_
          rintro e w14 ⟨u, vs, s, rfl, ho, hx, s0, s1, hb14⟩
          have hV := ho.at_
          obtain ⟨av, kv, rfl⟩ := ho.at_.form
          replace hg := below_step hg hb14
          obtain ⟨X, hX⟩ : ∃ X, X = (lastV vs s).1 := ⟨_, rfl⟩
          obtain ⟨Y, hY⟩ : ∃ Y, Y = (lastV vs s).2 := ⟨_, rfl⟩
          clear ho h hb14
          go_wp2_with fail
          refine (i_LastSeat _ vs s _ hV).mono ?_
          rw [← hX, ← hY]
          rintro e w15 ⟨rfl, hb15⟩
          replace hV := hV.below hb15
          replace hg := below_step hg hb15
          go_wp2_with fail
          refine (s_LastSeat _ vs s _ hV).mono ?_
          rw [← hX, ← hY]
          rintro e w16 ⟨rfl, hb16⟩
          replace hg := below_step hg hb16
          clear hX hY
          go_wp2_with fail
          go_ret
          exact ⟨by simp, hg⟩

end Go.Proofs.Ytokjamdikenkoaa
