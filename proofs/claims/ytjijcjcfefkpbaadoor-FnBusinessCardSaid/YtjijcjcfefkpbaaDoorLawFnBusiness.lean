/- The walk of FnBusiness out of its callees' contracts: it returns true, and what was there stays. No conditions. -/
import Derived.Test.YtjijcjcfefkpbaaDoorDrawB
import Derived.Test.YtjijcjcfefkpbaaDoorDrawT
import Derived.Test.YtjijcjcfefkpbaaDoorBusL
import Derived.Test.YtjijcjcfefkpbaaDoorLawT
import Derived.Test.YtjijcjcfefkpbaaDoorLawU
import Derived.Test.YtjijcjcfefkpbaaDoorSessT
import Derived.Test.YtjijcjcfefkpbaaDoorSpanS
import Derived.Test.YtjijcjcfefkpbaaDoorSpanI
import Derived.Test.YtjijcjcfefkpbaaDoorSessGo
import Derived.Test.YtjijcjcfefkpbaaDoorSessCome
import Derived.Test.YtjijcjcfefkpbaaDoorBw
import Derived.Deep.DeepCutAuto
import Derived.Deep.CutBlock
namespace Go.Proofs.YtjijcjcfefkpbaaDoor
open Go.RowKit
set_option linter.unusedVariables false
set_option linter.unusedSimpArgs false

set_option maxRecDepth 100000 in
set_option maxHeartbeats 60000000 in
theorem law_FnBusiness (w : World) (v : Value) (bs : List Int) (h : BytesAt w v bs) (hT : TabAt w) :
    Calls Tryd.prog 4 #[v] w fun e w' => e = .returned (.bool true) ∧ Below w.heap.size w w' := by
  have HQ := rBig_c v bs w h
  obtain ⟨ao, cap, rfl⟩ := h.1.form
  by_cases hbig : 65536 < bs.length
  · rw [decide_eq_true hbig] at HQ
    have HQ' := Lib.hid HQ; clear HQ
    go_enter Tryd.func4, Tryd.ntmps4
    go_wp2_with (go_at_call 10; refine HQ'.out.mono ?_; rintro e w' ⟨rfl, rfl⟩)
    go_ret
    exact ⟨rfl, Below.refl _ _⟩
  · rw [decide_eq_false hbig] at HQ
    have HQ' := Lib.hid HQ; clear HQ
    have hl : bs.length ≤ 65537 := by omega
    clear hbig
    have hg := Below.refl w.heap.size w
    go_enter Tryd.func4, Tryd.ntmps4
    go_wp2_with (go_at_call 10; refine HQ'.out.mono ?_; rintro e w' ⟨rfl, rfl⟩)
    refine (draw_BusinessSpans _ bs _ h hl).mono ?_
    rintro e w1 ⟨en, nu, de, uA, pr, re, vM, ms, rfl, hA, hM, hx, hm30, hbw1⟩
    replace h := h.below hbw1
    replace hT := hT.below hbw1
    replace hg := below_step hg hbw1
    obtain ⟨aA, kA, rfl⟩ := hA.form
    obtain ⟨aM, kM, rfl⟩ := hM.form
    have hn : pr.length ≤ 1048576 := by omega
    obtain ⟨⟨sp, ok⟩, hP⟩ : ∃ V, V = spansV ⟨en, nu, de, pr, re⟩ ms := ⟨_, rfl⟩
    have HP := Lib.hid hP; clear hP
    go_wp2_with (
      with_reducible change Go.wpList _ _ _ (Oper.mk _ (Op.load _ _) _ _ _ _ :: _) _ (World.alloc _ _)
      generalize hV : World.alloc _ _ = w2
      have hbw2 : Below w1.heap.size w1 w2 := by rw [← hV]; exact (Below.refl _ _).alloc (Nat.le_refl _) _
      have bxA : BoxAt w2 w1.heap.size #[.int .i64 en, .int .i64 nu, .int .i64 de, (.slice aA pr.length kA), .int .i64 re] := by rw [← hV]; exact BoxAt.new _ _ _
      replace h := h.below hbw2
      replace hT := hT.below hbw2
      replace hA := hA.below hbw2
      replace hM := hM.below hbw2
      replace hg := below_step hg hbw2
      have cxA := bxA.cells
      clear hV)
    refine (i_BusinessSpans _ _ _ _ pr _ _ ms _ hA hM hn).mono ?_
    rw [← HP.out]
    dsimp only
    rintro e w3 ⟨pP1, rfl, hoP1, hbw3⟩
    replace h := h.below hbw3
    replace hT := hT.below hbw3
    replace hA := hA.below hbw3
    replace hM := hM.below hbw3
    replace bxA := bxA.below hbw3
    replace cxA := bxA.cells
    replace hg := below_step hg hbw3
    have hP1 : IntSSAt _ _ _ := OwnNest.at_ hoP1
    obtain ⟨aP1, kP1, rfl⟩ := hP1.form
    clear hoP1
    go_wp2_with fail
    refine (s_BusinessSpans _ _ _ _ pr _ _ ms _ hA hM hn).mono ?_
    rw [← HP.out]
    dsimp only
    rintro e w4 ⟨pP2, rfl, hoP2, hbw4⟩
    replace h := h.below hbw4
    replace hT := hT.below hbw4
    replace hA := hA.below hbw4
    replace hM := hM.below hbw4
    replace hP1 := hP1.below hbw4
    replace bxA := bxA.below hbw4
    replace cxA := bxA.cells
    replace hg := below_step hg hbw4
    have hP2 : IntSSAt _ _ _ := OwnNest.at_ hoP2
    obtain ⟨aP2, kP2, rfl⟩ := hP2.form
    clear hoP2
    go_wp2_with fail
    refine (rTable_eq _ _ sp _ hP1 hP2).mono ?_
    rintro e w5 ⟨rfl, hbw5⟩
    replace h := h.below hbw5
    replace hT := hT.below hbw5
    replace hA := hA.below hbw5
    replace hM := hM.below hbw5
    replace hP1 := hP1.below hbw5
    replace hP2 := hP2.below hbw5
    replace bxA := bxA.below hbw5
    replace cxA := bxA.cells
    replace hg := below_step hg hbw5
    go_upto_if 51 with fail
    go_cut [52] (fun _ wx => Below w5.heap.size w5 wx)
    case first => as_aux_lemma =>
      have hq := Below.refl w5.heap.size w5
      cases ok with
      | false =>
        go_wp2_with fail
        go_meet
        exact hq
      | true =>
        obtain ⟨h1s, h20, hsp, hmv⟩ := spansV_ok HP.out.symm
        have hnow := Lib.hid (nowS_ok h1s hmv)
        have hinv : Hid (SpInv sp (ms.length + 1) (quoS ⟨en, nu, de, pr, re⟩ ms)) := by rw [Hid, hsp]; exact spanT_inv _ _ _
        have HMV := Lib.hid hmv
        have hspl : sp.length ≤ 22 := by
          have h0 := (spanF_ok ms 0 ⟨en, nu, de, pr, re⟩ [] (fun r hr => by cases hr)).2
          have h1 := HP.out
          unfold spansV at h1
          split at h1
          · have h2 := congrArg Prod.fst h1
            rw [← h2] at h0
            dsimp only at h0
            simp only [List.length_nil] at h0
            omega
          · have h2 := congrArg Prod.snd h1
            cases h2
        clear hmv hsp h1s HP
        obtain ⟨S0, hS0⟩ : ∃ S0 : DSess, S0 = ⟨en, nu, de, pr, re⟩ := ⟨_, rfl⟩
        have hpr0 : (nowS S0 ms 0).pr = pr := by rw [hS0]; rfl
        rw [← hS0] at hnow hinv HMV
        have hses : Hid (∀ k, k ≤ ms.length → nowS S0 ms k = ⟨en, nu, de, (nowS S0 ms k).pr, re⟩ ∧ sessOk en nu de (nowS S0 ms k).pr re = true) := fun k hk => by
          obtain ⟨e1, e2, e3, e4, e5⟩ := hnow.out k hk
          rw [hS0] at e1 e2 e3 e4 e5
          dsimp only at e1 e2 e3 e4 e5
          rw [← hS0] at e1 e2 e3 e4 e5
          refine ⟨?_, e5⟩
          cases hc : nowS S0 ms k with
          | mk a b c d e =>
            rw [hc] at e1 e2 e3 e4
            dsimp only at e1 e2 e3 e4
            rw [e1, e2, e3, e4]
        clear hnow hS0
        obtain ⟨b9, hb9⟩ : ∃ b9, b9 = w5.heap.size := ⟨_, rfl⟩
        obtain ⟨W9, hW9⟩ : ∃ W9, W9 = w5.alloc (.cells #[.int .i64 en, .int .i64 nu, .int .i64 de, .slice aA pr.length kA, .int .i64 re] 28) := ⟨_, rfl⟩
        have bx9 : BoxAt W9 b9 #[.int .i64 en, .int .i64 nu, .int .i64 de, .slice aA pr.length kA, .int .i64 re] := by rw [hW9, hb9]; exact BoxAt.new _ _ _
        have hb09 : Below w5.heap.size w5 W9 := by rw [hW9]; exact alQ _ _
        have HW9 := Lib.hid hW9; have HB9 := Lib.hid hb9
        clear hW9 hb9
        go_upto_region 10 with fail
        rw [← HW9.out, ← HB9.out]
        go_wp2_with fail
        go_loopw [10, 11, 12, 13, 14, 15, 16] (fun i _ _ _ _ _ _ wr => ∃ (k : Nat) (u : Value), k ≤ ms.length + 1 ∧ i = .int .i64 k ∧ BoxAt wr b9 #[.int .i64 en, .int .i64 nu, .int .i64 de, u, .int .i64 re] ∧ IntsAt wr u (nowS S0 ms (k - 1)).pr ∧ Hid (∀ w', OutOf b9 (b9 + 1) wr w' → IntsAt w' u (nowS S0 ms (k - 1)).pr) ∧ Below w5.heap.size w5 wr) (fun i _ _ _ _ _ _ _ => ms.length + 1 - (intOf i).toNat)
        case atStart =>
          refine ⟨0, _, by omega, rfl, bx9, ?_, fun w' ho => ?_, hb09⟩
          · rw [hpr0]; exact hA.below hb09
          · rw [hpr0]; exact hA.below (hb09.trans (ho.below (by rw [HB9.out]; exact Nat.le_refl _) hb09.size))
        case round =>
          rename World => wa
          clear bx9 hb09 HW9
          obtain ⟨k, u, hk, rfl, hB, hU, hUK, hbr⟩ := hrel
          obtain ⟨au, ku, rfl⟩ := hU.form
          have hMr := hM.below hbr
          have hPr := hP1.below hbr
          by_cases hkl : k ≤ ms.length
          · have hkI : (k : Int) ≤ (ms.length : Int) := by omega
            go_upto_if 60 with fail
            go_cut [11, 12] from 53 to 129 (fun _ _ wx => ∃ u, BoxAt wx b9 #[.int .i64 en, .int .i64 nu, .int .i64 de, u, .int .i64 re] ∧ IntsAt wx u (nowS S0 ms k).pr ∧ Hid (∀ w', OutOf b9 (b9 + 1) wx w' → IntsAt w' u (nowS S0 ms k).pr) ∧ Below w5.heap.size w5 wx)
            case first =>
              by_cases hk0 : k = 0
              · subst hk0
                go_wp2_with fail
                go_meet
                exact ⟨_, hB, hU, hUK, hbr⟩
              · obtain ⟨qs, hqs⟩ : ∃ qs, qs = (nowS S0 ms (k - 1)).pr := ⟨_, rfl⟩
                have hkp : 0 < k := by omega
                have hjl : k - 1 < ms.length := by omega
                obtain ⟨hnw, hsk⟩ := hses.out (k - 1) (by omega)
                have hmo := HMV.out (k - 1) hjl
                rw [getD_m hjl, hnw] at hmo
                have hnx : nowS S0 ms k = (moveS ⟨en, nu, de, qs, re⟩ ms[k - 1]).1 := by
                  have e : k = (k - 1) + 1 := by omega
                  conv => lhs; rw [e]
                  simp only [nowS]
                  rw [getD_m hjl, hnw, ← hqs]
                rw [← hqs] at hmo hsk hU hUK hB
                obtain ⟨m, hm⟩ : ∃ m, m = ms[k - 1] := ⟨_, rfl⟩
                obtain ⟨_, _, _, hme, q1, q2, q3⟩ := hMr
                cases hme
                unfold maxLen at q2
                obtain ⟨bm, om, rfl, lm, csM⟩ := q3 (by omega)
                have d0 := csM.int hjl
                rw [← hm] at hmo hnx d0
                have HNX := Lib.hid hnx; have HMO := Lib.hid hmo
                have hql : qs.length ≤ 1048576 := by have := sess_len hsk; omega
                clear hqs hnw hm hnx hmo q3 csM hU
                have hUw : ∀ w', Below wa.heap.size wa w' → IntsAt w' (.slice au qs.length ku) qs := fun w' hb => hUK.out w' (OutOf.of_below hb)
                have HUw := Lib.hid hUw; clear hUw
                obtain ⟨⟨⟨en1, nu1, de1, pr1, re1⟩, ok⟩, hMv⟩ : ∃ M, M = comeIn ⟨en, nu, de, qs, re⟩ m := ⟨_, rfl⟩
                have HMC := Lib.hid hMv
                clear hMv
                have hw1 : IntKind.i64.wrap ((k : Int) - 1) = (k : Int) - 1 := IntWalk.i64_in _ (by omega)
                have hw2 : ((k : Int) - 1).toNat = k - 1 := by omega
                have hw3 : (0 : Int) ≤ (k : Int) - 1 := by omega
                have hw4 : (k : Int) - 1 < (ms.length : Int) := by omega
                have hw7 : (1 : Int) ≤ (k : Int) := by omega
                have hw8 : (0 : Int) < (k : Int) := by omega
                have cB := hB.cells
                have fB := hB.free
                have hBs := hB.1
                go_upto_region 14 with fail
                go_cut [11, 12] from 53 to 129 (fun p b wx => SpanNx wa wa wx en nu de re (.slice au qs.length ku) (⟨en1, nu1, de1, pr1, re1⟩, ok) p b)
                case first =>
                  go_region_law (first
                    | ((refine step_call2 (by rfl) 15 (.tmp 62) (.tmp 67) _ _ (by rfl) (enters_of Tryd.func15 (by kernel_rfl) (by kernel_rfl)) (vSess en nu de (.slice au qs.length ku) re) (.int .i64 m) (by rfl) (by rfl) ?_);
                       (refine (i_ComeIn en nu de _ qs re m _ (HUw.out _ (Below.drew (alQ wa (.cells #[.int .i64 0, .int .i64 0, .int .i64 0, .slice none 0 0, .int .i64 0] 28)))) hql).mono ?_); (rw [← HMC.out]); (dsimp only); (rintro e w4 ⟨u1, rfl, ho4, hb4'⟩); (refine ⟨_, rfl, ?_⟩);
                       (have hb4 : Below wa.heap.size wa w4 := below_step (Below.drew (alQ wa (.cells #[.int .i64 0, .int .i64 0, .int .i64 0, .slice none 0 0, .int .i64 0] 28))) hb4'); (obtain ⟨a4, k4, rfl⟩ := (OwnI.at_ ho4 : IntsAt w4 u1 pr1).form); (have B4 := hB.below hb4); (have c4 := B4.cells); (have f4 := B4.free);
                       (have BN : BoxAt w4 wa.heap.size #[.int .i64 0, .int .i64 0, .int .i64 0, .slice none 0 0, .int .i64 0] := BoxAt.below (w := (wa.alloc (.cells #[.int .i64 0, .int .i64 0, .int .i64 0, .slice none 0 0, .int .i64 0] 28)).drew) (BoxAt.new _ _ _) hb4'); (have cN := BN.cells); (have fN := BN.free))
                    | ((refine step_call2 (by rfl) 15 (.tmp 62) (.tmp 67) _ _ (by rfl) (enters_of Tryd.func15 (by kernel_rfl) (by kernel_rfl)) (vSess en nu de (.slice au qs.length ku) re) (.int .i64 m) (by rfl) (by rfl) ?_);
                       (refine (i_ComeIn en nu de _ qs re m _ (HUw.out _ (Below.drew (Below.refl _ wa))) hql).mono ?_); (rw [← HMC.out]); (dsimp only); (rintro e w4 ⟨u1, rfl, ho4, hb4'⟩); (refine ⟨_, rfl, ?_⟩);
                       (have hb4 : Below wa.heap.size wa w4 := undrew hb4'); (obtain ⟨a4, k4, rfl⟩ := (OwnI.at_ ho4 : IntsAt w4 u1 pr1).form); (have B4 := hB.below hb4); (have c4 := B4.cells); (have f4 := B4.free)))
                  all_goals first | go_meet | (go_wp2_with fail; go_meet)
                  all_goals first
                    | (obtain ⟨BX, OX⟩ := box5 (.int .i64 en1) (.int .i64 nu1) (.int .i64 de1) (.slice a4 pr1.length k4) (.int .i64 re1) BN
                       have ho5 : OwnInts w4 (wa.heap.size + 1) (.slice a4 pr1.length k4) pr1 := by simpa using ho4
                       exact ⟨wa.heap.size, a4, k4, rfl, rfl, Nat.le_refl _, BX, own_base (own_outQ ho5 OX) (by omega), (fun e => by have := (ho5.lt _ e).1; omega), hb4.trans (OX.below (Nat.le_refl _) hb4.size)⟩)
                    | exact ⟨w4.heap.size, a4, k4, rfl, rfl, hb4.size, BoxAt.new _ _ _, own_base (OwnI.below ho4 (alQ _ _)) (Nat.le_refl _), (fun e => by have := (ho4.lt _ e).2; omega), hb4.trans ((alQ w4 _).mono hb4.size)⟩
                case rest =>
                  rename World => wc
                  obtain ⟨nx, an, kn, hp, hbv, hnx, bN, oN, hnb, hbc⟩ := hcut
                  subst hp hbv
                  have hb9l := hBs
                  have hbs := hbc.size
                  replace hB := hB.below hbc
                  have hBs2 := hB.1
                  have hUc := HUw.out wc hbc
                  replace hbr := below_step hbr hbc
                  have d1 : wc.cell? ⟨bm, om + (k - 1), none⟩ = some (.int .i64 m) := (hbc.cell (p := ⟨bm, om + (k - 1), none⟩) lm).trans d0
                  have lm' : bm < wc.heap.size := by omega
                  have nlt := bN.1
                  dsimp only at bN oN
                  clear cB fB d0 lm q1
                  have cN := bN.cells
                  have fN := bN.free
                  have cB := hB.cells
                  have fB := hB.free
                  have hnw1 : ¬ b9 = nx := by omega
                  have hnw2 : ¬ nx = b9 := by omega
                  by_cases hm0 : m < 0
                  · obtain ⟨⟨⟨en2, nu2, de2, pr2, re2⟩, ok2⟩, hG⟩ : ∃ M, M = goOut ⟨en, nu, de, qs, re⟩ (IntKind.i64.wrap (-m)) := ⟨_, rfl⟩
                    have HM : Hid ((⟨⟨en2, nu2, de2, pr2, re2⟩, ok2⟩ : DSess × Bool) = moveS ⟨en, nu, de, qs, re⟩ m) := by rw [Hid, hG, moveS_neg hm0]
                    obtain rfl : ok2 = true := by have h1 := HMO.out; rw [← HM.out] at h1; exact h1
                    have HG := Lib.hid hG
                    clear hG HMC
                    obtain ⟨y, hy⟩ : ∃ y, y = IntKind.i64.wrap (-m) := ⟨_, rfl⟩
                    have HY := Lib.hid hy
                    have hy' : IntKind.i64.wrap (-m) = y := hy.symm
                    clear hy
                    go_upto_region 16 with fail
                    go_cut [12] from 53 to 129 (fun b wx => b = .bool true ∧ ∃ a k, BoxAt wx nx #[.int .i64 en2, .int .i64 nu2, .int .i64 de2, .slice a pr2.length k, .int .i64 re2] ∧ OwnInts wx wc.heap.size (.slice a pr2.length k) pr2 ∧ BoxAt wx b9 #[.int .i64 en, .int .i64 nu, .int .i64 de, .slice au qs.length ku, .int .i64 re] ∧ Below w5.heap.size w5 wx)
                    case first =>
                      go_region_law (first
                        | ((refine step_call2 (by rfl) 16 (.tmp 78) (.tmp 84) _ _ (by rfl) (enters_of Tryd.func16 (by kernel_rfl) (by kernel_rfl)) (vSess en nu de (.slice au qs.length ku) re) (.int .i64 y) (by rfl) (by first | rfl | (simp only [← hy']; rfl)) ?_);
                           (refine (i_GoOut en nu de _ qs re y _ (hUc.below (by first | exact Below.refl _ _ | exact Below.drew (Below.refl _ _))) hql).mono ?_); (rw [← HY.out] at HG); (rw [← HG.out]); (dsimp only); (rintro e w4 ⟨u1, rfl, ho4, hb4'⟩); (refine ⟨_, rfl, ?_⟩);
                           (have hb4 : Below wc.heap.size wc w4 := by first | exact hb4' | exact undrew hb4'); (obtain ⟨a4, k4, rfl⟩ := (OwnI.at_ ho4 : IntsAt w4 u1 pr2).form); (have B4 := hB.below hb4); (have c4 := B4.cells); (have f4 := B4.free); (have N4 := bN.below hb4); (have n4 := N4.cells); (have g4 := N4.free)))
                      all_goals
                        obtain ⟨BN, ON⟩ := box5 (.int .i64 en2) (.int .i64 nu2) (.int .i64 de2) (.slice a4 pr2.length k4) (.int .i64 re2) N4
                        have hs4 := hb4.size
                        have ho4' := own_outQ (show OwnInts w4 wc.heap.size (.slice a4 pr2.length k4) pr2 by simpa using ho4) ON (by omega)
                        have BZ := ON.box B4 (.inl (by omega))
                        have hbz := (below_step hbr hb4).trans (ON.below (B := w5.heap.size) (by have := hbr.size; have := HB9.out; omega) (by have := hbr.size; omega))
                        first | go_meet | (go_wp2_with fail; go_meet)
                        exact ⟨rfl, a4, k4, BN, ho4', BZ, hbz⟩
                    case rest =>
                      rename World => wz
                      obtain ⟨hbo, a4, k4, BN, ho4', BZ, hbz⟩ := hcut
                      subst hbo
                      have cz := BN.cells
                      have fz := BN.free
                      have cZ := BZ.cells
                      have fZ := BZ.free
                      have hbz9 := BZ.1
                      clear cB fB cN fN hB hbr bN oN d1
                      obtain ⟨e1, e2, e3, e4, _⟩ := moveS_ok HM.out
                      dsimp only at e1 e2 e3 e4
                      have e1' := e1.symm; have e2' := e2.symm; have e3' := e3.symm; have e4' := e4.symm
                      clear e1 e2 e3 e4
                      subst e1' e2' e3' e4'
                      have hpk : Hid ((nowS S0 ms k).pr = pr2) := by rw [Hid, HNX.out, ← HM.out]
                      obtain ⟨BX, OX⟩ := box5 (.int .i64 en) (.int .i64 nu) (.int .i64 de) (.slice a4 pr2.length k4) (.int .i64 re) BZ
                      clear HM HG HNX HMO
                      go_wp2_with fail
                      go_meet
                      have hoz := own_outQ ho4' OX (by omega)
                      exact ⟨_, BX, by rw [hpk.out]; exact OwnI.at_ hoz, fun w' ho => by rw [hpk.out]; exact OwnI.at_ (own_outQ hoz ho (by omega)), hbz.trans (OX.below (Nat.le_of_eq HB9.out.symm) hbz.size)⟩
                  · have HM : Hid ((⟨⟨en1, nu1, de1, pr1, re1⟩, ok⟩ : DSess × Bool) = moveS ⟨en, nu, de, qs, re⟩ m) := by rw [Hid, moveS_nn hsk hm0]; exact HMC.out
                    obtain rfl : ok = true := by have h1 := HMO.out; rw [← HM.out] at h1; exact h1
                    clear HMC
                    obtain ⟨e1, e2, e3, e4, _⟩ := moveS_ok HM.out
                    dsimp only at e1 e2 e3 e4
                    have e1' := e1.symm; have e2' := e2.symm; have e3' := e3.symm; have e4' := e4.symm
                    clear e1 e2 e3 e4
                    subst e1' e2' e3' e4'
                    have hpk : Hid ((nowS S0 ms k).pr = pr1) := by rw [Hid, HNX.out, ← HM.out]
                    obtain ⟨BX, OX⟩ := box5 (.int .i64 en) (.int .i64 nu) (.int .i64 de) (.slice an pr1.length kn) (.int .i64 re) hB
                    clear HM HNX HMO
                    go_wp2_with fail
                    go_meet
                    have hoz := own_outQ oN OX (by omega)
                    exact ⟨_, BX, by rw [hpk.out]; exact OwnI.at_ hoz, fun w' ho => by rw [hpk.out]; exact OwnI.at_ (own_outQ hoz ho (by omega)), hbr.trans (OX.below (Nat.le_of_eq HB9.out.symm) hbr.size)⟩
            case rest =>
              rename World => wb
              obtain ⟨ub, hB2, hU2, hUK2, hb2⟩ := hcut
              clear hB hU hUK hbr hMr hPr
              obtain ⟨a2, k2, rfl⟩ := hU2.form
              obtain ⟨hnw, hsk⟩ := hses.out k hkl
              obtain ⟨qs, hqs⟩ : ∃ qs, qs = (nowS S0 ms k).pr := ⟨_, rfl⟩
              have hPr := hP1.below hb2
              have hcv : Hid (inSp sp k = quorumB en nu de qs) := by
                rw [Hid, hinv.out.cov k (by omega)]
                unfold quoS
                rw [hnw, ← hqs]
              have hk1 : Hid ((nowS S0 ms (k + 1 - 1)).pr = qs) := by rw [Hid, show k + 1 - 1 = k by omega, hqs]
              rw [← hqs] at hsk hU2 hUK2 hB2
              have HSK := Lib.hid hsk
              clear hnw hqs hsk
              go_wp2_with fail
              go_loopw [13, 14] (fun sh j wr => ∃ q : Nat, q ≤ sp.length ∧ sh = .bool (inSp (sp.take q) (k : Int)) ∧ j = .int .i64 q ∧ Below wb.heap.size wb wr) (fun _ j _ => sp.length - (intOf j).toNat)
              case atStart => exact ⟨0, by omega, by simp [inSp], rfl, Below.refl _ _⟩
              case round =>
                obtain ⟨q, hq, rfl, rfl, hb3⟩ := hrel
                rename World => wc
                have hPc := hPr.below hb3
                by_cases hlt : q < sp.length
                · have hqI : (q : Int) < (sp.length : Int) := by omega
                  obtain ⟨a, b, hr, r1, r2, r3⟩ := hinv.out.row _ (List.getElem_mem hlt)
                  obtain ⟨pb, po, pu, rfl, p1, s1, c1⟩ := hPc.get hlt
                  rw [hr] at s1
                  obtain ⟨_, ao2, cap2, rfl, z1, z2, z3⟩ := s1
                  obtain ⟨rb, ro, rfl, y1, y2⟩ := z3 (by simp)
                  have e0 := y2 0 (by simp [ints])
                  have e1 := y2 1 (by simp [ints])
                  simp [ints] at e0 e1
                  unfold maxLen at z2
                  have HTK := Lib.hid (inSp_take hlt hr (k : Int))
                  clear y2 hr hPc
                  generalize inSp (sp.take q) (k : Int) = sh at *
                  cases sh with
                  | true =>
                    have HT : Hid (inSp (sp.take (q + 1)) (k : Int) = true) := by rw [Hid, HTK.out]; rfl
                    clear HTK
                    go_wp2_with fail
                    go_roundw
                    case rel => exact ⟨q + 1, by omega, by rw [HT.out], by go_num, hb3⟩
                    case measure => simp [intOf]; omega
                  | false =>
                    by_cases g1 : a ≤ (k : Int)
                    · by_cases g2 : (k : Int) ≤ b
                      · have HT : Hid (inSp (sp.take (q + 1)) (k : Int) = true) := by rw [Hid, HTK.out, decide_eq_true g1, decide_eq_true g2]; rfl
                        clear HTK
                        go_wp2_with fail
                        go_roundw
                        case rel => exact ⟨q + 1, by omega, by rw [HT.out], by go_num, hb3⟩
                        case measure => simp [intOf]; omega
                      · have HT : Hid (inSp (sp.take (q + 1)) (k : Int) = false) := by rw [Hid, HTK.out, decide_eq_false g2, Bool.and_false]; rfl
                        clear HTK
                        go_wp2_with fail
                        go_roundw
                        case rel => exact ⟨q + 1, by omega, by rw [HT.out], by go_num, hb3⟩
                        case measure => simp [intOf]; omega
                    · have HT : Hid (inSp (sp.take (q + 1)) (k : Int) = false) := by rw [Hid, HTK.out, decide_eq_false g1]; rfl
                      clear HTK
                      go_wp2_with fail
                      go_roundw
                      case rel => exact ⟨q + 1, by omega, by rw [HT.out], by go_num, hb3⟩
                      case measure => simp [intOf]; omega
                · have hqI : ¬ (q : Int) < (sp.length : Int) := by omega
                  have hsh : inSp (sp.take q) (k : Int) = quorumB en nu de qs := by rw [List.take_of_length_le (by omega)]; exact hcv.out
                  rw [hsh]
                  clear hsh
                  have hB3 := hB2.below hb3
                  have hU3 := hU2.below hb3
                  have c3 := hB3.cells
                  go_wp2_with fail
                  refine (i_HasQuorum en nu de _ qs re _ hU3).mono ?_
                  rw [HSK.out, Bool.true_and]
                  rintro e w5 ⟨rfl, hb5⟩
                  have hB5 := hB3.below hb5
                  have hU5 := hU3.below hb5
                  have hbB := below_step (below_step hb2 hb3) hb5
                  have hUK5 : Hid (∀ w', OutOf b9 (b9 + 1) w5 w' → IntsAt w' (.slice a2 qs.length k2) qs) := fun w' ho => hUK2.out w' (((OutOf.of_below hb3).trans (OutOf.of_below hb5)).trans ho)
                  clear c3 hcv HSK
                  generalize quorumB en nu de qs = c at *
                  cases c with
                  | true =>
                    go_wp2_with fail
                    go_roundw
                    case rel => exact ⟨k + 1, _, by omega, by go_num, hB5, by rw [hk1.out]; exact hU5, fun w' ho => by rw [hk1.out]; exact hUK5.out w' ho, hbB⟩
                    case measure => simp [intOf]; omega
                  | false =>
                    go_wp2_with fail
                    go_roundw
                    case rel => exact ⟨k + 1, _, by omega, by go_num, hB5, by rw [hk1.out]; exact hU5, fun w' ho => by rw [hk1.out]; exact hUK5.out w' ho, hbB⟩
                    case measure => simp [intOf]; omega
          · have hkI : ¬ (k : Int) ≤ (ms.length : Int) := by omega
            clear hB hU hUK hMr
            go_wp2_with fail
            go_loopw [17] (fun i wr => ∃ q : Nat, 1 ≤ q ∧ q ≤ sp.length + 1 ∧ i = .int .i64 q ∧ Below wa.heap.size wa wr) (fun i _ => sp.length + 1 - (intOf i).toNat)
            case atStart => exact ⟨1, by omega, by omega, rfl, Below.refl _ _⟩
            case round =>
              obtain ⟨q, hq1, hq2, rfl, hb3⟩ := hrel
              rename World => wc
              have hPc := hPr.below hb3
              by_cases hlt : q < sp.length
              · have hqI : (q : Int) < (sp.length : Int) := by omega
                have hlt2 : q - 1 < sp.length := by omega
                obtain ⟨a, b, hr, r1, r2, r3⟩ := hinv.out.row _ (List.getElem_mem hlt)
                obtain ⟨a', b', hr', r1', r2', r3'⟩ := hinv.out.row _ (List.getElem_mem hlt2)
                have hap := List.pairwise_iff_getElem.1 hinv.out.apart (q - 1) q hlt2 hlt (by omega)
                rw [hr, hr'] at hap
                have hap2 : b' + 1 < a := by simpa using hap
                clear hap
                have hne : ¬ a ≤ b' + 1 := by omega
                have hw3 : (0 : Int) ≤ (q : Int) - 1 := by omega
                have hw4 : (q : Int) - 1 < (sp.length : Int) := by omega
                have hw7 : (1 : Int) ≤ (q : Int) := by omega
                have hw2 : ((q : Int) - 1).toNat = q - 1 := by omega
                have hwb : IntKind.i64.wrap (b' + 1) = b' + 1 := IntWalk.i64_in _ (by omega)
                have hw1 : IntKind.i64.wrap ((q : Int) - 1) = (q : Int) - 1 := IntWalk.i64_in _ (by omega)
                obtain ⟨pb, po, pu, rfl, p1, s1, c1⟩ := hPc.get hlt
                obtain ⟨pb', po', pu', hpe, p1', s1', c1'⟩ := hPc.get hlt2
                cases hpe
                rw [hr] at s1
                rw [hr'] at s1'
                obtain ⟨_, ao2, cap2, rfl, z1, z2, z3⟩ := s1
                obtain ⟨rb, ro, rfl, y1, y2⟩ := z3 (by simp)
                obtain ⟨_, ao3, cap3, rfl, z1', z2', z3'⟩ := s1'
                obtain ⟨rb', ro', rfl, y1', y2'⟩ := z3' (by simp)
                have e0 := y2 0 (by simp [ints])
                have e1 := y2' 1 (by simp [ints])
                simp [ints] at e0 e1
                unfold maxLen at z2 z2'
                clear y2 y2' hr hr' hPc
                go_wp2_with fail
                go_quiet (fail)
                go_wp2_with fail
                go_roundw
                case rel => exact ⟨q + 1, by omega, by omega, by go_num, Below.drewN' hb3 _⟩
                case measure => simp [intOf]; omega
              · have hqI : ¬ (q : Int) < (sp.length : Int) := by omega
                go_wp2_with fail
                go_meet
                exact below_step hbr hb3
    case rest => as_aux_lemma =>
      rename World => wc5
      have hbwc5 := hcut; clear hcut
      clear hA hM hP1 hP2 bxA cxA HP
      replace h := h.below hbwc5
      replace hT := hT.below hbwc5
      replace hg := below_step hg hbwc5
      go_wp2_with fail
      refine (draw_SessionText _ bs _ h hl).mono ?_
      rintro e w7 ⟨en2, nu2, de2, uT, pr2, re2, rfl, hoT, hx2, hbw7⟩
      replace h := h.below hbw7
      replace hT := hT.below hbw7
      replace hg := below_step hg hbw7
      have hT2 := OwnI.at_ hoT
      obtain ⟨aT, kT, rfl⟩ := hT2.form
      clear hoT
      obtain ⟨⟨tx, tk⟩, hX⟩ : ∃ V, V = textV en2 nu2 de2 pr2 re2 := ⟨_, rfl⟩
      have HX := Lib.hid hX; clear hX
      go_wp2_with (
        with_reducible change Go.wpList _ _ _ (Oper.mk _ (Op.load _ _) _ _ _ _ :: _) _ (World.alloc _ _)
        generalize hV : World.alloc _ _ = w8
        have hbw8 : Below w7.heap.size w7 w8 := by rw [← hV]; exact (Below.refl _ _).alloc (Nat.le_refl _) _
        have bxT : BoxAt w8 w7.heap.size #[.int .i64 en2, .int .i64 nu2, .int .i64 de2, (.slice aT pr2.length kT), .int .i64 re2] := by rw [← hV]; exact BoxAt.new _ _ _
        replace h := h.below hbw8
        replace hT := hT.below hbw8
        replace hT2 := hT2.below hbw8
        replace hg := below_step hg hbw8
        have cxT := bxT.cells
        clear hV)
      refine (i_SessionText _ _ _ _ pr2 _ _ hT2 hT).mono ?_
      rw [← HX.out]
      dsimp only
      rintro e w9 ⟨rfl, hbw9⟩
      replace h := h.below hbw9
      replace hT := hT.below hbw9
      replace hT2 := hT2.below hbw9
      replace bxT := bxT.below hbw9
      replace cxT := bxT.cells
      replace hg := below_step hg hbw9
      go_wp2_with fail
      refine (s_SessionText _ _ _ _ pr2 _ _ hT2).mono ?_
      rw [← HX.out]
      dsimp only
      rintro e w10 ⟨rfl, hbw10⟩
      replace h := h.below hbw10
      replace hT := hT.below hbw10
      replace hT2 := hT2.below hbw10
      replace bxT := bxT.below hbw10
      replace cxT := bxT.cells
      replace hg := below_step hg hbw10
      go_wp2_with fail
      go_ret
      exact ⟨by simp, hg⟩
end Go.Proofs.YtjijcjcfefkpbaaDoor
