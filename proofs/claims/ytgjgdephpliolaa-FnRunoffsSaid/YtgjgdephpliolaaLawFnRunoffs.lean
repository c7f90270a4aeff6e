/- The walk of FnRunoffs out of its callees' contracts: it returns true, and what was there stays. No conditions. -/
import Derived.Test.YtgjgdephpliolaaDrawF
import Derived.Test.YtgjgdephpliolaaLawU
import Derived.Test.YtgjgdephpliolaaRunP
import Derived.Test.YtgjgdephpliolaaRunI
import Derived.Test.YtgjgdephpliolaaRankW
import Derived.Test.YtgjgdephpliolaaRankX
import Derived.Test.YtgjgdephpliolaaRankF
import Derived.Deep.DeepCutAuto
namespace Go.Proofs.Ytgjgdephpliolaa
open Go.RowKit
set_option linter.unusedVariables false
set_option linter.unusedSimpArgs false

set_option maxRecDepth 100000 in
set_option maxHeartbeats 8000000 in
theorem law_FnRunoffs (w : World) (v : Value) (bs : List Int) (h : BytesAt w v bs) :
    Calls Try.prog 6 #[v] w fun e w' => e = .returned (.bool true) ∧ Below w.heap.size w w' := by
  have HQ := vBig_c v bs w h
  obtain ⟨ao, cap, rfl⟩ := h.1.form
  by_cases hbig : 65536 < bs.length
  · rw [decide_eq_true hbig] at HQ
    have HQ' := Lib.hid HQ; clear HQ
    go_enter Try.func6, Try.ntmps6
    go_wp2_with (go_at_call 7; refine HQ'.out.mono ?_; rintro e w' ⟨rfl, rfl⟩)
    go_ret
    exact ⟨rfl, Below.refl _ _⟩
  · rw [decide_eq_false hbig] at HQ
    have HQ' := Lib.hid HQ; clear HQ
    have hl : bs.length ≤ 65537 := by omega
    clear hbig
    have hg := Below.refl w.heap.size w
    go_enter Try.func6, Try.ntmps6
    go_wp2_with (go_at_call 7; refine HQ'.out.mono ?_; rintro e w' ⟨rfl, rfl⟩)
    refine (draw_RunoffWinner _ bs _ h hl).mono ?_
    rintro e w1 ⟨nA, uA, rsA, rfl, hRA, hxA, hsA, n0A, n1A, hbw1⟩
    replace h := h.below hbw1
    replace hg := below_step hg hbw1
    obtain ⟨aA, kA, rfl⟩ := hRA.form
    obtain ⟨⟨wi, out, ok⟩, hV⟩ : ∃ V, V = runV nA rsA := ⟨_, rfl⟩
    have hok : electOk nA rsA = ok := by rw [← runV_ok, ← hV]
    have HV := Lib.hid hV; have HOK := Lib.hid hok; clear hV hok
    go_wp2_with fail
    refine (i_RunoffWinner nA _ rsA _ hRA).mono ?_
    rw [← HV.out]
    dsimp only
    rintro e w2 ⟨pA, rfl, hoA, hbw2⟩
    replace h := h.below hbw2
    replace hRA := hRA.below hbw2
    replace hg := below_step hg hbw2
    have hIA := OwnI.at_ hoA
    obtain ⟨aP, kP, rfl⟩ := hIA.form
    clear hoA
    go_wp2_with fail
    refine (s_RunoffWinner nA _ rsA _ hRA).mono ?_
    rw [← HV.out]
    dsimp only
    rintro e w3 ⟨pB, rfl, hoB, hbw3⟩
    replace h := h.below hbw3
    replace hRA := hRA.below hbw3
    replace hIA := hIA.below hbw3
    replace hg := below_step hg hbw3
    have hIB := OwnI.at_ hoB
    obtain ⟨aQ, kQ, rfl⟩ := hIB.form
    clear hoB
    go_wp2_with fail
    refine (vInts_c _ _ out out _ hIA hIB).mono ?_
    rintro e w4 ⟨rfl, hbw4⟩
    replace h := h.below hbw4
    replace hRA := hRA.below hbw4
    replace hIA := hIA.below hbw4
    replace hIB := hIB.below hbw4
    replace hg := below_step hg hbw4
    go_wp2_with fail
    refine (i_IsElection nA _ rsA _ hRA).mono ?_
    rw [HOK.out]
    rintro e w5 ⟨rfl, hbw5⟩
    replace h := h.below hbw5
    replace hRA := hRA.below hbw5
    replace hIA := hIA.below hbw5
    replace hIB := hIB.below hbw5
    replace hg := below_step hg hbw5
    go_upto_if 73 with fail
    go_cut [74] (fun _ wx => Below w5.heap.size w5 wx)
    case first => as_aux_lemma =>
      cases ok with
      | false =>
        go_wp2_with fail
        go_meet
        exact Below.refl _ _
      | true =>
        have hE := runV_end HOK.out
        rw [← HV.out] at hE
        dsimp only at hE
        obtain ⟨N, kw, hN, hN1, hN5, hol, hLL, hkw, hwi, hfv, hno, hbd, hcmp⟩ := hE
        subst hN
        have HFV := Lib.hid hfv; have HNO := Lib.hid hno; have HBD := Lib.hid hbd; have HCMP := Lib.hid hcmp
        have hLN := hLL.len
        have h2c : Hid ((condV N rsA).2 = true → N = 2 → (condV N rsA).1 = wi) := fun hc h2 => by
          subst h2
          obtain ⟨N', he', _, _, _, hrr, _⟩ := elect_facts HOK.out
          obtain rfl : 2 = N' := by omega
          have h1 : 1 ≤ rsA.length := by
            have := HOK.out
            simp only [electOk, Bool.and_eq_true, inB_iff] at this
            omega
          have h3 : (condV ((2 : Nat) : Int) rsA).1 = (runV ((2 : Nat) : Int) rsA).1 := two_first hrr h1 HOK.out hc
          rw [h3, ← HV.out]
        clear hfv hno hbd hcmp hwi hkw
        have hq := Below.refl w5.heap.size w5
        have hlit := own_lit0 w5 3
        have hq0 := hq.alloc (Nat.le_refl _) (.cells #[] 3)
        go_wp2_with fail
        go_loopw [11, 12] (fun o i wr => ∃ k : Nat, k ≤ N ∧ i = .int .i64 k ∧ OwnInts wr w5.heap.size o (leftL k out) ∧ Below w5.heap.size w5 wr) (fun _ i _ => N - (intOf i).toNat)
        case atStart => exact ⟨0, by omega, rfl, hlit, hq0⟩
        case round =>
          rename World => wa
          clear hlit hq0 hq
          obtain ⟨k, hk, rfl, ho, hq⟩ := hrel
          have hRr := hRA.below hq
          have hIr := hIA.below hq
          have hll : (leftL k out).length ≤ k := leftL_len k out
          by_cases hlt : k < N
          · have hltI : (k : Int) < (N : Int) := by omega
            cases hh : hasB out (k : Int) with
            | true =>
              have HH := Lib.hid hh
              have HL : Hid (leftL (k + 1) out = leftL k out) := leftL_off hh
              clear hh
              go_wp2_with (go_at_call 16; refine (vHas_c _ out _ _ hIr).mono ?_; rw [HH.out]; rintro e w' ⟨rfl, rfl⟩)
              go_roundw
              case rel => exact ⟨k + 1, by omega, by go_num, by rw [HL.out]; exact ho, hq⟩
              case measure => first | (simp [intOf]; done) | (simp [intOf]; omega)
            | false =>
              have HH := Lib.hid hh
              have HL : Hid (leftL (k + 1) out = leftL k out ++ [(k : Int)]) := leftL_on hh
              clear hh
              go_wp2_with (first
                | (go_at_call 16; refine (vHas_c _ out _ _ hIr).mono ?_; rw [HH.out]; rintro e w' ⟨rfl, rfl⟩)
                | (at_builtin; refine wpList_push_int rfl (.tmp 84) (.tmp 86) _ rfl _ 3 _ int_info Try.underlying27 _ (leftL k out) (k : Int) rfl ho rfl hq.size (by omega) ?_; intro u4 w4 ho4 hb4))
              go_roundw
              case rel => exact ⟨k + 1, by omega, by go_num, by rw [HL.out]; exact ho4, hq.trans hb4⟩
              case measure => first | (simp [intOf]; done) | (simp [intOf]; omega)
          · obtain rfl : k = N := by omega
            obtain ⟨L, hL⟩ : ∃ L, L = leftL k out := ⟨_, rfl⟩
            rw [← hL] at ho hll hLL hLN
            have HL := Lib.hid hL; clear hL
            obtain ⟨aL, kL, rfl⟩ := (OwnI.at_ ho : IntsAt wa _ L).form
            have hIL : IntsAt wa (.slice aL L.length kL) L := OwnI.at_ ho
            have hfl := fAll_len L rsA rsA.length
            obtain ⟨F, hF⟩ : ∃ F, F = fAll L rsA rsA.length := ⟨_, rfl⟩
            have HFV' : Hid (firstV k rsA L = (F, true)) := by rw [Hid, HL.out, HFV.out, hF, HL.out]
            have HBD' : Hid (∀ x ∈ F, 0 ≤ x ∧ x ≤ 1000000) := by rw [Hid, hF, HL.out]; exact fun x hx => by have := HBD.out x hx; omega
            have HCMP' : Hid (∀ i (hi : i < L.length) (hi2 : i < F.length), decide (F.sum < 2 * F[i]) = (L[i] == wi)) := by
              intro i hi hi2
              subst hF
              have e := HL.out
              subst e
              have := HCMP.out i hi
              rwa [getD_eqy hi2] at this
            rw [← hF] at hfl
            have hF5 : F.length ≤ 5 := by omega
            clear hF
            go_wp2_with fail
            refine (s_FirstVotes (k : Int) _ rsA _ L _ hRr hIL).mono ?_
            rw [HFV'.out]
            dsimp only
            rintro e wf ⟨pF, rfl, hoF, hbF⟩
            have hIF : IntsAt wf pF F := OwnI.at_ hoF
            obtain ⟨aF, kF, rfl⟩ := hIF.form
            replace hIL := hIL.below hbF
            replace hIr := hIr.below hbF
            replace hRr := hRr.below hbF
            replace hq := below_step hq hbF
            clear hoF ho
            have HFL := Lib.hid hfl; clear hfl
            go_wp2_with (go_at_call 16; refine (vHas_c _ out _ _ hIr).mono ?_; rw [HNO.out]; rintro e w' ⟨rfl, rfl⟩)
            go_loopw [15] (fun i wr => ∃ j : Nat, j ≤ L.length ∧ i = .int .i64 j ∧ Below wf.heap.size wf wr) (fun i _ => L.length - (intOf i).toNat)
            case atStart => exact ⟨0, by omega, rfl, Below.refl _ _⟩
            case round =>
              rename World => wb
              obtain ⟨j, hj, rfl, hq2⟩ := hrel
              have hIL2 := hIL.below hq2
              have hIF2 := hIF.below hq2
              by_cases hlt2 : j < L.length
              · have hjF : j < F.length := by have := HFL.out; omega
                have hltI2 : (j : Int) < (L.length : Int) := by omega
                have hltF2 : (j : Int) < (F.length : Int) := by omega
                obtain ⟨_, _, _, hv1, g1, g2, g3⟩ := hIL2
                cases hv1
                obtain ⟨b1, off1, rfl, h4, h5⟩ := g3 (by omega)
                have hIF3 := Lib.hid hIF2
                obtain ⟨_, _, _, hv2, g4, g5, g6⟩ := hIF2
                cases hv2
                obtain ⟨b2, off2, rfl, h6, h7⟩ := g6 (by omega)
                have d1 := h5.int hlt2
                have d2 := h7.int hjF
                have hc := HCMP'.out j hlt2 hjF
                have hb := HBD'.out _ (List.getElem_mem hjF)
                have hj0 : (0 : Int) ≤ (j : Int) := by omega
                have hwj : IntKind.i64.wrap (j : Int) = (j : Int) := IntWalk.i64_in _ (by omega)
                generalize L[j] = y at *
                generalize F[j] = x at *
                have hwx : IntKind.i64.wrap (2 * x) = 2 * x := IntWalk.i64_in _ (by omega)
                have HC := Lib.hid hc
                cases hy : (y == wi) with
                | true =>
                  rw [hy] at hc
                  have hd : F.sum < 2 * x := of_decide_eq_true hc
                  clear hc g3 g6
                  go_wp2_with fail
                  go_quiet ((go_at_call 25; exact quiet_eq (vSum_c _ F _ (hIF3.out.below (Below.drewN' (Below.refl _ _) _)) HBD'.out (by omega))))
                  go_wp2_with fail
                  go_roundw
                  case rel => exact ⟨j + 1, by omega, by go_num, Below.drewN' hq2 _⟩
                  case measure => first | (simp [intOf]; done) | (simp [intOf]; omega)
                | false =>
                  rw [hy] at hc
                  have hd : ¬ F.sum < 2 * x := of_decide_eq_false hc
                  clear hc g3 g6
                  go_wp2_with fail
                  go_quiet ((go_at_call 25; exact quiet_eq (vSum_c _ F _ (hIF3.out.below (Below.drewN' (Below.refl _ _) _)) HBD'.out (by omega))))
                  go_wp2_with fail
                  go_roundw
                  case rel => exact ⟨j + 1, by omega, by go_num, Below.drewN' hq2 _⟩
                  case measure => first | (simp [intOf]; done) | (simp [intOf]; omega)
              · obtain rfl : j = L.length := by omega
                have hR3 := hRr.below hq2
                have hq3 := below_step hq hq2
                obtain ⟨⟨be, two⟩, hC⟩ : ∃ V, V = condV k rsA := ⟨_, rfl⟩
                have hct : two = true → k = 2 → be = wi := by
                  have := h2c.out
                  rw [← hC] at this
                  exact this
                have HC := Lib.hid hC; clear hC
                go_wp2_with fail
                refine (i_CondorcetWinner (k : Int) _ rsA _ hR3).mono ?_
                rw [← HC.out]
                dsimp only
                rintro e wd ⟨rfl, hbd⟩
                replace hq3 := below_step hq3 hbd
                cases two with
                | false =>
                  clear hct
                  go_wp2_with fail
                  go_meet
                  exact hq3
                | true =>
                  by_cases h2 : k = 2
                  · obtain rfl : be = wi := hct rfl h2
                    have h2b : ((k : Int) == 2) = true := by rw [beq_iff_eq]; omega
                    clear hct h2
                    go_wp2_with fail
                    go_meet
                    exact hq3
                  · have h2b : ((k : Int) == 2) = false := by rw [beq_eq_false_iff_ne]; omega
                    clear hct h2
                    go_wp2_with fail
                    go_meet
                    exact hq3
    case rest =>
      rename World => wc5
      have hbwc5 := hcut
      clear hcut
      clear hRA hIA hIB HV HOK
      replace h := h.below hbwc5
      replace hg := below_step hg hbwc5
      go_wp2_with fail
      refine (draw_FirstVotes _ bs _ h hl).mono ?_
      rintro e w7 ⟨nB, uB, rsB, q, am, rfl, hRB, hAB, hamB, hxB, hsB, n0B, n1B, hbw7⟩
      replace h := h.below hbw7
      replace hg := below_step hg hbw7
      obtain ⟨aB, kB, rfl⟩ := hRB.form
      obtain ⟨aM, kM, rfl⟩ := hAB.form
      obtain ⟨⟨fv, fo⟩, hV⟩ : ∃ V, V = firstV nB rsB am := ⟨_, rfl⟩
      have HV := Lib.hid hV; clear hV
      go_wp2_with fail
      refine (i_FirstVotes nB _ rsB _ am _ hRB hAB).mono ?_
      rw [← HV.out]
      dsimp only
      rintro e w8 ⟨pC, rfl, hoC, hbw8⟩
      replace h := h.below hbw8
      replace hRB := hRB.below hbw8
      replace hAB := hAB.below hbw8
      replace hg := below_step hg hbw8
      have hIC := OwnI.at_ hoC
      obtain ⟨aC, kC, rfl⟩ := hIC.form
      clear hoC
      go_wp2_with fail
      refine (s_FirstVotes nB _ rsB _ am _ hRB hAB).mono ?_
      rw [← HV.out]
      dsimp only
      rintro e w9 ⟨pD, rfl, hoD, hbw9⟩
      replace h := h.below hbw9
      replace hRB := hRB.below hbw9
      replace hAB := hAB.below hbw9
      replace hIC := hIC.below hbw9
      replace hg := below_step hg hbw9
      have hID := OwnI.at_ hoD
      obtain ⟨aD, kD, rfl⟩ := hID.form
      clear hoD
      go_wp2_with fail
      refine (vInts_c _ _ fv fv _ hIC hID).mono ?_
      rintro e w10 ⟨rfl, hbw10⟩
      replace h := h.below hbw10
      replace hRB := hRB.below hbw10
      replace hAB := hAB.below hbw10
      replace hIC := hIC.below hbw10
      replace hID := hID.below hbw10
      replace hg := below_step hg hbw10
      clear hRB hAB hIC hID HV
      go_wp2_with fail
      refine (draw_PluralityWinners _ bs _ h hl).mono ?_
      rintro e w11 ⟨nE, uE, rsE, rfl, hRE, hxE, hsE, n0E, n1E, hbw11⟩
      replace h := h.below hbw11
      replace hg := below_step hg hbw11
      obtain ⟨aE, kE, rfl⟩ := hRE.form
      obtain ⟨⟨pv, po⟩, hV⟩ : ∃ V, V = plurV nE rsE := ⟨_, rfl⟩
      have HV := Lib.hid hV; clear hV
      go_wp2_with fail
      refine (i_PluralityWinners nE _ rsE _ hRE).mono ?_
      rw [← HV.out]
      dsimp only
      rintro e w12 ⟨pF, rfl, hoF, hbw12⟩
      replace h := h.below hbw12
      replace hRE := hRE.below hbw12
      replace hg := below_step hg hbw12
      have hIF := OwnI.at_ hoF
      obtain ⟨aF, kF, rfl⟩ := hIF.form
      clear hoF
      go_wp2_with fail
      refine (s_PluralityWinners nE _ rsE _ hRE).mono ?_
      rw [← HV.out]
      dsimp only
      rintro e w13 ⟨pG, rfl, hoG, hbw13⟩
      replace h := h.below hbw13
      replace hRE := hRE.below hbw13
      replace hIF := hIF.below hbw13
      replace hg := below_step hg hbw13
      have hIG := OwnI.at_ hoG
      obtain ⟨aG, kG, rfl⟩ := hIG.form
      clear hoG
      go_wp2_with fail
      refine (vInts_c _ _ pv pv _ hIF hIG).mono ?_
      rintro e w14 ⟨rfl, hbw14⟩
      replace h := h.below hbw14
      replace hRE := hRE.below hbw14
      replace hIF := hIF.below hbw14
      replace hIG := hIG.below hbw14
      replace hg := below_step hg hbw14
      go_wp2_with fail
      go_ret
      exact ⟨by simp, hg⟩
end Go.Proofs.Ytgjgdephpliolaa
