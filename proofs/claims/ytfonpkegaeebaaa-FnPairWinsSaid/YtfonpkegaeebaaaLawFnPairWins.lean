/- The walk of FnPairWins out of its callees' contracts: it returns true, and what was there stays. No conditions. -/
import Derived.Test.YtfonpkegaeebaaaDrawF
import Derived.Test.YtfonpkegaeebaaaLawU
import Derived.Test.YtfonpkegaeebaaaLawT
import Derived.Test.YtfonpkegaeebaaaLawVR
import Derived.Test.YtfonpkegaeebaaaRankO
import Derived.Test.YtfonpkegaeebaaaRankX
import Derived.Test.YtfonpkegaeebaaaRankG
import Derived.Test.YtfonpkegaeebaaaRankE
import Derived.Test.YtfonpkegaeebaaaRankN
import Derived.Test.YtfonpkegaeebaaaRankB
import Derived.Deep.DeepCutAuto
namespace Go.Proofs.Ytfonpkegaeebaaa
open Go.RowKit
set_option linter.unusedVariables false
set_option linter.unusedSimpArgs false

set_option maxRecDepth 100000 in
set_option maxHeartbeats 8000000 in
theorem law_FnPairWins (w : World) (v : Value) (bs : List Int) (h : BytesAt w v bs) :
    Calls Try.prog 3 #[v] w fun e w' => e = .returned (.bool true) ∧ Below w.heap.size w w' := by
  have HQ := vBig_c v bs w h
  obtain ⟨ao, cap, rfl⟩ := h.1.form
  by_cases hbig : 65536 < bs.length
  · rw [decide_eq_true hbig] at HQ
    have HQ' := Lib.hid HQ; clear HQ
    go_enter Try.func3, Try.ntmps3
    go_wp2_with (go_at_call 4; refine HQ'.out.mono ?_; rintro e w' ⟨rfl, rfl⟩)
    go_ret
    exact ⟨rfl, Below.refl _ _⟩
  · rw [decide_eq_false hbig] at HQ
    have HQ' := Lib.hid HQ; clear HQ
    have hl : bs.length ≤ 65537 := by omega
    clear hbig
    have hg := Below.refl w.heap.size w
    go_enter Try.func3, Try.ntmps3
    go_wp2_with (go_at_call 4; refine HQ'.out.mono ?_; rintro e w' ⟨rfl, rfl⟩)
    refine (draw_DominantSet _ bs _ h hl).mono ?_
    rintro e w1 ⟨nA, uA, rsA, rfl, hRA, hxA, hsA, n0A, n1A, hbw1⟩
    replace h := h.below hbw1
    replace hg := below_step hg hbw1
    obtain ⟨aA, kA, rfl⟩ := hRA.form
    obtain ⟨⟨set, ok⟩, hV⟩ : ∃ V, V = domV nA rsA := ⟨_, rfl⟩
    have hok : electOk nA rsA = ok := by rw [← domV_ok, ← hV]
    have HV := Lib.hid hV; have HOK := Lib.hid hok; clear hV hok
    go_wp2_with fail
    refine (i_DominantSet nA _ rsA _ hRA).mono ?_
    rw [← HV.out]
    dsimp only
    rintro e w2 ⟨pD1, rfl, hoD1, hbw2⟩
    replace h := h.below hbw2
    replace hRA := hRA.below hbw2
    replace hg := below_step hg hbw2
    have hID1 := OwnI.at_ hoD1
    obtain ⟨aD1, kD1, rfl⟩ := hID1.form
    clear hoD1
    go_wp2_with fail
    refine (s_DominantSet nA _ rsA _ hRA).mono ?_
    rw [← HV.out]
    dsimp only
    rintro e w3 ⟨pD2, rfl, hoD2, hbw3⟩
    replace h := h.below hbw3
    replace hRA := hRA.below hbw3
    replace hID1 := hID1.below hbw3
    replace hg := below_step hg hbw3
    have hID2 := OwnI.at_ hoD2
    obtain ⟨aD2, kD2, rfl⟩ := hID2.form
    clear hoD2
    go_wp2_with fail
    refine (vInts_c _ _ set set _ hID1 hID2).mono ?_
    rintro e w4 ⟨rfl, hbw4⟩
    replace h := h.below hbw4
    replace hRA := hRA.below hbw4
    replace hID1 := hID1.below hbw4
    replace hID2 := hID2.below hbw4
    replace hg := below_step hg hbw4
    obtain ⟨⟨be, so⟩, hC⟩ : ∃ V, V = condV nA rsA := ⟨_, rfl⟩
    have hso : Hid (so = true → ok = true) := by
      intro hs
      rw [← HOK.out]
      have := condV_win (n := nA) (rs := rsA) (by rw [← hC]; exact hs)
      obtain ⟨_, _, _, _, he, _⟩ := this
      exact he
    have hdc : Hid (ok = true → so = decide (set.length = 1) ∧ (so = true → set = [be])) := by
      intro hk
      have h1 := dom_cond (HOK.out.trans hk)
      rw [← HV.out, ← hC] at h1
      exact h1
    obtain ⟨⟨cop, oc⟩, hCo⟩ : ∃ V, V = copeV nA rsA := ⟨_, rfl⟩
    have hoc : oc = ok := by rw [← HOK.out, ← copeV_ok, ← hCo]
    have hcd : Hid ((∀ x ∈ cop, hasB set x = true) ∧ (so = true → cop = [be])) := by
      cases ok with
      | true =>
        have h1 := cope_dom HOK.out
        rw [← HV.out, ← hC, ← hCo] at h1
        exact h1
      | false =>
        have h2 : cop = [] := by
          have h3 : (copeV nA rsA).1 = [] := by unfold copeV; rw [if_neg (by rw [HOK.out]; simp)]
          rw [← hCo] at h3
          exact h3
        subst h2
        exact ⟨(fun x hx => by cases hx), (fun hs => by have := hso.out hs; cases this)⟩
    have HC := Lib.hid hC; have HCO := Lib.hid hCo; clear hC hCo
    subst hoc
    go_wp2_with fail
    refine (i_CondorcetWinner nA _ rsA _ hRA).mono ?_
    rw [← HC.out]
    dsimp only
    rintro e w5 ⟨rfl, hbw5⟩
    replace h := h.below hbw5
    replace hRA := hRA.below hbw5
    replace hID1 := hID1.below hbw5
    replace hID2 := hID2.below hbw5
    replace hg := below_step hg hbw5
    go_wp2_with fail
    refine (s_CondorcetWinner nA _ rsA _ hRA).mono ?_
    rw [← HC.out]
    dsimp only
    rintro e w6 ⟨rfl, hbw6⟩
    replace h := h.below hbw6
    replace hRA := hRA.below hbw6
    replace hID1 := hID1.below hbw6
    replace hID2 := hID2.below hbw6
    replace hg := below_step hg hbw6
    go_upto_region 10 with fail
    go_cut [107] (fun a wx => a = .bool false ∧ Below w6.heap.size w6 wx)
    case first => as_aux_lemma =>
      have hfin := Below.refl w6.heap.size w6
      cases oc with
      | false =>
        cases so with
        | false =>
          go_wp2_with fail
          go_meet
          exact ⟨rfl, hfin⟩
        | true => exact absurd (hso.out rfl) (by simp)
      | true =>
        obtain ⟨e1, e2⟩ := hdc.out rfl
        cases so with
        | false =>
          have e3 : ¬ set.length = 1 := of_decide_eq_false e1.symm
          have e4 : ((set.length : Int) == 1) = false := by rw [beq_eq_false_iff_ne]; omega
          clear e1 e2 e3
          go_wp2_with fail
          go_meet
          exact ⟨rfl, hfin⟩
        | true =>
          obtain rfl := e2 rfl
          obtain ⟨_, _, _, hv, g1, g2, g3⟩ := hID1
          cases hv
          obtain ⟨b0, off, hao, h4, h5⟩ := g3 (by simp)
          have hc := h5.int (k := 0) (by simp)
          simp only [List.getElem_cons_zero, Nat.add_zero] at hc
          subst hao
          clear e1 e2 g3
          go_wp2_with fail
          go_meet
          exact ⟨rfl, hfin⟩
    case rest => as_aux_lemma =>
      rename World => wc6
      obtain ⟨rfl, hbwc6⟩ := hcut
      replace h := h.below hbwc6
      replace hRA := hRA.below hbwc6
      replace hID1 := hID1.below hbwc6
      replace hID2 := hID2.below hbwc6
      replace hg := below_step hg hbwc6
      go_wp2_with fail
      refine (i_CopelandWinners nA _ rsA _ hRA).mono ?_
      rw [← HCO.out]
      dsimp only
      rintro e w8 ⟨pP1, rfl, hoP1, hbw8⟩
      replace h := h.below hbw8
      replace hRA := hRA.below hbw8
      replace hID1 := hID1.below hbw8
      replace hID2 := hID2.below hbw8
      replace hg := below_step hg hbw8
      have hIP1 := OwnI.at_ hoP1
      obtain ⟨aP1, kP1, rfl⟩ := hIP1.form
      clear hoP1
      go_wp2_with fail
      refine (s_CopelandWinners nA _ rsA _ hRA).mono ?_
      rw [← HCO.out]
      dsimp only
      rintro e w9 ⟨pP2, rfl, hoP2, hbw9⟩
      replace h := h.below hbw9
      replace hRA := hRA.below hbw9
      replace hID1 := hID1.below hbw9
      replace hID2 := hID2.below hbw9
      replace hIP1 := hIP1.below hbw9
      replace hg := below_step hg hbw9
      have hIP2 := OwnI.at_ hoP2
      obtain ⟨aP2, kP2, rfl⟩ := hIP2.form
      clear hoP2
      go_upto_region 14 with fail
      go_cut [143] (fun a wx => a = .bool false ∧ Below w9.heap.size w9 wx)
      case first => as_aux_lemma =>
        have hq := vInts_c _ _ cop cop _ hIP1 hIP2
        simp only [decide_true] at hq
        have HQ := Lib.hid hq; clear hq
        cases so with
        | false =>
          go_wp2_with (go_at_call 8; refine HQ.out.mono ?_; rintro e w2 ⟨rfl, hb2⟩)
          go_meet
          exact ⟨rfl, hb2⟩
        | true =>
          obtain rfl := hcd.out.2 rfl
          obtain ⟨_, _, _, hv, g1, g2, g3⟩ := hIP1
          cases hv
          obtain ⟨b0, off, hao, h4, h5⟩ := g3 (by simp)
          have hc := h5.int (k := 0) (by simp)
          simp only [List.getElem_cons_zero, Nat.add_zero] at hc
          subst hao
          clear g3
          go_wp2_with (go_at_call 8; refine HQ.out.mono ?_; rintro e w2 ⟨rfl, hb2⟩; have hc2 := (hb2.cell (p := ⟨b0, off, none⟩) h4).trans hc)
          go_meet
          exact ⟨rfl, hb2⟩
      case rest => as_aux_lemma =>
        rename World => wc9
        obtain ⟨rfl, hbwc9⟩ := hcut
        replace h := h.below hbwc9
        replace hRA := hRA.below hbwc9
        replace hID1 := hID1.below hbwc9
        replace hID2 := hID2.below hbwc9
        replace hIP1 := hIP1.below hbwc9
        replace hIP2 := hIP2.below hbwc9
        replace hg := below_step hg hbwc9
        go_wp2_with fail
        go_loopw [17] (fun i wr => ∃ k : Nat, k ≤ cop.length ∧ i = .int .i64 k ∧ wc9 = wr) (fun i _ => cop.length - (intOf i).toNat)
        case atStart => exact ⟨0, by omega, rfl, by trivial⟩
        case round =>
          obtain ⟨k, hk, rfl, rfl⟩ := hrel
          by_cases hlt : k < cop.length
          · have hltI : (k : Int) < (cop.length : Int) := by omega
            obtain ⟨_, _, _, hv, g1, g2, g3⟩ := hIP1
            cases hv
            obtain ⟨b0, off, rfl, h4, h5⟩ := g3 (by omega)
            have hc := h5.int hlt
            have g7 : (cop.length : Int) ≤ 9223372036854775807 := by unfold maxLen at g2; omega
            have hh := Lib.hid (hcd.out.1 _ (List.getElem_mem hlt))
            generalize cop[k] = y at *
            clear g3
            go_wp2_with (go_at_call 13; refine (vHas_c _ set _ _ hID1).mono ?_; rw [hh.out]; rintro e w' ⟨rfl, rfl⟩)
            go_roundw
            case rel => exact ⟨k + 1, by omega, by go_num, by trivial⟩
            case measure => first | (simp [intOf]; done) | (simp [intOf]; omega)
          · obtain rfl : k = cop.length := by omega
            clear hID1 hID2 hIP1 hIP2 hdc hcd hso HC HCO
            obtain ⟨⟨tb, ot⟩, hT⟩ : ∃ V, V = pairTV nA rsA := ⟨_, rfl⟩
            have HT := Lib.hid hT; clear hT
            go_wp2_with fail
            refine (i_PairTable nA _ rsA _ hRA).mono ?_
            rw [← HT.out]
            dsimp only
            rintro e w11 ⟨pT1, rfl, hoT1, hbw11⟩
            replace h := h.below hbw11
            replace hRA := hRA.below hbw11
            replace hg := below_step hg hbw11
            have hIT1 := OwnNest.at_ hoT1
            obtain ⟨aT1, kT1, rfl⟩ := hIT1.form
            clear hoT1
            go_wp2_with fail
            refine (s_PairTable nA _ rsA _ hRA).mono ?_
            rw [← HT.out]
            dsimp only
            rintro e w12 ⟨pT2, rfl, hoT2, hbw12⟩
            replace h := h.below hbw12
            replace hRA := hRA.below hbw12
            replace hIT1 := hIT1.below hbw12
            replace hg := below_step hg hbw12
            have hIT2 := OwnNest.at_ hoT2
            obtain ⟨aT2, kT2, rfl⟩ := hIT2.form
            clear hoT2
            go_wp2_with fail
            refine (vTable_c _ _ tb tb _ hIT1 hIT2).mono ?_
            rintro e w13 ⟨rfl, hbw13⟩
            replace h := h.below hbw13
            replace hRA := hRA.below hbw13
            replace hIT1 := hIT1.below hbw13
            replace hIT2 := hIT2.below hbw13
            replace hg := below_step hg hbw13
            clear hIT1 hIT2 HT HV HOK hRA
            go_wp2_with fail
            refine (draw_MoveUp _ bs _ h hl).mono ?_
            rintro e w14 ⟨nM, uM, rsM, vo, ca, rfl, hRM, hxM, hsM, n0M, n1M, v0M, v1M, c0M, c1M, hbw14⟩
            replace h := h.below hbw14
            replace hg := below_step hg hbw14
            obtain ⟨aM, kM, rfl⟩ := hRM.form
            obtain ⟨⟨ys, mo⟩, hM⟩ : ∃ V, V = moveV nM rsM vo ca := ⟨_, rfl⟩
            have HM := Lib.hid hM; clear hM
            go_wp2_with fail
            refine (i_MoveUp nM _ rsM vo ca _ hRM).mono ?_
            rw [← HM.out]
            dsimp only
            rintro e w15 ⟨pY1, rfl, hoY1, hbw15⟩
            replace h := h.below hbw15
            replace hRM := hRM.below hbw15
            replace hg := below_step hg hbw15
            have hIY1 : RanksAt _ _ ys := OwnNest.at_ hoY1
            obtain ⟨aY1, kY1, rfl⟩ := hIY1.form
            clear hoY1
            go_wp2_with fail
            refine (s_MoveUp nM _ rsM vo ca _ hRM).mono ?_
            rw [← HM.out]
            dsimp only
            rintro e w16 ⟨pY2, rfl, hoY2, hbw16⟩
            replace h := h.below hbw16
            replace hRM := hRM.below hbw16
            replace hIY1 := hIY1.below hbw16
            replace hg := below_step hg hbw16
            have hIY2 : RanksAt _ _ ys := OwnNest.at_ hoY2
            obtain ⟨aY2, kY2, rfl⟩ := hIY2.form
            clear hoY2
            go_wp2_with fail
            refine (vRankings_eq _ _ ys _ hIY1 hIY2).mono ?_
            rintro e w17 ⟨rfl, hbw17⟩
            replace h := h.below hbw17
            replace hRM := hRM.below hbw17
            replace hIY1 := hIY1.below hbw17
            replace hIY2 := hIY2.below hbw17
            replace hg := below_step hg hbw17
            go_upto_if 210 with fail
            go_cut [211] (fun _ wx => Below w17.heap.size w17 wx)
            case first => as_aux_lemma =>
              cases mo with
              | false =>
                go_wp2_with fail
                go_meet
                exact Below.refl _ _
              | true =>
                have hmb := move_borda (n := nM) (rs := rsM) (v := vo) (c := ca) (by rw [← HM.out])
                rw [← HM.out] at hmb
                dsimp only at hmb
                obtain ⟨kv, hkv, rfl, hc0, hc1, he1, he2, hl1, hl2, hget, hsum, hA, hB, hw1, hw2⟩ := hmb
                obtain ⟨cn, rfl⟩ : ∃ cn : Nat, ca = cn := ⟨ca.toNat, by omega⟩
                rw [Int.toNat_natCast] at hget
                obtain ⟨⟨A1, o1⟩, hA1⟩ : ∃ V, V = bordaV nM rsM := ⟨_, rfl⟩
                obtain ⟨⟨B1, o2⟩, hB1⟩ : ∃ V, V = bordaV nM ys := ⟨_, rfl⟩
                have ho1 : o1 = true := by have := bordaV_ok nM rsM; rw [← hA1] at this; rw [← he1]; exact this
                have ho2 : o2 = true := by have := bordaV_ok nM ys; rw [← hB1] at this; rw [← he2]; exact this
                subst ho1 ho2
                rw [← hA1] at hl1 hget hsum hA
                rw [← hB1] at hl2 hget hsum hB
                dsimp only at hl1 hl2 hget hsum hA hB
                have HA1 := Lib.hid hA1; have HB1 := Lib.hid hB1
                clear hA1 hB1 he1 he2
                go_wp2_with fail
                refine (i_BordaScores nM _ rsM _ hRM).mono ?_
                rw [← HA1.out]
                dsimp only
                rintro e wA ⟨pA, rfl, hoA, hbA⟩
                have hIA := OwnI.at_ hoA
                obtain ⟨aA, kA, rfl⟩ := hIA.form
                replace hIY1 := hIY1.below hbA
                replace hRM := hRM.below hbA
                clear hoA
                go_wp2_with fail
                refine (i_BordaScores nM _ ys _ hIY1).mono ?_
                rw [← HB1.out]
                dsimp only
                rintro e wB ⟨pB, rfl, hoB, hbB⟩
                have hIB := OwnI.at_ hoB
                obtain ⟨aB, kB, rfl⟩ := hIB.form
                replace hIA := hIA.below hbB
                replace hRM := hRM.below hbB
                have hfin : Below w17.heap.size w17 wB := below_step hbA hbB
                clear hoB
                have hcA : cn < A1.length := by omega
                have hcB : cn < B1.length := by omega
                have HIA := Lib.hid hIA; have HIB := Lib.hid hIB
                obtain ⟨_, _, _, hv1, g1, g2, g3⟩ := hIA
                cases hv1
                obtain ⟨b1, off1, rfl, h4, h5⟩ := g3 (by omega)
                obtain ⟨_, _, _, hv2, g4, g5, g6⟩ := hIB
                cases hv2
                obtain ⟨b2, off2, rfl, h6, h7⟩ := g6 (by omega)
                have d1 := h5.int hcA
                have d2 := h7.int hcB
                obtain ⟨b3, off3, u3, rfl, h8, h9, e0, e1⟩ := RanksAt.get2 hRM hkv
                rw [getD_eqy hcA, getD_eqy hcB] at hget
                rw [hget] at d2
                have hAc := hA _ (List.getElem_mem hcA)
                have x1 : (0 : Int) ≤ (cn : Int) := by omega
                have x2 : (cn : Int) < (A1.length : Int) := by omega
                have x3 : (cn : Int) < (B1.length : Int) := by omega
                have x4 : (0 : Int) ≤ (kv : Int) := by omega
                have x5 : (kv : Int) < (rsM.length : Int) := by omega
                have x6 : ((A1.length : Int) != (B1.length : Int)) = false := by rw [hl1, hl2]; simp
                have x7 : ¬ (A1.length : Int) ≤ (cn : Int) := by omega
                have x8 : decide ((A1.length : Int) ≤ (cn : Int)) = false := decide_eq_false x7
                have x9 : IntKind.i64.wrap (cn : Int) = (cn : Int) := IntWalk.i64_in _ (by omega)
                have x10 : IntKind.i64.wrap (kv : Int) = (kv : Int) := IntWalk.i64_in _ (by omega)
                generalize rsM[kv].weight = wt at *
                generalize A1[cn] = ac at *
                have x11 : IntKind.i64.wrap (ac + wt) = ac + wt := IntWalk.i64_in _ (by omega)
                have hln1 : A1.length ≤ 1000 := by omega
                have hln2 : B1.length ≤ 1000 := by omega
                have HA := Lib.hid hA; have HB := Lib.hid hB; have HSUM := Lib.hid hsum
                clear hget hA hB hsum g3 g6 h9 x7 hl1 hl2
                go_wp2_with fail
                go_quiet ((first
                  | (go_at_call 22; exact quiet_eq (vSum_c _ A1 _ (HIA.out.below (Below.drewN' (Below.refl _ _) _)) (fun x hx => by have := HA.out x hx; omega) (by omega)))
                  | (go_at_call 22; exact quiet_eq (HSUM.out ▸ vSum_c _ B1 _ (HIB.out.below (Below.drewN' (Below.refl _ _) _)) (fun x hx => by have := HB.out x hx; omega) (by omega)))))
                go_wp2_with fail
                go_meet
                exact Below.drewN' hfin _
            case rest => as_aux_lemma =>
              rename World => wc17
              have hbwc17 := hcut
              clear hcut hRM hIY1 hIY2 HM
              replace h := h.below hbwc17
              replace hg := below_step hg hbwc17
              go_wp2_with fail
              refine (draw_BordaScores _ bs _ h hl).mono ?_
              rintro e w19 ⟨nB, uB, rsB, rfl, hRB, hxB, hsB, n0B, n1B, hbw19⟩
              replace h := h.below hbw19
              replace hg := below_step hg hbw19
              obtain ⟨aB, kB, rfl⟩ := hRB.form
              obtain ⟨⟨bv, bo⟩, hV⟩ : ∃ V, V = bordaV nB rsB := ⟨_, rfl⟩
              have HBV := Lib.hid hV; clear hV
              go_wp2_with fail
              refine (i_BordaScores nB _ rsB _ hRB).mono ?_
              rw [← HBV.out]
              dsimp only
              rintro e w20 ⟨pB1, rfl, hoB1, hbw20⟩
              replace h := h.below hbw20
              replace hRB := hRB.below hbw20
              replace hg := below_step hg hbw20
              have hIB1 := OwnI.at_ hoB1
              obtain ⟨aB1, kB1, rfl⟩ := hIB1.form
              clear hoB1
              go_wp2_with fail
              refine (s_BordaScores nB _ rsB _ hRB).mono ?_
              rw [← HBV.out]
              dsimp only
              rintro e w21 ⟨pB2, rfl, hoB2, hbw21⟩
              replace h := h.below hbw21
              replace hRB := hRB.below hbw21
              replace hIB1 := hIB1.below hbw21
              replace hg := below_step hg hbw21
              have hIB2 := OwnI.at_ hoB2
              obtain ⟨aB2, kB2, rfl⟩ := hIB2.form
              clear hoB2
              go_wp2_with fail
              refine (vInts_c _ _ bv bv _ hIB1 hIB2).mono ?_
              rintro e w22 ⟨rfl, hbw22⟩
              replace h := h.below hbw22
              replace hRB := hRB.below hbw22
              replace hIB1 := hIB1.below hbw22
              replace hIB2 := hIB2.below hbw22
              replace hg := below_step hg hbw22
              go_wp2_with fail
              go_ret
              exact ⟨by simp, hg⟩
end Go.Proofs.Ytfonpkegaeebaaa
