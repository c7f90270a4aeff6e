/- The walk of FnCommittees out of its callees' contracts: it returns true, and what was there stays. No conditions. -/
import Derived.Test.YtpjmcjdnobihbaaDrawN
import Derived.Test.YtpjmcjdnobihbaaLawX
import Derived.Test.YtpjmcjdnobihbaaLawW
import Derived.Test.YtpjmcjdnobihbaaLawU
import Derived.Test.YtpjmcjdnobihbaaCommQ
import Derived.Test.YtpjmcjdnobihbaaAppI
import Derived.Test.YtpjmcjdnobihbaaAppS
import Derived.Test.YtpjmcjdnobihbaaDismI
import Derived.Test.YtpjmcjdnobihbaaCommE
import Derived.Test.YtpjmcjdnobihbaaFormS
import Derived.Test.YtpjmcjdnobihbaaCommB
import Derived.Test.YtpjmcjdnobihbaaCommL
import Derived.Test.YtpjmcjdnobihbaaBw
import Derived.Deep.DeepCutAuto
import Derived.Deep.CutBlock
namespace Go.Proofs.Ytpjmcjdnobihbaa
open Go.RowKit
set_option linter.unusedVariables false
set_option linter.unusedSimpArgs false

set_option maxRecDepth 100000 in
set_option maxHeartbeats 8000000 in
theorem law_FnCommittees (w : World) (v : Value) (bs : List Int) (h : BytesAt w v bs) :
    Calls Try.prog 4 #[v] w fun e w' => e = .returned (.bool true) ∧ Below w.heap.size w w' := by
  have HQ := rBig_c v bs w h
  obtain ⟨ao, cap, rfl⟩ := h.1.form
  by_cases hbig : 65536 < bs.length
  · rw [decide_eq_true hbig] at HQ
    have HQ' := Lib.hid HQ; clear HQ
    go_enter Try.func4, Try.ntmps4
    go_wp2_with (go_at_call 5; refine HQ'.out.mono ?_; rintro e w' ⟨rfl, rfl⟩)
    go_ret
    exact ⟨rfl, Below.refl _ _⟩
  · rw [decide_eq_false hbig] at HQ
    have HQ' := Lib.hid HQ; clear HQ
    have hl : bs.length ≤ 65537 := by omega
    clear hbig
    have hg := Below.refl w.heap.size w
    go_enter Try.func4, Try.ntmps4
    go_wp2_with (go_at_call 5; refine HQ'.out.mono ?_; rintro e w' ⟨rfl, rfl⟩)
    refine (draw_AppointMember _ bs _ h hl).mono ?_
    rintro e w1 ⟨uA, cs, n, p, rfl, hA, hsA, hnA0, hbw1⟩
    replace h := h.below hbw1
    replace hg := below_step hg hbw1
    obtain ⟨aA, kA, rfl⟩ := hA.form
    have hnA : CommsLe cs := hsA.le (by omega)
    have h9A := hsA.1
    clear hsA
    obtain ⟨⟨mo, ok⟩, hM⟩ : ∃ V, V = appV cs n p := ⟨_, rfl⟩
    have HM := Lib.hid hM; clear hM
    have hmo : Hid (ok = true → commsOk mo = true ∧ dismV mo n p = (cs, true) ∧ CommsLe mo) := fun hk => by
      have h1 := HM.out
      rw [hk] at h1
      obtain ⟨h2, h3⟩ := app_dism h1.symm
      exact ⟨h2, h3, commsOk_le h2⟩
    go_wp2_with fail
    refine (i_AppointMember _ cs n p _ hA hnA).mono ?_
    rw [← HM.out]
    dsimp only
    rintro e w2 ⟨pM1, rfl, hoM1, hbw2⟩
    replace h := h.below hbw2
    replace hA := hA.below hbw2
    replace hg := below_step hg hbw2
    have hCM1 := OwnComms.at_ hoM1
    obtain ⟨aM1, kM1, rfl⟩ := hCM1.form
    clear hoM1
    go_wp2_with fail
    refine (s_AppointMember _ cs n p _ hA hnA).mono ?_
    rw [← HM.out]
    dsimp only
    rintro e w3 ⟨pM2, rfl, hoM2, hbw3⟩
    replace h := h.below hbw3
    replace hA := hA.below hbw3
    replace hCM1 := hCM1.below hbw3
    replace hg := below_step hg hbw3
    have hCM2 := OwnComms.at_ hoM2
    obtain ⟨aM2, kM2, rfl⟩ := hCM2.form
    clear hoM2
    go_wp2_with fail
    refine (rCommittees_eq _ _ mo _ hCM1 hCM2).mono ?_
    rintro e w4 ⟨rfl, hbw4⟩
    replace h := h.below hbw4
    replace hA := hA.below hbw4
    replace hCM1 := hCM1.below hbw4
    replace hCM2 := hCM2.below hbw4
    replace hg := below_step hg hbw4
    go_upto_if 67 with fail
    go_cut [68] (fun _ wx => Below w4.heap.size w4 wx)
    case first => as_aux_lemma =>
      have hq := Below.refl w4.heap.size w4
      cases ok with
      | false =>
        go_wp2_with fail
        go_meet
        exact hq
      | true =>
        obtain ⟨e1, e2, e3⟩ := hmo.out rfl
        have E1 := Lib.hid e1; have E2 := Lib.hid e2
        clear e1 e2 hmo HM
        go_wp2_with fail
        refine (i_DismissMember _ mo n p _ hCM1 e3).mono ?_
        rw [E2.out]
        dsimp only
        rintro e w5 ⟨pL, rfl, hoL, hbw5⟩
        replace h := h.below hbw5
        replace hA := hA.below hbw5
        replace hCM1 := hCM1.below hbw5
        replace hCM2 := hCM2.below hbw5
        replace hq := below_step hq hbw5
        have hCL := OwnComms.at_ hoL
        obtain ⟨aL, kL, rfl⟩ := hCL.form
        clear hoL
        go_wp2_with fail
        refine (rCommittees_eq _ _ cs _ hCL hA).mono ?_
        rintro e w6 ⟨rfl, hbw6⟩
        replace h := h.below hbw6
        replace hA := hA.below hbw6
        replace hCM1 := hCM1.below hbw6
        replace hCM2 := hCM2.below hbw6
        replace hCL := hCL.below hbw6
        replace hq := below_step hq hbw6
        go_wp2_with fail
        refine (i_AreCommittees _ mo _ hCM1 e3).mono ?_
        rw [E1.out]
        rintro e w7 ⟨rfl, hbw7⟩
        replace h := h.below hbw7
        replace hA := hA.below hbw7
        replace hCM1 := hCM1.below hbw7
        replace hCM2 := hCM2.below hbw7
        replace hCL := hCL.below hbw7
        replace hq := below_step hq hbw7
        go_wp2_with fail
        go_meet
        exact hq
    case rest => as_aux_lemma =>
      rename World => wc7
      have hbwc7 := hcut; clear hcut
      clear hA hCM1 hCM2 HM hmo hnA h9A
      replace h := h.below hbwc7
      replace hg := below_step hg hbwc7
      go_wp2_with fail
      refine (draw_DismissMember _ bs _ h hl).mono ?_
      rintro e w9 ⟨uB, ls, f, x, rfl, hB, hsB, hnB0, hbw9⟩
      replace h := h.below hbw9
      replace hg := below_step hg hbw9
      obtain ⟨aB, kB, rfl⟩ := hB.form
      have hnB : CommsLe ls := hsB.le (by omega)
      have h9B := hsB.1
      clear hsB
      obtain ⟨⟨le, fi⟩, hD⟩ : ∃ V, V = dismV ls f x := ⟨_, rfl⟩
      have HD := Lib.hid hD; clear hD
      have hdi : Hid (fi = true → ofV ls x = (ofL x ls, true) ∧ ofV le x = (ofL x le, true) ∧ (ofL x le).length + 1 = (ofL x ls).length ∧ (ofL x ls).length ≤ 9 ∧ hasT (ofL x ls) f = true ∧ hasT (ofL x le) f = false ∧ commsOk le = true ∧ CommsLe le) := fun hk => by
        have h1 := HD.out
        rw [hk] at h1
        obtain ⟨g1, g2, g3, g4, g5, g6⟩ := dism_less h1.symm
        refine ⟨by unfold ofV; rw [if_pos (by rw [g1, g3]; rfl)], by unfold ofV; rw [if_pos (by rw [g2, g3]; rfl)], g4, ?_, hasT_iff.2 g5, ?_, g2, commsOk_le g2⟩
        · have := ofK_len x ls ls.length
          unfold ofL; omega
        · cases hq : hasT (ofL x le) f with
          | false => rfl
          | true => exact absurd (hasT_iff.1 hq) g6
      go_wp2_with fail
      refine (i_DismissMember _ ls f x _ hB hnB).mono ?_
      rw [← HD.out]
      dsimp only
      rintro e w10 ⟨pD1, rfl, hoD1, hbw10⟩
      replace h := h.below hbw10
      replace hB := hB.below hbw10
      replace hg := below_step hg hbw10
      have hCD1 := OwnComms.at_ hoD1
      obtain ⟨aD1, kD1, rfl⟩ := hCD1.form
      clear hoD1
      go_wp2_with fail
      refine (s_DismissMember _ ls f x _ hB hnB).mono ?_
      rw [← HD.out]
      dsimp only
      rintro e w11 ⟨pD2, rfl, hoD2, hbw11⟩
      replace h := h.below hbw11
      replace hB := hB.below hbw11
      replace hCD1 := hCD1.below hbw11
      replace hg := below_step hg hbw11
      have hCD2 := OwnComms.at_ hoD2
      obtain ⟨aD2, kD2, rfl⟩ := hCD2.form
      clear hoD2
      go_wp2_with fail
      refine (rCommittees_eq _ _ le _ hCD1 hCD2).mono ?_
      rintro e w12 ⟨rfl, hbw12⟩
      replace h := h.below hbw12
      replace hB := hB.below hbw12
      replace hCD1 := hCD1.below hbw12
      replace hCD2 := hCD2.below hbw12
      replace hg := below_step hg hbw12
      go_upto_if 117 with fail
      go_cut [118] (fun _ wx => Below w12.heap.size w12 wx)
      case first => as_aux_lemma =>
        have hq := Below.refl w12.heap.size w12
        cases fi with
        | false =>
          go_wp2_with fail
          go_meet
          exact hq
        | true =>
          obtain ⟨e1, e2, e3, e4, e5, e6, e7, e8⟩ := hdi.out rfl
          have E1 := Lib.hid e1; have E2 := Lib.hid e2; have E5 := Lib.hid e5; have E6 := Lib.hid e6; have E7 := Lib.hid e7
          obtain ⟨A, hA⟩ : ∃ A, A = ofL x ls := ⟨_, rfl⟩
          obtain ⟨B, hBB⟩ : ∃ B, B = ofL x le := ⟨_, rfl⟩
          rw [← hA] at E1 E5 e3 e4
          rw [← hBB] at E2 E6 e3
          have hne : (((B.length : Nat) : Int) != ((A.length : Nat) : Int) - 1) = false := by rw [bne_eq_false_iff_eq]; omega
          have E3 := Lib.hid e3
          have h1A : 1 ≤ A.length := by omega
          clear e1 e2 e5 e6 e7 e3 hdi HD hA hBB
          go_wp2_with fail
          refine (i_CommitteesOf _ ls x _ hB hnB).mono ?_
          rw [E1.out]
          dsimp only
          rintro e w13 ⟨pT1, rfl, hoT1, hbw13⟩
          replace h := h.below hbw13
          replace hB := hB.below hbw13
          replace hCD1 := hCD1.below hbw13
          replace hCD2 := hCD2.below hbw13
          replace hq := below_step hq hbw13
          have hTT1 := OwnStrs.at_ hoT1
          obtain ⟨aT1, kT1, rfl⟩ := hTT1.form
          clear hoT1
          go_wp2_with fail
          refine (i_CommitteesOf _ le x _ hCD1 e8).mono ?_
          rw [E2.out]
          dsimp only
          rintro e w14 ⟨pT2, rfl, hoT2, hbw14⟩
          replace h := h.below hbw14
          replace hB := hB.below hbw14
          replace hCD1 := hCD1.below hbw14
          replace hCD2 := hCD2.below hbw14
          replace hTT1 := hTT1.below hbw14
          replace hq := below_step hq hbw14
          have hTT2 := OwnStrs.at_ hoT2
          obtain ⟨aT2, kT2, rfl⟩ := hTT2.form
          clear hoT2
          go_wp2_with fail
          refine (rHasText_b _ A f _ hTT1 E5.out).mono ?_
          rintro e w15 ⟨rfl, hbw15⟩
          replace h := h.below hbw15
          replace hB := hB.below hbw15
          replace hCD1 := hCD1.below hbw15
          replace hCD2 := hCD2.below hbw15
          replace hTT1 := hTT1.below hbw15
          replace hTT2 := hTT2.below hbw15
          replace hq := below_step hq hbw15
          go_wp2_with fail
          refine (rHasText_b _ B f _ hTT2 E6.out).mono ?_
          rintro e w16 ⟨rfl, hbw16⟩
          replace h := h.below hbw16
          replace hB := hB.below hbw16
          replace hCD1 := hCD1.below hbw16
          replace hCD2 := hCD2.below hbw16
          replace hTT1 := hTT1.below hbw16
          replace hTT2 := hTT2.below hbw16
          replace hq := below_step hq hbw16
          go_wp2_with fail
          refine (i_AreCommittees _ le _ hCD1 e8).mono ?_
          rw [E7.out]
          rintro e w17 ⟨rfl, hbw17⟩
          replace h := h.below hbw17
          replace hB := hB.below hbw17
          replace hCD1 := hCD1.below hbw17
          replace hCD2 := hCD2.below hbw17
          replace hTT1 := hTT1.below hbw17
          replace hTT2 := hTT2.below hbw17
          replace hq := below_step hq hbw17
          go_wp2_with fail
          go_meet
          exact hq
      case rest => as_aux_lemma =>
        rename World => wc17
        have hbwc17 := hcut; clear hcut
        clear hB hCD1 hCD2 HD hdi hnB h9B
        replace h := h.below hbwc17
        replace hg := below_step hg hbwc17
        go_wp2_with fail
        refine (draw_FormCommittee _ bs _ h hl).mono ?_
        rintro e w19 ⟨uF, fs, ti, vM, ms, rfl, hF, hMs, hsF, hti, hml, hbw19⟩
        replace h := h.below hbw19
        replace hg := below_step hg hbw19
        obtain ⟨aF, kF, rfl⟩ := hF.form
        have hnF : CommsLe fs := hsF.le (by omega)
        have h9F := hsF.1
        clear hsF
        obtain ⟨aM, kM, rfl⟩ := hMs.form
        have hml2 : ms.length ≤ 1048576 := by omega
        have hti2 : ti.size ≤ 1048576 := by omega
        obtain ⟨⟨fo, tl⟩, hF⟩ : ∃ V, V = formV fs ti ms := ⟨_, rfl⟩
        have HF := Lib.hid hF; clear hF
        have hfo : Hid (tl = true → fo.length = fs.length + 1) := fun hk => by
          have h1 := HF.out
          rw [hk] at h1
          exact form_one h1.symm
        go_wp2_with fail
        refine (i_FormCommittee _ fs ti _ ms _ hF hMs hnF hml2 hti2).mono ?_
        rw [← HF.out]
        dsimp only
        rintro e w20 ⟨pF1, rfl, hoF1, hbw20⟩
        replace h := h.below hbw20
        replace hF := hF.below hbw20
        replace hMs := hMs.below hbw20
        replace hg := below_step hg hbw20
        have hCF1 := OwnComms.at_ hoF1
        obtain ⟨aF1, kF1, rfl⟩ := hCF1.form
        clear hoF1
        go_wp2_with fail
        refine (s_FormCommittee _ fs ti _ ms _ hF hMs hnF hml2 hti2).mono ?_
        rw [← HF.out]
        dsimp only
        rintro e w21 ⟨pF2, rfl, hoF2, hbw21⟩
        replace h := h.below hbw21
        replace hF := hF.below hbw21
        replace hMs := hMs.below hbw21
        replace hCF1 := hCF1.below hbw21
        replace hg := below_step hg hbw21
        have hCF2 := OwnComms.at_ hoF2
        obtain ⟨aF2, kF2, rfl⟩ := hCF2.form
        clear hoF2
        go_upto_region 25 with fail
        go_cut [199] (fun a wx => a = .bool false ∧ Below w21.heap.size w21 wx)
        case first => as_aux_lemma =>
          have hf8 := hfo.out
          clear hfo HF
          cases tl with
          | false =>
            clear hf8
            go_wp2_with fail
            refine (rCommittees_eq _ _ fo _ hCF1 hCF2).mono ?_
            rintro e wq ⟨rfl, hbq⟩
            go_wp2_with fail
            go_meet
            exact ⟨rfl, hbq⟩
          | true =>
            have hne : (((fo.length : Nat) : Int) != ((fs.length : Nat) : Int) + 1) = false := by rw [bne_eq_false_iff_eq]; have := hf8 rfl; omega
            clear hf8
            go_wp2_with fail
            refine (rCommittees_eq _ _ fo _ hCF1 hCF2).mono ?_
            rintro e wq ⟨rfl, hbq⟩
            go_wp2_with fail
            go_meet
            exact ⟨rfl, hbq⟩
        case rest => as_aux_lemma =>
          rename World => wc21
          obtain ⟨rfl, hbwc21⟩ := hcut
          clear hF hMs hCF1 hCF2 HF hfo hnF h9F
          replace h := h.below hbwc21
          replace hg := below_step hg hbwc21
          go_wp2_with fail
          refine (draw_CommitteesOf _ bs _ h hl).mono ?_
          rintro e w23 ⟨uG, gs, q, rfl, hG, hsG, hbw23⟩
          replace h := h.below hbw23
          replace hg := below_step hg hbw23
          obtain ⟨aG, kG, rfl⟩ := hG.form
          have hnG : CommsLe gs := hsG.le (by omega)
          have h9G := hsG.1
          clear hsG
          obtain ⟨⟨na, kn⟩, hO⟩ : ∃ V, V = ofV gs q := ⟨_, rfl⟩
          have HO := Lib.hid hO; clear hO
          go_wp2_with fail
          refine (i_CommitteesOf _ gs q _ hG hnG).mono ?_
          rw [← HO.out]
          dsimp only
          rintro e w24 ⟨pO1, rfl, hoO1, hbw24⟩
          replace h := h.below hbw24
          replace hG := hG.below hbw24
          replace hg := below_step hg hbw24
          have hTO1 := OwnStrs.at_ hoO1
          obtain ⟨aO1, kO1, rfl⟩ := hTO1.form
          clear hoO1
          go_wp2_with fail
          refine (s_CommitteesOf _ gs q _ hG hnG).mono ?_
          rw [← HO.out]
          dsimp only
          rintro e w25 ⟨pO2, rfl, hoO2, hbw25⟩
          replace h := h.below hbw25
          replace hG := hG.below hbw25
          replace hTO1 := hTO1.below hbw25
          replace hg := below_step hg hbw25
          have hTO2 := OwnStrs.at_ hoO2
          obtain ⟨aO2, kO2, rfl⟩ := hTO2.form
          clear hoO2
          go_wp2_with fail
          refine (rTexts_eq _ _ na _ hTO1 hTO2).mono ?_
          rintro e w26 ⟨rfl, hbw26⟩
          replace h := h.below hbw26
          replace hG := hG.below hbw26
          replace hTO1 := hTO1.below hbw26
          replace hTO2 := hTO2.below hbw26
          replace hg := below_step hg hbw26
          go_wp2_with fail
          go_ret
          exact ⟨by simp, hg⟩
end Go.Proofs.Ytpjmcjdnobihbaa
