/- The walk of FnSessions out of its callees' contracts: it returns true, and what was there stays. No conditions. -/
import Derived.Test.YtflkijklipkneaaDrawR
import Derived.Test.YtflkijklipkneaaSessU
import Derived.Deep.DeepCutAuto
namespace Go.Proofs.Ytflkijklipkneaa
open Go.RowKit
set_option linter.unusedVariables false
set_option linter.unusedSimpArgs false

set_option maxRecDepth 100000 in
set_option maxHeartbeats 8000000 in
theorem law_FnSessions (w : World) (v : Value) (bs : List Int) (h : BytesAt w v bs) :
    Calls Try.prog 4 #[v] w fun e w' => e = .returned (.bool true) ∧ Below w.heap.size w w' := by
  have HQ := rBig_c v bs w h
  obtain ⟨ao, cap, rfl⟩ := h.1.form
  by_cases hbig : 65536 < bs.length
  · rw [decide_eq_true hbig] at HQ
    have HQ' := Lib.hid HQ; clear HQ
    go_enter Try.func4, Try.ntmps4
    go_wp2_with (go_at_call 17; refine HQ'.out.mono ?_; rintro e w' ⟨rfl, rfl⟩)
    go_ret
    exact ⟨rfl, Below.refl _ _⟩
  · rw [decide_eq_false hbig] at HQ
    have HQ' := Lib.hid HQ; clear HQ
    have hl : bs.length ≤ 65537 := by omega
    clear hbig
    have hg := Below.refl w.heap.size w
    go_enter Try.func4, Try.ntmps4
    go_wp2_with (go_at_call 17; refine HQ'.out.mono ?_; rintro e w' ⟨rfl, rfl⟩)
    refine (draw_ComeIn _ bs _ h hl).mono ?_
    rintro e w1 ⟨enA, nuA, deA, uA, xsA, reA, x, rfl, hoA, hxA, hbw1⟩
    replace h := h.below hbw1
    replace hg := below_step hg hbw1
    have hA := OwnI.at_ hoA
    obtain ⟨aA, kA, rfl⟩ := hA.form
    have hnA : xsA.length ≤ 1048576 := by omega
    clear hoA
    obtain ⟨⟨⟨enB, nuB, deB, xsB, reB⟩, okB⟩, hmB⟩ : ∃ M, M = comeIn ⟨enA, nuA, deA, xsA, reA⟩ x := ⟨_, rfl⟩
    have HMB := Lib.hid hmB; clear hmB
    have hnB : xsB.length ≤ 1048576 := by have := come_len HMB.out; dsimp only at this; omega
    go_wp2_with (
      with_reducible change Go.wpList _ _ _ (Oper.mk _ (Op.load _ _) _ _ _ _ :: _) _ (World.alloc _ _)
      generalize hV : World.alloc _ _ = w2
      have hbw2 : Below w1.heap.size w1 w2 := by rw [← hV]; exact (Below.refl _ _).alloc (Nat.le_refl _) _
      have bxA : BoxAt w2 w1.heap.size #[.int .i64 enA, .int .i64 nuA, .int .i64 deA, .slice aA xsA.length kA, .int .i64 reA] := by rw [← hV]; exact BoxAt.new _ _ _
      replace h := h.below hbw2
      replace hA := hA.below hbw2
      replace hg := below_step hg hbw2
      have cxA := bxA.cells
      clear hV)
    refine (i_ComeIn enA nuA deA _ xsA reA x _ hA hnA).mono ?_
    rw [← HMB.out]
    dsimp only
    rintro e w3 ⟨uB, rfl, hoB, hbw3⟩
    replace h := h.below hbw3
    replace hA := hA.below hbw3
    replace bxA := bxA.below hbw3
    replace cxA := bxA.cells
    replace hg := below_step hg hbw3
    have hB := OwnI.at_ hoB
    obtain ⟨aB, kB, rfl⟩ := hB.form
    clear hoB
    go_wp2_with (
      with_reducible change Go.wpList _ _ _ (Oper.mk _ (Op.load _ _) _ _ _ _ :: _) _ (World.alloc _ _)
      generalize hV : World.alloc _ _ = w4
      have hbw4 : Below w3.heap.size w3 w4 := by rw [← hV]; exact (Below.refl _ _).alloc (Nat.le_refl _) _
      have bxB : BoxAt w4 w3.heap.size #[.int .i64 enB, .int .i64 nuB, .int .i64 deB, .slice aB xsB.length kB, .int .i64 reB] := by rw [← hV]; exact BoxAt.new _ _ _
      replace h := h.below hbw4
      replace hA := hA.below hbw4
      replace hB := hB.below hbw4
      replace bxA := bxA.below hbw4
      replace cxA := bxA.cells
      replace hg := below_step hg hbw4
      have cxB := bxB.cells
      clear hV)
    refine (s_ComeIn enA nuA deA _ xsA reA x _ hA hnA).mono ?_
    rw [← HMB.out]
    dsimp only
    rintro e w5 ⟨uC, rfl, hoC, hbw5⟩
    replace h := h.below hbw5
    replace hA := hA.below hbw5
    replace hB := hB.below hbw5
    replace bxA := bxA.below hbw5
    replace cxA := bxA.cells
    replace bxB := bxB.below hbw5
    replace cxB := bxB.cells
    replace hg := below_step hg hbw5
    have hC := OwnI.at_ hoC
    obtain ⟨aC, kC, rfl⟩ := hC.form
    clear hoC
    go_wp2_with (
      with_reducible change Go.wpList _ _ _ (Oper.mk _ (Op.load _ _) _ _ _ _ :: _) _ (World.alloc _ _)
      generalize hV : World.alloc _ _ = w6
      have hbw6 : Below w5.heap.size w5 w6 := by rw [← hV]; exact (Below.refl _ _).alloc (Nat.le_refl _) _
      have bxC : BoxAt w6 w5.heap.size #[.int .i64 enB, .int .i64 nuB, .int .i64 deB, .slice aC xsB.length kC, .int .i64 reB] := by rw [← hV]; exact BoxAt.new _ _ _
      replace h := h.below hbw6
      replace hA := hA.below hbw6
      replace hB := hB.below hbw6
      replace hC := hC.below hbw6
      replace bxA := bxA.below hbw6
      replace cxA := bxA.cells
      replace bxB := bxB.below hbw6
      replace cxB := bxB.cells
      replace hg := below_step hg hbw6
      have cxC := bxC.cells
      clear hV)
    refine (rSessions_eq enB nuB deB _ xsB reB _ _ hB hC).mono ?_
    rintro e w7 ⟨rfl, hbw7⟩
    replace h := h.below hbw7
    replace hA := hA.below hbw7
    replace hB := hB.below hbw7
    replace hC := hC.below hbw7
    replace bxA := bxA.below hbw7
    replace cxA := bxA.cells
    replace bxB := bxB.below hbw7
    replace cxB := bxB.cells
    replace bxC := bxC.below hbw7
    replace cxC := bxC.cells
    replace hg := below_step hg hbw7
    go_upto_if 74 with fail
    go_cut [75] (fun _ wx => Below w7.heap.size w7 wx)
    case first => as_aux_lemma =>
      cases okB with
      | false =>
        go_wp2_with fail
        go_meet
        exact Below.refl _ _
      | true =>
        have hq := Below.refl w7.heap.size w7
        obtain ⟨hbk, hokm⟩ := come_back HMB.out
        dsimp only at hokm
        have HBK := Lib.hid hbk; have HOK := Lib.hid hokm; clear hbk hokm
        go_wp2_with fail
        refine (i_GoOut enB nuB deB _ xsB reB x _ hB hnB).mono ?_
        rw [HBK.out]
        dsimp only
        rintro e w8 ⟨uG, rfl, hoG, hbw8⟩
        replace hA := hA.below hbw8
        replace hB := hB.below hbw8
        replace bxA := bxA.below hbw8
        replace cxA := bxA.cells
        replace bxB := bxB.below hbw8
        replace cxB := bxB.cells
        replace hq := below_step hq hbw8
        have hG := OwnI.at_ hoG
        obtain ⟨aG, kG, rfl⟩ := hG.form
        clear hoG
        go_wp2_with (
          with_reducible change Go.wpList _ _ _ (Oper.mk _ (Op.load _ _) _ _ _ _ :: _) _ (World.alloc _ _)
          generalize hV : World.alloc _ _ = w9
          have hbw9 : Below w8.heap.size w8 w9 := by rw [← hV]; exact (Below.refl _ _).alloc (Nat.le_refl _) _
          have bxG : BoxAt w9 w8.heap.size #[.int .i64 enA, .int .i64 nuA, .int .i64 deA, .slice aG xsA.length kG, .int .i64 reA] := by rw [← hV]; exact BoxAt.new _ _ _
          replace hA := hA.below hbw9
          replace hB := hB.below hbw9
          replace hG := hG.below hbw9
          replace bxA := bxA.below hbw9
          replace cxA := bxA.cells
          replace bxB := bxB.below hbw9
          replace cxB := bxB.cells
          replace hq := below_step hq hbw9
          have cxG := bxG.cells
          clear hV)
        refine (rSessions_eq enA nuA deA _ xsA reA _ _ hG hA).mono ?_
        rintro e w10 ⟨rfl, hbw10⟩
        replace hA := hA.below hbw10
        replace hB := hB.below hbw10
        replace hG := hG.below hbw10
        replace bxA := bxA.below hbw10
        replace cxA := bxA.cells
        replace bxB := bxB.below hbw10
        replace cxB := bxB.cells
        replace bxG := bxG.below hbw10
        replace cxG := bxG.cells
        replace hq := below_step hq hbw10
        go_wp2_with fail
        refine (i_IsValidSession enB nuB deB _ xsB reB _ hB).mono ?_
        rw [HOK.out]
        rintro e w11 ⟨rfl, hbw11⟩
        replace hA := hA.below hbw11
        replace hB := hB.below hbw11
        replace hG := hG.below hbw11
        replace bxA := bxA.below hbw11
        replace cxA := bxA.cells
        replace bxB := bxB.below hbw11
        replace cxB := bxB.cells
        replace bxG := bxG.below hbw11
        replace cxG := bxG.cells
        replace hq := below_step hq hbw11
        go_wp2_with fail
        go_meet
        exact hq
    case rest =>
      rename World => wc11
      have hbwc11 := hcut
      clear hcut
      clear hA hB hC bxA bxB bxC cxA cxB cxC HMB
      replace h := h.below hbwc11
      replace hg := below_step hg hbwc11
      go_wp2_with fail
      refine (draw_DrawGoOut _ bs _ h hl).mono ?_
      rintro e w12 ⟨enD, nuD, deD, uD, xsD, reD, y, rfl, hoD, hxD, hbw12⟩
      replace h := h.below hbw12
      replace hg := below_step hg hbw12
      have hD := OwnI.at_ hoD
      obtain ⟨aD, kD, rfl⟩ := hD.form
      have hnD : xsD.length ≤ 1048576 := by omega
      clear hoD
      obtain ⟨⟨⟨enE, nuE, deE, xsE, reE⟩, okE⟩, hmE⟩ : ∃ M, M = goOut ⟨enD, nuD, deD, xsD, reD⟩ y := ⟨_, rfl⟩
      have HME := Lib.hid hmE; clear hmE
      go_wp2_with (
        with_reducible change Go.wpList _ _ _ (Oper.mk _ (Op.load _ _) _ _ _ _ :: _) _ (World.alloc _ _)
        generalize hV : World.alloc _ _ = w13
        have hbw13 : Below w12.heap.size w12 w13 := by rw [← hV]; exact (Below.refl _ _).alloc (Nat.le_refl _) _
        have bxD : BoxAt w13 w12.heap.size #[.int .i64 enD, .int .i64 nuD, .int .i64 deD, .slice aD xsD.length kD, .int .i64 reD] := by rw [← hV]; exact BoxAt.new _ _ _
        replace h := h.below hbw13
        replace hD := hD.below hbw13
        replace hg := below_step hg hbw13
        have cxD := bxD.cells
        clear hV)
      refine (i_GoOut enD nuD deD _ xsD reD y _ hD hnD).mono ?_
      rw [← HME.out]
      dsimp only
      rintro e w14 ⟨uE, rfl, hoE, hbw14⟩
      replace h := h.below hbw14
      replace hD := hD.below hbw14
      replace bxD := bxD.below hbw14
      replace cxD := bxD.cells
      replace hg := below_step hg hbw14
      have hE := OwnI.at_ hoE
      obtain ⟨aE, kE, rfl⟩ := hE.form
      clear hoE
      go_wp2_with (
        with_reducible change Go.wpList _ _ _ (Oper.mk _ (Op.load _ _) _ _ _ _ :: _) _ (World.alloc _ _)
        generalize hV : World.alloc _ _ = w15
        have hbw15 : Below w14.heap.size w14 w15 := by rw [← hV]; exact (Below.refl _ _).alloc (Nat.le_refl _) _
        have bxE : BoxAt w15 w14.heap.size #[.int .i64 enE, .int .i64 nuE, .int .i64 deE, .slice aE xsE.length kE, .int .i64 reE] := by rw [← hV]; exact BoxAt.new _ _ _
        replace h := h.below hbw15
        replace hD := hD.below hbw15
        replace hE := hE.below hbw15
        replace bxD := bxD.below hbw15
        replace cxD := bxD.cells
        replace hg := below_step hg hbw15
        have cxE := bxE.cells
        clear hV)
      refine (s_GoOut enD nuD deD _ xsD reD y _ hD hnD).mono ?_
      rw [← HME.out]
      dsimp only
      rintro e w16 ⟨uF, rfl, hoF, hbw16⟩
      replace h := h.below hbw16
      replace hD := hD.below hbw16
      replace hE := hE.below hbw16
      replace bxD := bxD.below hbw16
      replace cxD := bxD.cells
      replace bxE := bxE.below hbw16
      replace cxE := bxE.cells
      replace hg := below_step hg hbw16
      have hF := OwnI.at_ hoF
      obtain ⟨aF, kF, rfl⟩ := hF.form
      clear hoF
      go_wp2_with (
        with_reducible change Go.wpList _ _ _ (Oper.mk _ (Op.load _ _) _ _ _ _ :: _) _ (World.alloc _ _)
        generalize hV : World.alloc _ _ = w17
        have hbw17 : Below w16.heap.size w16 w17 := by rw [← hV]; exact (Below.refl _ _).alloc (Nat.le_refl _) _
        have bxF : BoxAt w17 w16.heap.size #[.int .i64 enE, .int .i64 nuE, .int .i64 deE, .slice aF xsE.length kF, .int .i64 reE] := by rw [← hV]; exact BoxAt.new _ _ _
        replace h := h.below hbw17
        replace hD := hD.below hbw17
        replace hE := hE.below hbw17
        replace hF := hF.below hbw17
        replace bxD := bxD.below hbw17
        replace cxD := bxD.cells
        replace bxE := bxE.below hbw17
        replace cxE := bxE.cells
        replace hg := below_step hg hbw17
        have cxF := bxF.cells
        clear hV)
      refine (rSessions_eq enE nuE deE _ xsE reE _ _ hE hF).mono ?_
      rintro e w18 ⟨rfl, hbw18⟩
      replace h := h.below hbw18
      replace hD := hD.below hbw18
      replace hE := hE.below hbw18
      replace hF := hF.below hbw18
      replace bxD := bxD.below hbw18
      replace cxD := bxD.cells
      replace bxE := bxE.below hbw18
      replace cxE := bxE.cells
      replace bxF := bxF.below hbw18
      replace cxF := bxF.cells
      replace hg := below_step hg hbw18
      clear hD hE hF bxD bxE cxD cxE HME
      go_wp2_with fail
      refine (draw_Missing _ bs _ h hl).mono ?_
      rintro e w19 ⟨enM, nuM, deM, uM, xsM, reM, rfl, hoM, hxM, hbw19⟩
      replace h := h.below hbw19
      replace hg := below_step hg hbw19
      have hM := OwnI.at_ hoM
      obtain ⟨aM, kM, rfl⟩ := hM.form
      have hnM : xsM.length ≤ 1048576 := by omega
      clear hoM
      obtain ⟨mi, hmi⟩ : ∃ y, y = missV enM nuM deM xsM reM := ⟨_, rfl⟩
      have HMI := Lib.hid hmi; clear hmi
      obtain ⟨le, hle⟩ : ∃ y, y = leastV enM nuM deM xsM reM := ⟨_, rfl⟩
      have HLE := Lib.hid hle; clear hle
      obtain ⟨okM, hok⟩ : ∃ y, y = sessOk enM nuM deM xsM reM := ⟨_, rfl⟩
      obtain ⟨qu, hqu⟩ : ∃ y, y = (sessOk enM nuM deM xsM reM && quorumB enM nuM deM xsM) := ⟨_, rfl⟩
      have HOK := Lib.hid hok; have HQU := Lib.hid hqu; clear hok hqu
      go_wp2_with (
        with_reducible change Go.wpList _ _ _ (Oper.mk _ (Op.load _ _) _ _ _ _ :: _) _ (World.alloc _ _)
        generalize hV : World.alloc _ _ = w20
        have hbw20 : Below w19.heap.size w19 w20 := by rw [← hV]; exact (Below.refl _ _).alloc (Nat.le_refl _) _
        have bxM : BoxAt w20 w19.heap.size #[.int .i64 enM, .int .i64 nuM, .int .i64 deM, .slice aM xsM.length kM, .int .i64 reM] := by rw [← hV]; exact BoxAt.new _ _ _
        replace h := h.below hbw20
        replace hM := hM.below hbw20
        replace hg := below_step hg hbw20
        have cxM := bxM.cells
        clear hV)
      refine (i_MissingMembers enM nuM deM _ xsM reM _ hM).mono ?_
      rw [← HMI.out, ← HOK.out]
      rintro e w21 ⟨rfl, hbw21⟩
      replace h := h.below hbw21
      replace hM := hM.below hbw21
      replace bxM := bxM.below hbw21
      replace cxM := bxM.cells
      replace hg := below_step hg hbw21
      go_wp2_with fail
      refine (i_SmallestQuorum enM nuM deM _ xsM reM _ hM).mono ?_
      rw [← HLE.out, ← HOK.out]
      rintro e w22 ⟨rfl, hbw22⟩
      replace h := h.below hbw22
      replace hM := hM.below hbw22
      replace bxM := bxM.below hbw22
      replace cxM := bxM.cells
      replace hg := below_step hg hbw22
      go_wp2_with fail
      refine (i_HasQuorum enM nuM deM _ xsM reM _ hM).mono ?_
      rw [← HQU.out, ← HOK.out]
      rintro e w23 ⟨rfl, hbw23⟩
      replace h := h.below hbw23
      replace hM := hM.below hbw23
      replace bxM := bxM.below hbw23
      replace cxM := bxM.cells
      replace hg := below_step hg hbw23
      go_wp2_with fail
      refine (s_MissingMembers enM nuM deM _ xsM reM _ hM).mono ?_
      rw [← HMI.out, ← HOK.out]
      rintro e w24 ⟨rfl, hbw24⟩
      replace h := h.below hbw24
      replace hM := hM.below hbw24
      replace bxM := bxM.below hbw24
      replace cxM := bxM.cells
      replace hg := below_step hg hbw24
      go_wp2_with fail
      refine (s_SmallestQuorum enM nuM deM _ xsM reM _ hM).mono ?_
      rw [← HLE.out, ← HOK.out]
      rintro e w25 ⟨rfl, hbw25⟩
      replace h := h.below hbw25
      replace hM := hM.below hbw25
      replace bxM := bxM.below hbw25
      replace cxM := bxM.cells
      replace hg := below_step hg hbw25
      go_wp2_with fail
      refine (s_HasQuorum enM nuM deM _ xsM reM _ hM).mono ?_
      rw [← HQU.out, ← HOK.out]
      rintro e w26 ⟨rfl, hbw26⟩
      replace h := h.below hbw26
      replace hM := hM.below hbw26
      replace bxM := bxM.below hbw26
      replace cxM := bxM.cells
      replace hg := below_step hg hbw26
      go_upto_region 30 with fail
      go_cut [221] (fun a wx => a = .bool false ∧ Below w26.heap.size w26 wx)
      case first => as_aux_lemma =>
        cases okM with
        | false =>
          go_wp2_with fail
          go_meet
          exact ⟨rfl, Below.refl _ _⟩
        | true =>
          have hok := HOK.out.symm
          obtain ⟨a1, a2, a3, _, _⟩ := sessOk_iff.1 hok
          have hql := quorum_mul (en := enM) (nu := nuM) (pr := xsM) a2.1
          have hmi := HMI.out
          have hle := HLE.out
          have hqu := HQU.out
          rw [hok, Bool.true_and] at hqu
          unfold missV at hmi
          unfold leastV at hle
          rw [if_pos hok] at hmi hle
          have hlb := leastQ_bd a1 a2 a3
          have hx40 : (xsM.length : Int) ≤ 40 := by omega
          have m1 : (xsM.length : Int) * deM ≤ 40 * 10 := Int.mul_le_mul hx40 a2.2 (by omega) (by omega)
          have m2 : 0 ≤ (xsM.length : Int) * deM := Int.mul_nonneg (by omega) (by omega)
          have m3 : enM * nuM ≤ 30 * 10 := Int.mul_le_mul a1.2 (by omega) (by omega) (by omega)
          have m4 : 0 ≤ enM * nuM := Int.mul_nonneg (by omega) (by omega)
          have q1 : IntKind.i64.wrap ((xsM.length : Int) * deM) = (xsM.length : Int) * deM := IntWalk.i64_in _ (by omega)
          have q2 : IntKind.i64.wrap (enM * nuM) = enM * nuM := IntWalk.i64_in _ (by omega)
          have q3 : IntKind.i64.wrap ((xsM.length : Int) + mi) = (xsM.length : Int) + mi := IntWalk.i64_in _ (by omega)
          rw [hql] at hqu
          have hquL : quorumB enM nuM deM xsM = decide (leastQ enM nuM deM ≤ xsM.length) := rfl
          rw [hquL] at hql
          by_cases hge : enM * nuM ≤ (xsM.length : Int) * deM
          · have hq1 : qu = true := by rw [hqu]; exact decide_eq_true hge
            have hq2 : leastQ enM nuM deM ≤ xsM.length := of_decide_eq_true (hql.trans (decide_eq_true hge))
            have hm0 : mi = 0 := by omega
            subst hq1 hm0
            clear hqu hql hquL hmi hle HQU HMI HLE HOK hlb m1 m2 m3 m4 hok
            go_wp2_with fail
            go_meet
            exact ⟨rfl, Below.refl _ _⟩
          · have hq1 : qu = false := by rw [hqu]; exact decide_eq_false hge
            have hq2 : ¬ leastQ enM nuM deM ≤ xsM.length := of_decide_eq_false (hql.trans (decide_eq_false hge))
            have hm0 : (mi == 0) = false := by rw [beq_eq_false_iff_ne]; omega
            have hm1 : (xsM.length : Int) + mi = le := by omega
            subst hq1
            rw [hm1] at q3
            clear hqu hql hquL hmi hle HQU HMI HLE HOK hlb m1 m2 m3 m4 hok
            go_wp2_with fail
            go_meet
            exact ⟨rfl, Below.refl _ _⟩
      case rest =>
        rename World => wc26
        obtain ⟨rfl, hbwc26⟩ := hcut
        clear hM bxM cxM HMI HLE HOK HQU
        replace h := h.below hbwc26
        replace hg := below_step hg hbwc26
        go_wp2_with fail
        refine (draw_BeginRecess _ bs _ h hl).mono ?_
        rintro e w27 ⟨enR, nuR, deR, uR, xsR, reR, z, rfl, hoR, hxR, hbw27⟩
        replace h := h.below hbw27
        replace hg := below_step hg hbw27
        have hR := OwnI.at_ hoR
        obtain ⟨aR, kR, rfl⟩ := hR.form
        have hnR : xsR.length ≤ 1048576 := by omega
        clear hoR
        obtain ⟨⟨⟨enT, nuT, deT, xsT, reT⟩, okT⟩, hmT⟩ : ∃ M, M = beginRecess ⟨enR, nuR, deR, xsR, reR⟩ z := ⟨_, rfl⟩
        have HMT := Lib.hid hmT; clear hmT
        have hnT : xsT.length ≤ 1048576 := by have := recess_len HMT.out; dsimp only at this; omega
        go_wp2_with (
          with_reducible change Go.wpList _ _ _ (Oper.mk _ (Op.load _ _) _ _ _ _ :: _) _ (World.alloc _ _)
          generalize hV : World.alloc _ _ = w28
          have hbw28 : Below w27.heap.size w27 w28 := by rw [← hV]; exact (Below.refl _ _).alloc (Nat.le_refl _) _
          have bxR : BoxAt w28 w27.heap.size #[.int .i64 enR, .int .i64 nuR, .int .i64 deR, .slice aR xsR.length kR, .int .i64 reR] := by rw [← hV]; exact BoxAt.new _ _ _
          replace h := h.below hbw28
          replace hR := hR.below hbw28
          replace hg := below_step hg hbw28
          have cxR := bxR.cells
          clear hV)
        refine (i_BeginRecess enR nuR deR _ xsR reR z _ hR hnR).mono ?_
        rw [← HMT.out]
        dsimp only
        rintro e w29 ⟨uT, rfl, hoT, hbw29⟩
        replace h := h.below hbw29
        replace hR := hR.below hbw29
        replace bxR := bxR.below hbw29
        replace cxR := bxR.cells
        replace hg := below_step hg hbw29
        have hT := OwnI.at_ hoT
        obtain ⟨aT, kT, rfl⟩ := hT.form
        clear hoT
        go_wp2_with (
          with_reducible change Go.wpList _ _ _ (Oper.mk _ (Op.load _ _) _ _ _ _ :: _) _ (World.alloc _ _)
          generalize hV : World.alloc _ _ = w30
          have hbw30 : Below w29.heap.size w29 w30 := by rw [← hV]; exact (Below.refl _ _).alloc (Nat.le_refl _) _
          have bxT : BoxAt w30 w29.heap.size #[.int .i64 enT, .int .i64 nuT, .int .i64 deT, .slice aT xsT.length kT, .int .i64 reT] := by rw [← hV]; exact BoxAt.new _ _ _
          replace h := h.below hbw30
          replace hR := hR.below hbw30
          replace hT := hT.below hbw30
          replace bxR := bxR.below hbw30
          replace cxR := bxR.cells
          replace hg := below_step hg hbw30
          have cxT := bxT.cells
          clear hV)
        refine (s_BeginRecess enR nuR deR _ xsR reR z _ hR hnR).mono ?_
        rw [← HMT.out]
        dsimp only
        rintro e w31 ⟨uU, rfl, hoU, hbw31⟩
        replace h := h.below hbw31
        replace hR := hR.below hbw31
        replace hT := hT.below hbw31
        replace bxR := bxR.below hbw31
        replace cxR := bxR.cells
        replace bxT := bxT.below hbw31
        replace cxT := bxT.cells
        replace hg := below_step hg hbw31
        have hU := OwnI.at_ hoU
        obtain ⟨aU, kU, rfl⟩ := hU.form
        clear hoU
        go_wp2_with (
          with_reducible change Go.wpList _ _ _ (Oper.mk _ (Op.load _ _) _ _ _ _ :: _) _ (World.alloc _ _)
          generalize hV : World.alloc _ _ = w32
          have hbw32 : Below w31.heap.size w31 w32 := by rw [← hV]; exact (Below.refl _ _).alloc (Nat.le_refl _) _
          have bxU : BoxAt w32 w31.heap.size #[.int .i64 enT, .int .i64 nuT, .int .i64 deT, .slice aU xsT.length kU, .int .i64 reT] := by rw [← hV]; exact BoxAt.new _ _ _
          replace h := h.below hbw32
          replace hR := hR.below hbw32
          replace hT := hT.below hbw32
          replace hU := hU.below hbw32
          replace bxR := bxR.below hbw32
          replace cxR := bxR.cells
          replace bxT := bxT.below hbw32
          replace cxT := bxT.cells
          replace hg := below_step hg hbw32
          have cxU := bxU.cells
          clear hV)
        refine (rSessions_eq enT nuT deT _ xsT reT _ _ hT hU).mono ?_
        rintro e w33 ⟨rfl, hbw33⟩
        replace h := h.below hbw33
        replace hR := hR.below hbw33
        replace hT := hT.below hbw33
        replace hU := hU.below hbw33
        replace bxR := bxR.below hbw33
        replace cxR := bxR.cells
        replace bxT := bxT.below hbw33
        replace cxT := bxT.cells
        replace bxU := bxU.below hbw33
        replace cxU := bxU.cells
        replace hg := below_step hg hbw33
        go_upto_if 248 with fail
        go_cut [249] (fun _ wx => Below w33.heap.size w33 wx)
        case first => as_aux_lemma =>
          cases okT with
          | false =>
            go_wp2_with fail
            go_meet
            exact Below.refl _ _
          | true =>
            have hq := Below.refl w33.heap.size w33
            obtain ⟨hp1, hp2, hz1, hz2⟩ := recess_back HMT.out
            have HP1 := Lib.hid hp1; have HP2 := Lib.hid hp2; clear hp1 hp2
            have hwz : IntKind.i64.wrap (z - 1) = z - 1 := IntWalk.i64_in _ (by omega)
            go_wp2_with fail
            refine (i_PassMinutes enT nuT deT _ xsT reT z _ hT hnT).mono ?_
            rw [HP1.out]
            dsimp only
            rintro e w34 ⟨uP, rfl, hoP, hbw34⟩
            replace hR := hR.below hbw34
            replace hT := hT.below hbw34
            replace bxR := bxR.below hbw34
            replace cxR := bxR.cells
            replace bxT := bxT.below hbw34
            replace cxT := bxT.cells
            replace hq := below_step hq hbw34
            have hP := OwnI.at_ hoP
            obtain ⟨aP, kP, rfl⟩ := hP.form
            clear hoP
            go_wp2_with (
              with_reducible change Go.wpList _ _ _ (Oper.mk _ (Op.load _ _) _ _ _ _ :: _) _ (World.alloc _ _)
              generalize hV : World.alloc _ _ = w35
              have hbw35 : Below w34.heap.size w34 w35 := by rw [← hV]; exact (Below.refl _ _).alloc (Nat.le_refl _) _
              have bxP : BoxAt w35 w34.heap.size #[.int .i64 enR, .int .i64 nuR, .int .i64 deR, .slice aP xsR.length kP, .int .i64 reR] := by rw [← hV]; exact BoxAt.new _ _ _
              replace hR := hR.below hbw35
              replace hT := hT.below hbw35
              replace hP := hP.below hbw35
              replace bxR := bxR.below hbw35
              replace cxR := bxR.cells
              replace bxT := bxT.below hbw35
              replace cxT := bxT.cells
              replace hq := below_step hq hbw35
              have cxP := bxP.cells
              clear hV)
            refine (i_PassMinutes enT nuT deT _ xsT reT (z - 1) _ hT hnT).mono ?_
            rw [HP2.out]
            dsimp only
            rintro e w36 ⟨uX, rfl, hoX, hbw36⟩
            replace hR := hR.below hbw36
            replace hT := hT.below hbw36
            replace hP := hP.below hbw36
            replace bxR := bxR.below hbw36
            replace cxR := bxR.cells
            replace bxT := bxT.below hbw36
            replace cxT := bxT.cells
            replace bxP := bxP.below hbw36
            replace cxP := bxP.cells
            replace hq := below_step hq hbw36
            have hX := OwnI.at_ hoX
            obtain ⟨aX, kX, rfl⟩ := hX.form
            clear hoX
            go_wp2_with (
              with_reducible change Go.wpList _ _ _ (Oper.mk _ (Op.load _ _) _ _ _ _ :: _) _ (World.alloc _ _)
              generalize hV : World.alloc _ _ = w37
              have hbw37 : Below w36.heap.size w36 w37 := by rw [← hV]; exact (Below.refl _ _).alloc (Nat.le_refl _) _
              have bxX : BoxAt w37 w36.heap.size #[.int .i64 enT, .int .i64 nuT, .int .i64 deT, .slice aX xsT.length kX, .int .i64 reT] := by rw [← hV]; exact BoxAt.new _ _ _
              replace hR := hR.below hbw37
              replace hT := hT.below hbw37
              replace hP := hP.below hbw37
              replace hX := hX.below hbw37
              replace bxR := bxR.below hbw37
              replace cxR := bxR.cells
              replace bxT := bxT.below hbw37
              replace cxT := bxT.cells
              replace bxP := bxP.below hbw37
              replace cxP := bxP.cells
              replace hq := below_step hq hbw37
              have cxX := bxX.cells
              clear hV)
            refine (rSessions_eq enR nuR deR _ xsR reR _ _ hP hR).mono ?_
            rintro e w38 ⟨rfl, hbw38⟩
            replace hR := hR.below hbw38
            replace hT := hT.below hbw38
            replace hP := hP.below hbw38
            replace hX := hX.below hbw38
            replace bxR := bxR.below hbw38
            replace cxR := bxR.cells
            replace bxT := bxT.below hbw38
            replace cxT := bxT.cells
            replace bxP := bxP.below hbw38
            replace cxP := bxP.cells
            replace bxX := bxX.below hbw38
            replace cxX := bxX.cells
            replace hq := below_step hq hbw38
            go_wp2_with fail
            refine (rSessions_eq enT nuT deT _ xsT reT _ _ hX hT).mono ?_
            rintro e w39 ⟨rfl, hbw39⟩
            replace hR := hR.below hbw39
            replace hT := hT.below hbw39
            replace hP := hP.below hbw39
            replace hX := hX.below hbw39
            replace bxR := bxR.below hbw39
            replace cxR := bxR.cells
            replace bxT := bxT.below hbw39
            replace cxT := bxT.cells
            replace bxP := bxP.below hbw39
            replace cxP := bxP.cells
            replace bxX := bxX.below hbw39
            replace cxX := bxX.cells
            replace hq := below_step hq hbw39
            go_wp2_with fail
            go_meet
            exact hq
        case rest =>
          rename World => wc39
          have hbwc39 := hcut
          clear hcut
          clear hR hT hU bxR bxT bxU cxR cxT cxU HMT
          replace h := h.below hbwc39
          replace hg := below_step hg hbwc39
          go_wp2_with fail
          refine (draw_PassMinutes _ bs _ h hl).mono ?_
          rintro e w40 ⟨enY, nuY, deY, uY, xsY, reY, t, rfl, hoY, hxY, hbw40⟩
          replace h := h.below hbw40
          replace hg := below_step hg hbw40
          have hY := OwnI.at_ hoY
          obtain ⟨aY, kY, rfl⟩ := hY.form
          have hnY : xsY.length ≤ 1048576 := by omega
          clear hoY
          obtain ⟨⟨⟨enZ, nuZ, deZ, xsZ, reZ⟩, okZ⟩, hmZ⟩ : ∃ M, M = passMinutes ⟨enY, nuY, deY, xsY, reY⟩ t := ⟨_, rfl⟩
          have HMZ := Lib.hid hmZ; clear hmZ
          go_wp2_with (
            with_reducible change Go.wpList _ _ _ (Oper.mk _ (Op.load _ _) _ _ _ _ :: _) _ (World.alloc _ _)
            generalize hV : World.alloc _ _ = w41
            have hbw41 : Below w40.heap.size w40 w41 := by rw [← hV]; exact (Below.refl _ _).alloc (Nat.le_refl _) _
            have bxY : BoxAt w41 w40.heap.size #[.int .i64 enY, .int .i64 nuY, .int .i64 deY, .slice aY xsY.length kY, .int .i64 reY] := by rw [← hV]; exact BoxAt.new _ _ _
            replace h := h.below hbw41
            replace hY := hY.below hbw41
            replace hg := below_step hg hbw41
            have cxY := bxY.cells
            clear hV)
          refine (i_PassMinutes enY nuY deY _ xsY reY t _ hY hnY).mono ?_
          rw [← HMZ.out]
          dsimp only
          rintro e w42 ⟨uZ, rfl, hoZ, hbw42⟩
          replace h := h.below hbw42
          replace hY := hY.below hbw42
          replace bxY := bxY.below hbw42
          replace cxY := bxY.cells
          replace hg := below_step hg hbw42
          have hZ := OwnI.at_ hoZ
          obtain ⟨aZ, kZ, rfl⟩ := hZ.form
          clear hoZ
          go_wp2_with (
            with_reducible change Go.wpList _ _ _ (Oper.mk _ (Op.load _ _) _ _ _ _ :: _) _ (World.alloc _ _)
            generalize hV : World.alloc _ _ = w43
            have hbw43 : Below w42.heap.size w42 w43 := by rw [← hV]; exact (Below.refl _ _).alloc (Nat.le_refl _) _
            have bxZ : BoxAt w43 w42.heap.size #[.int .i64 enZ, .int .i64 nuZ, .int .i64 deZ, .slice aZ xsZ.length kZ, .int .i64 reZ] := by rw [← hV]; exact BoxAt.new _ _ _
            replace h := h.below hbw43
            replace hY := hY.below hbw43
            replace hZ := hZ.below hbw43
            replace bxY := bxY.below hbw43
            replace cxY := bxY.cells
            replace hg := below_step hg hbw43
            have cxZ := bxZ.cells
            clear hV)
          refine (s_PassMinutes enY nuY deY _ xsY reY t _ hY hnY).mono ?_
          rw [← HMZ.out]
          dsimp only
          rintro e w44 ⟨uZ2, rfl, hoZ2, hbw44⟩
          replace h := h.below hbw44
          replace hY := hY.below hbw44
          replace hZ := hZ.below hbw44
          replace bxY := bxY.below hbw44
          replace cxY := bxY.cells
          replace bxZ := bxZ.below hbw44
          replace cxZ := bxZ.cells
          replace hg := below_step hg hbw44
          have hZ2 := OwnI.at_ hoZ2
          obtain ⟨aZ2, kZ2, rfl⟩ := hZ2.form
          clear hoZ2
          go_wp2_with (
            with_reducible change Go.wpList _ _ _ (Oper.mk _ (Op.load _ _) _ _ _ _ :: _) _ (World.alloc _ _)
            generalize hV : World.alloc _ _ = w45
            have hbw45 : Below w44.heap.size w44 w45 := by rw [← hV]; exact (Below.refl _ _).alloc (Nat.le_refl _) _
            have bxZ2 : BoxAt w45 w44.heap.size #[.int .i64 enZ, .int .i64 nuZ, .int .i64 deZ, .slice aZ2 xsZ.length kZ2, .int .i64 reZ] := by rw [← hV]; exact BoxAt.new _ _ _
            replace h := h.below hbw45
            replace hY := hY.below hbw45
            replace hZ := hZ.below hbw45
            replace hZ2 := hZ2.below hbw45
            replace bxY := bxY.below hbw45
            replace cxY := bxY.cells
            replace bxZ := bxZ.below hbw45
            replace cxZ := bxZ.cells
            replace hg := below_step hg hbw45
            have cxZ2 := bxZ2.cells
            clear hV)
          refine (rSessions_eq enZ nuZ deZ _ xsZ reZ _ _ hZ hZ2).mono ?_
          rintro e w46 ⟨rfl, hbw46⟩
          replace h := h.below hbw46
          replace hY := hY.below hbw46
          replace hZ := hZ.below hbw46
          replace hZ2 := hZ2.below hbw46
          replace bxY := bxY.below hbw46
          replace cxY := bxY.cells
          replace bxZ := bxZ.below hbw46
          replace cxZ := bxZ.cells
          replace bxZ2 := bxZ2.below hbw46
          replace cxZ2 := bxZ2.cells
          replace hg := below_step hg hbw46
          go_wp2_with fail
          go_ret
          exact ⟨rfl, hg⟩
end Go.Proofs.Ytflkijklipkneaa
