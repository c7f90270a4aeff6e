/- The walk of FnWeights out of its callees' contracts: it returns true, and what was there stays. No conditions. -/
import Derived.Test.YtapkicfbknoioaaDrawW
import Derived.Test.YtapkicfbknoioaaVoteP
import Derived.Test.YtapkicfbknoioaaLawU
import Derived.Test.YtapkicfbknoioaaBw
import Derived.Deep.DeepCutAuto
namespace Go.Proofs.Ytapkicfbknoioaa
open Go.RowKit
set_option linter.unusedVariables false
set_option linter.unusedSimpArgs false

theorem rSum_b (v : Value) (xs : List Int) (w : World) (h : IntsAt w v xs) (hx : ∀ x ∈ xs, 0 ≤ x ∧ x ≤ 1000000) (hn : xs.length ≤ 1048576) :
    Calls Try.prog 18 #[v] w fun e w' => e = .returned (.int .i64 xs.sum) ∧ Below w.heap.size w w' :=
  (rSum_c v xs w h hx hn).mono fun _ _ ⟨a, b⟩ => ⟨a, b ▸ Below.refl _ _⟩
theorem rHas_b (v : Value) (xs : List Int) (n : Int) (w : World) (h : IntsAt w v xs) :
    Calls Try.prog 34 #[v, .int .i64 n] w fun e w' => e = .returned (.bool (hasB xs n)) ∧ Below w.heap.size w w' :=
  (rHas_c v xs n w h).mono fun _ _ ⟨a, b⟩ => ⟨a, b ▸ Below.refl _ _⟩

set_option maxRecDepth 100000 in
set_option maxHeartbeats 8000000 in
theorem law_FnWeights (w : World) (v : Value) (bs : List Int) (h : BytesAt w v bs) :
    Calls Try.prog 4 #[v] w fun e w' => e = .returned (.bool true) ∧ Below w.heap.size w w' := by
  have HQ := rBig_c v bs w h
  obtain ⟨ao, cap, rfl⟩ := h.1.form
  by_cases hbig : 65536 < bs.length
  · rw [decide_eq_true hbig] at HQ
    have HQ' := Lib.hid HQ; clear HQ
    go_enter Try.func4, Try.ntmps4
    go_wp2_with (go_at_call 13; refine HQ'.out.mono ?_; rintro e w' ⟨rfl, rfl⟩)
    go_ret
    exact ⟨rfl, Below.refl _ _⟩
  · rw [decide_eq_false hbig] at HQ
    have HQ' := Lib.hid HQ; clear HQ
    have hl : bs.length ≤ 65537 := by omega
    clear hbig
    have hg := Below.refl w.heap.size w
    go_enter Try.func4, Try.ntmps4
    go_wp2_with (go_at_call 13; refine HQ'.out.mono ?_; rintro e w' ⟨rfl, rfl⟩)
    refine (draw_CastVotes _ bs _ h hl).mono ?_
    rintro e w1 ⟨pA, qA, dA, uA, amA, rfl, hoA, hiA, hmA, hxA, hyA, hbw1⟩
    replace h := h.below hbw1
    replace hg := below_step hg hbw1
    have hA := hoA.at_
    obtain ⟨aA, kA, aA', kA', rfl, rfl⟩ := hA.form
    have hnA : dA.weights.length ≤ 1048576 ∧ dA.proxies.length ≤ 1048576 := by omega
    clear hoA
    obtain ⟨bA, jA, rfl⟩ := hiA.form
    have hnmA : amA.length ≤ 1048576 := by omega
    obtain ⟨⟨cs, ok⟩, hC⟩ : ∃ V, V = castV dA amA := ⟨_, rfl⟩
    have HC := Lib.hid hC; clear hC
    have hcv : Hid (ok = true → cs.sum = dA.weights.sum ∧ cs.length = 4 ∧ votersOk dA = true ∧ ∀ x ∈ cs, 0 ≤ x ∧ x ≤ 1000000) := fun hk => by
      have h1 := castV_ok (d := dA) (vs := amA) (by rw [← HC.out]; exact hk)
      rw [← HC.out] at h1
      exact h1
    go_wp2_with (
      with_reducible change Go.wpList _ _ _ (Oper.mk _ (Op.load _ _) _ _ _ _ :: _) _ (World.alloc _ _)
      generalize hV : World.alloc _ _ = w2
      have hbw2 : Below w1.heap.size w1 w2 := by rw [← hV]; exact (Below.refl _ _).alloc (Nat.le_refl _) _
      have bxA : BoxAt w2 w1.heap.size #[(.slice aA dA.weights.length kA), (.slice aA' dA.proxies.length kA')] := by rw [← hV]; exact BoxAt.new _ _ _
      replace h := h.below hbw2
      replace hiA := hiA.below hbw2
      replace hA := hA.below hbw2
      replace hg := below_step hg hbw2
      have cxA := bxA.cells
      clear hV)
    refine (i_CastVotes _ _ dA _ amA _ hA hiA hnA hnmA).mono ?_
    rw [← HC.out]
    dsimp only
    rintro e w3 ⟨pC1, rfl, hoC1, hbw3⟩
    replace h := h.below hbw3
    replace hiA := hiA.below hbw3
    replace hA := hA.below hbw3
    replace bxA := bxA.below hbw3
    replace cxA := bxA.cells
    replace hg := below_step hg hbw3
    have hIC1 := OwnI.at_ hoC1
    obtain ⟨bC1, jC1, rfl⟩ := hIC1.form
    clear hoC1
    go_wp2_with fail
    refine (s_CastVotes _ _ dA _ amA _ hA hiA hnA hnmA).mono ?_
    rw [← HC.out]
    dsimp only
    rintro e w4 ⟨pC2, rfl, hoC2, hbw4⟩
    replace h := h.below hbw4
    replace hiA := hiA.below hbw4
    replace hA := hA.below hbw4
    replace hIC1 := hIC1.below hbw4
    replace bxA := bxA.below hbw4
    replace cxA := bxA.cells
    replace hg := below_step hg hbw4
    have hIC2 := OwnI.at_ hoC2
    obtain ⟨bC2, jC2, rfl⟩ := hIC2.form
    clear hoC2
    go_upto_region 6 with fail
    go_cut [74] (fun a wx => a = .bool false ∧ Below w4.heap.size w4 wx)
    case first => as_aux_lemma =>
      have bB := BW.box bxA
      have hri := fun x : BW w4 => rInts_c _ _ cs cs x.w (hIC1.below x.h) (hIC2.below x.h)
      simp only [decide_true] at hri
      have HRI := Lib.hid hri; clear hri
      cases ok with
      | false =>
        clear cxA
        refine wp_region_bw (by kernel_rfl) (by kernel_rfl) ?_
        repeat (first
          | go_big_quiet_skip
          | (go_big_quiet_want; go_big_quiet_op; first | go_big_quiet_on | (apply Exists.intro; refine ⟨fun _ => ?_, ?_⟩; (first | (go_at_call_of 17 (Value.slice bC1 cs.length jC1); exact BW.call (HRI.out _))); go_big_quiet_on)))
        refine wpQuiet_nil ?_
        rintro _ ⟨xq, rfl⟩
        go_wp2_with fail
        go_meet
        exact ⟨rfl, xq.h⟩
      | true =>
        obtain ⟨e1, e2, e3, e4⟩ := hcv.out rfl
        have h12 := votersOk_parts e3
        have hs1 := fun x : BW w4 => rSum_b _ cs x.w (hIC1.below x.h) e4 (by omega)
        have hs2 := fun x : BW w4 => rSum_b _ dA.weights x.w ((hA.below x.h).1) (fun y hy => by have := okW_mem h12.2.1 y hy; omega) (by omega)
        rw [e1] at hs1
        have HS1 := Lib.hid hs1; have HS2 := Lib.hid hs2; have E2 := Lib.hid e2
        have e5 : ((cs.length : Int) == 4) = true := by rw [e2]; rfl
        have e6 : ((cs.length : Int) != 4) = false := by rw [e2]; rfl
        clear hs1 hs2 e1 e2 e3 e4 h12 cxA
        generalize dA.weights.sum = tot at *
        refine wp_region_bw (by kernel_rfl) (by kernel_rfl) ?_
        repeat (first
          | go_big_quiet_skip
          | (go_big_quiet_want; go_big_quiet_op; first | go_big_quiet_on | (apply Exists.intro; refine ⟨fun _ => ?_, ?_⟩; (first | (go_at_call_of 17 (Value.slice bC1 cs.length jC1); exact BW.call (HRI.out _)) | (go_at_call_of 18 (Value.slice bC1 cs.length jC1); exact BW.call (HS1.out _)) | (go_at_call_of 18 (Value.slice aA dA.weights.length kA); exact BW.call (HS2.out _))); go_big_quiet_on)))
        refine wpQuiet_nil ?_
        rintro _ ⟨xq, rfl⟩
        go_wp2_with fail
        go_meet
        exact ⟨rfl, xq.h⟩
    case rest => as_aux_lemma =>
      rename World => wc4
      obtain ⟨rfl, hbwc4⟩ := hcut
      clear hA hiA hIC1 hIC2 bxA cxA HC hcv
      replace h := h.below hbwc4
      replace hg := below_step hg hbwc4
      go_wp2_with fail
      refine (draw_WeightPresent _ bs _ h hl).mono ?_
      rintro e w6 ⟨pB, qB, dB, uB, amB, rfl, hoB, hiB, hmB, hxB, hyB, hbw6⟩
      replace h := h.below hbw6
      replace hg := below_step hg hbw6
      have hB := hoB.at_
      obtain ⟨aB, kB, aB', kB', rfl, rfl⟩ := hB.form
      have hnB : dB.weights.length ≤ 1048576 ∧ dB.proxies.length ≤ 1048576 := by omega
      clear hoB
      obtain ⟨bB, jB, rfl⟩ := hiB.form
      have hnmB : amB.length ≤ 1048576 := by omega
      obtain ⟨⟨nv, fi⟩, hN⟩ : ∃ V, V = presV dB amB := ⟨_, rfl⟩
      have HN := Lib.hid hN; clear hN
      have hpv : Hid (fi = true → dirV dB = (dirK dB.proxies dB.weights.length, true) ∧ presV dB (dirK dB.proxies dB.weights.length) = (dB.weights.sum, true) ∧ nv ≤ dB.weights.sum ∧ (∀ x ∈ dB.weights, 0 ≤ x ∧ x ≤ 1000000) ∧ dB.weights.length ≤ 12) := fun hk => by
        have h1 := presV_ok (d := dB) (ps := amB) (by rw [← HN.out]; exact hk)
        rw [← HN.out] at h1
        exact h1
      go_wp2_with (
        with_reducible change Go.wpList _ _ _ (Oper.mk _ (Op.load _ _) _ _ _ _ :: _) _ (World.alloc _ _)
        generalize hV : World.alloc _ _ = w7
        have hbw7 : Below w6.heap.size w6 w7 := by rw [← hV]; exact (Below.refl _ _).alloc (Nat.le_refl _) _
        have bxB : BoxAt w7 w6.heap.size #[(.slice aB dB.weights.length kB), (.slice aB' dB.proxies.length kB')] := by rw [← hV]; exact BoxAt.new _ _ _
        replace h := h.below hbw7
        replace hiB := hiB.below hbw7
        replace hB := hB.below hbw7
        replace hg := below_step hg hbw7
        have cxB := bxB.cells
        clear hV)
      refine (i_WeightPresent _ _ dB _ amB _ hB hiB hnB hnmB).mono ?_
      rw [← HN.out]
      dsimp only
      rintro e w8 ⟨rfl, hbw8⟩
      replace h := h.below hbw8
      replace hiB := hiB.below hbw8
      replace hB := hB.below hbw8
      replace bxB := bxB.below hbw8
      replace cxB := bxB.cells
      replace hg := below_step hg hbw8
      go_wp2_with fail
      refine (s_WeightPresent _ _ dB _ amB _ hB hiB hnB hnmB).mono ?_
      rw [← HN.out]
      dsimp only
      rintro e w9 ⟨rfl, hbw9⟩
      replace h := h.below hbw9
      replace hiB := hiB.below hbw9
      replace hB := hB.below hbw9
      replace bxB := bxB.below hbw9
      replace cxB := bxB.cells
      replace hg := below_step hg hbw9
      go_upto_if 100 with fail
      go_cut [101] (fun _ wx => Below w9.heap.size w9 wx)
      case first => as_aux_lemma =>
        have hq := Below.refl w9.heap.size w9
        cases fi with
        | false =>
          go_wp2_with fail
          go_meet
          exact hq
        | true =>
          obtain ⟨e1, e2, e3, e4, e5⟩ := hpv.out rfl
          have E1 := Lib.hid e1.symm; have E2 := Lib.hid e2.symm; have E4 := Lib.hid e4
          have hle : ¬ dB.weights.sum < nv := by omega
          have hdl : (dirK dB.proxies dB.weights.length).length ≤ 1048576 := by have := dirK_len dB.proxies dB.weights.length; omega
          obtain ⟨dk, hdk⟩ : ∃ dk, dk = dirK dB.proxies dB.weights.length := ⟨_, rfl⟩
          rw [← hdk] at E1 E2 hdl
          clear e1 e2 e3 e4 hdk hpv
          go_wp2_with fail
          refine (i_DirectVotes _ _ dB _ hB hnB).mono ?_
          rw [← E1.out]
          dsimp only
          rintro e w10 ⟨pD1, rfl, hoD1, hbw10⟩
          replace h := h.below hbw10
          replace hiB := hiB.below hbw10
          replace hB := hB.below hbw10
          replace bxB := bxB.below hbw10
          replace cxB := bxB.cells
          replace hq := below_step hq hbw10
          have hID1 := OwnI.at_ hoD1
          obtain ⟨bD1, jD1, rfl⟩ := hID1.form
          clear hoD1
          go_wp2_with fail
          refine (i_WeightPresent _ _ dB _ dk _ hB hID1 hnB hdl).mono ?_
          rw [← E2.out]
          dsimp only
          rintro e w11 ⟨rfl, hbw11⟩
          replace h := h.below hbw11
          replace hiB := hiB.below hbw11
          replace hB := hB.below hbw11
          replace hID1 := hID1.below hbw11
          replace bxB := bxB.below hbw11
          replace cxB := bxB.cells
          replace hq := below_step hq hbw11
          go_wp2_with fail
          refine (rSum_c _ dB.weights _ hB.1 E4.out (by omega)).mono ?_
          rintro e w' ⟨rfl, rfl⟩
          generalize dB.weights.sum = tot at *
          go_wp2_with fail
          go_meet
          exact hq
      case rest => as_aux_lemma =>
        rename World => wc11
        have hbwc11 := hcut; clear hcut
        clear hB hiB bxB cxB HN hpv
        replace h := h.below hbwc11
        replace hg := below_step hg hbwc11
        go_wp2_with fail
        refine (draw_HolderFor _ bs _ h hl).mono ?_
        rintro e w13 ⟨pH, qH, dH, xH, rfl, hoH, hxH, hyH, hbw13⟩
        replace h := h.below hbw13
        replace hg := below_step hg hbw13
        have hH := hoH.at_
        obtain ⟨aH, kH, aH', kH', rfl, rfl⟩ := hH.form
        have hnH : dH.weights.length ≤ 1048576 ∧ dH.proxies.length ≤ 1048576 := by omega
        clear hoH
        obtain ⟨⟨hd, tk⟩, hO⟩ : ∃ V, V = holdV dH xH := ⟨_, rfl⟩
        have HO := Lib.hid hO; clear hO
        go_wp2_with (
          with_reducible change Go.wpList _ _ _ (Oper.mk _ (Op.load _ _) _ _ _ _ :: _) _ (World.alloc _ _)
          generalize hV : World.alloc _ _ = w14
          have hbw14 : Below w13.heap.size w13 w14 := by rw [← hV]; exact (Below.refl _ _).alloc (Nat.le_refl _) _
          have bxH : BoxAt w14 w13.heap.size #[(.slice aH dH.weights.length kH), (.slice aH' dH.proxies.length kH')] := by rw [← hV]; exact BoxAt.new _ _ _
          replace h := h.below hbw14
          replace hH := hH.below hbw14
          replace hg := below_step hg hbw14
          have cxH := bxH.cells
          clear hV)
        refine (i_HolderFor _ _ dH xH _ hH hnH).mono ?_
        rw [← HO.out]
        dsimp only
        rintro e w15 ⟨rfl, hbw15⟩
        replace h := h.below hbw15
        replace hH := hH.below hbw15
        replace bxH := bxH.below hbw15
        replace cxH := bxH.cells
        replace hg := below_step hg hbw15
        go_wp2_with fail
        refine (s_HolderFor _ _ dH xH _ hH hnH).mono ?_
        rw [← HO.out]
        dsimp only
        rintro e w16 ⟨rfl, hbw16⟩
        replace h := h.below hbw16
        replace hH := hH.below hbw16
        replace bxH := bxH.below hbw16
        replace cxH := bxH.cells
        replace hg := below_step hg hbw16
        go_wp2_with fail
        refine (draw_ProxySteps _ bs _ h hl).mono ?_
        rintro e w17 ⟨pP, qP, dP, xP, rfl, hoP, hxP, hyP, hbw17⟩
        replace h := h.below hbw17
        replace hg := below_step hg hbw17
        have hP := hoP.at_
        obtain ⟨aP, kP, aP', kP', rfl, rfl⟩ := hP.form
        have hnP : dP.weights.length ≤ 1048576 ∧ dP.proxies.length ≤ 1048576 := by omega
        clear hoP
        obtain ⟨⟨st, kn⟩, hT⟩ : ∃ V, V = stepV dP xP := ⟨_, rfl⟩
        have HT := Lib.hid hT; clear hT
        go_wp2_with (
          with_reducible change Go.wpList _ _ _ (Oper.mk _ (Op.load _ _) _ _ _ _ :: _) _ (World.alloc _ _)
          generalize hV : World.alloc _ _ = w18
          have hbw18 : Below w17.heap.size w17 w18 := by rw [← hV]; exact (Below.refl _ _).alloc (Nat.le_refl _) _
          have bxP : BoxAt w18 w17.heap.size #[(.slice aP dP.weights.length kP), (.slice aP' dP.proxies.length kP')] := by rw [← hV]; exact BoxAt.new _ _ _
          replace h := h.below hbw18
          replace hP := hP.below hbw18
          replace hg := below_step hg hbw18
          have cxP := bxP.cells
          clear hV)
        refine (i_ProxySteps _ _ dP xP _ hP hnP).mono ?_
        rw [← HT.out]
        dsimp only
        rintro e w19 ⟨rfl, hbw19⟩
        replace h := h.below hbw19
        replace hP := hP.below hbw19
        replace bxP := bxP.below hbw19
        replace cxP := bxP.cells
        replace hg := below_step hg hbw19
        go_wp2_with fail
        refine (s_ProxySteps _ _ dP xP _ hP hnP).mono ?_
        rw [← HT.out]
        dsimp only
        rintro e w20 ⟨rfl, hbw20⟩
        replace h := h.below hbw20
        replace hP := hP.below hbw20
        replace bxP := bxP.below hbw20
        replace cxP := bxP.cells
        replace hg := below_step hg hbw20
        go_wp2_with fail
        go_ret
        exact ⟨by simp, hg⟩
end Go.Proofs.Ytapkicfbknoioaa
