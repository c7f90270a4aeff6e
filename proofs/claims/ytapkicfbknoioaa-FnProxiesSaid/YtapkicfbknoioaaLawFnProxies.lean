/- The walk of FnProxies out of its callees' contracts: it returns true, and what was there stays. No conditions. -/
import Derived.Test.YtapkicfbknoioaaDrawW
import Derived.Test.YtapkicfbknoioaaGiveI
import Derived.Test.YtapkicfbknoioaaVoteE
import Derived.Test.YtapkicfbknoioaaVoteP
import Derived.Test.YtapkicfbknoioaaLawU
import Derived.Test.YtapkicfbknoioaaBw
import Derived.Deep.DeepCutAuto
import Derived.Deep.CutBlock
namespace Go.Proofs.Ytapkicfbknoioaa
open Go.RowKit
set_option linter.unusedVariables false
set_option linter.unusedSimpArgs false

theorem rSum_b (v : Value) (xs : List Int) (w : World) (h : IntsAt w v xs) (hx : ∀ x ∈ xs, 0 ≤ x ∧ x ≤ 1000000) (hn : xs.length ≤ 1048576) :
    Calls Try.prog 18 #[v] w fun e w' => e = .returned (.int .i64 xs.sum) ∧ Below w.heap.size w w' :=
  (rSum_c v xs w h hx hn).mono fun _ _ ⟨a, b⟩ => ⟨a, b ▸ Below.refl _ _⟩
theorem rHas_b (v : Value) (xs : List Int) (n : Int) (w : World) (h : IntsAt w v xs) :
    Calls Try.prog 34 #[v, .int .i64 n] w fun e w' => e = .returned (.bool (hasB xs n)) ∧ Below w.heap.size w w' :=
  (rHas_c v xs n w h).mono fun _ _ ⟨a, b⟩ => ⟨a, b ▸ Below.refl _ _⟩

set_option maxRecDepth 100000 in
set_option maxHeartbeats 8000000 in
theorem law_FnProxies (w : World) (v : Value) (bs : List Int) (h : BytesAt w v bs) :
    Calls Try.prog 5 #[v] w fun e w' => e = .returned (.bool true) ∧ Below w.heap.size w w' := by
  have HQ := rBig_c v bs w h
  obtain ⟨ao, cap, rfl⟩ := h.1.form
  by_cases hbig : 65536 < bs.length
  · rw [decide_eq_true hbig] at HQ
    have HQ' := Lib.hid HQ; clear HQ
    go_enter Try.func5, Try.ntmps5
    go_wp2_with (go_at_call 13; refine HQ'.out.mono ?_; rintro e w' ⟨rfl, rfl⟩)
    go_ret
    exact ⟨rfl, Below.refl _ _⟩
  · rw [decide_eq_false hbig] at HQ
    have HQ' := Lib.hid HQ; clear HQ
    have hl : bs.length ≤ 65537 := by omega
    clear hbig
    have hg := Below.refl w.heap.size w
    go_enter Try.func5, Try.ntmps5
    go_wp2_with (go_at_call 13; refine HQ'.out.mono ?_; rintro e w' ⟨rfl, rfl⟩)
    refine (draw_HeldWeights _ bs _ h hl).mono ?_
    rintro e w1 ⟨pA, qA, dA, rfl, hoA, hxA, hyA, hbw1⟩
    replace h := h.below hbw1
    replace hg := below_step hg hbw1
    have hA := hoA.at_
    obtain ⟨aA, kA, aA', kA', rfl, rfl⟩ := hA.form
    have hnA : dA.weights.length ≤ 1048576 ∧ dA.proxies.length ≤ 1048576 := by omega
    clear hoA
    obtain ⟨⟨hv, ok⟩, hC⟩ : ∃ V, V = heldV dA := ⟨_, rfl⟩
    have HC := Lib.hid hC; clear hC
    obtain ⟨⟨dk, od⟩, hd⟩ : ∃ V, V = dirV dA := ⟨_, rfl⟩
    have hcv : Hid (ok = votersOk dA ∧ (ok = true → hv = heldQ dA dA.weights.length ∧ dk = dirK dA.proxies dA.weights.length) ∧ (ok = false → hv = [])) := by
      have h1 := HC.out
      unfold heldV at h1
      unfold dirV at hd
      cases hok : votersOk dA with
      | false =>
        rw [hok] at h1
        injection h1 with e1 e2
        subst e1 e2
        exact ⟨rfl, (fun e => by cases e), fun _ => rfl⟩
      | true =>
        rw [hok] at h1 hd
        injection h1 with e1 e2
        injection hd with e3 e4
        subst e1 e2
        exact ⟨rfl, (fun _ => ⟨rfl, e3⟩), fun e => by cases e⟩
    have HD := Lib.hid hd; clear hd
    go_wp2_with (
      with_reducible change Go.wpList _ _ _ (Oper.mk _ (Op.load _ _) _ _ _ _ :: _) _ (World.alloc _ _)
      generalize hV : World.alloc _ _ = w2
      have hbw2 : Below w1.heap.size w1 w2 := by rw [← hV]; exact (Below.refl _ _).alloc (Nat.le_refl _) _
      have bxA : BoxAt w2 w1.heap.size #[(.slice aA dA.weights.length kA), (.slice aA' dA.proxies.length kA')] := by rw [← hV]; exact BoxAt.new _ _ _
      replace h := h.below hbw2
      replace hA := hA.below hbw2
      replace hg := below_step hg hbw2
      have cxA := bxA.cells
      clear hV)
    refine (i_HeldWeights _ _ dA _ hA hnA).mono ?_
    rw [← HC.out]
    dsimp only
    rintro e w3 ⟨pC1, rfl, hoC1, hbw3⟩
    replace h := h.below hbw3
    replace hA := hA.below hbw3
    replace bxA := bxA.below hbw3
    replace cxA := bxA.cells
    replace hg := below_step hg hbw3
    have hIC1 := OwnI.at_ hoC1
    obtain ⟨bC1, jC1, rfl⟩ := hIC1.form
    clear hoC1
    go_wp2_with fail
    refine (s_HeldWeights _ _ dA _ hA hnA).mono ?_
    rw [← HC.out]
    dsimp only
    rintro e w4 ⟨pC2, rfl, hoC2, hbw4⟩
    replace h := h.below hbw4
    replace hA := hA.below hbw4
    replace hIC1 := hIC1.below hbw4
    replace bxA := bxA.below hbw4
    replace cxA := bxA.cells
    replace hg := below_step hg hbw4
    have hIC2 := OwnI.at_ hoC2
    obtain ⟨bC2, jC2, rfl⟩ := hIC2.form
    clear hoC2
    go_upto_region 6 with fail
    go_cut [77] (fun a wx => a = .bool false ∧ Below w4.heap.size w4 wx)
    case first => as_aux_lemma =>
      have bB := BW.box bxA
      have hri := fun x : BW w4 => rInts_c _ _ hv hv x.w (hIC1.below x.h) (hIC2.below x.h)
      simp only [decide_true] at hri
      have HRI := Lib.hid hri; clear hri
      have hav := fun x : BW w4 => i_AreVoters _ _ dA x.w (hA.below x.h) hnA
      rw [← hcv.out.1] at hav
      have HAV := Lib.hid hav; clear hav
      cases ok with
      | false =>
        clear cxA
        refine wp_region_bw (by kernel_rfl) (by kernel_rfl) ?_
        repeat (first
          | go_big_quiet_skip
          | (go_big_quiet_want; go_big_quiet_op; first | go_big_quiet_on | (apply Exists.intro; refine ⟨fun _ => ?_, ?_⟩; (first | (go_at_call_of 17 (Value.slice bC1 hv.length jC1); exact BW.call (HRI.out _)) | (go_at_call 32; exact BW.call (HAV.out _))); go_big_quiet_on)))
        refine wpQuiet_nil ?_
        rintro _ ⟨xq, rfl⟩
        go_wp2_with fail
        go_meet
        exact ⟨rfl, xq.h⟩
      | true =>
        have e0 := hcv.out.1
        obtain ⟨e1, e2⟩ := hcv.out.2.1 rfl
        have e3 := held_sum e0.symm
        have e4 := heldQ_1200 e0.symm
        have e5 := heldQ_len dA dA.weights.length
        rw [← e1] at e3 e4 e5
        have h12 := votersOk_parts e0.symm
        have hs1 := fun x : BW w4 => rSum_b _ hv x.w (hIC1.below x.h) (fun y hy => by have := e4 y hy; omega) (by omega)
        have hs2 := fun x : BW w4 => rSum_b _ dA.weights x.w ((hA.below x.h).1) (fun y hy => by have := okW_mem h12.2.1 y hy; omega) (by omega)
        rw [e3] at hs1
        have HS1 := Lib.hid hs1; have HS2 := Lib.hid hs2
        clear hs1 hs2 e0 e1 e2 e3 e4 e5 h12 cxA
        generalize dA.weights.sum = tot at *
        refine wp_region_bw (by kernel_rfl) (by kernel_rfl) ?_
        repeat (first
          | go_big_quiet_skip
          | (go_big_quiet_want; go_big_quiet_op; first | go_big_quiet_on | (apply Exists.intro; refine ⟨fun _ => ?_, ?_⟩; (first | (go_at_call_of 17 (Value.slice bC1 hv.length jC1); exact BW.call (HRI.out _)) | (go_at_call 32; exact BW.call (HAV.out _)) | (go_at_call_of 18 (Value.slice bC1 hv.length jC1); exact BW.call (HS1.out _)) | (go_at_call_of 18 (Value.slice aA dA.weights.length kA); exact BW.call (HS2.out _))); go_big_quiet_on)))
        refine wpQuiet_nil ?_
        rintro _ ⟨xq, rfl⟩
        go_wp2_with fail
        go_meet
        exact ⟨rfl, xq.h⟩
    case rest => as_aux_lemma =>
      rename World => wc4
      obtain ⟨rfl, hbwc4⟩ := hcut
      clear hIC2 HC
      replace h := h.below hbwc4
      replace hA := hA.below hbwc4
      replace hIC1 := hIC1.below hbwc4
      replace bxA := bxA.below hbwc4
      replace cxA := bxA.cells
      replace hg := below_step hg hbwc4
      go_wp2_with fail
      refine (i_DirectVotes _ _ dA _ hA hnA).mono ?_
      rw [← HD.out]
      dsimp only
      rintro e w6 ⟨pD1, rfl, hoD1, hbw6⟩
      replace h := h.below hbw6
      replace hA := hA.below hbw6
      replace hIC1 := hIC1.below hbw6
      replace bxA := bxA.below hbw6
      replace cxA := bxA.cells
      replace hg := below_step hg hbw6
      have hID1 := OwnI.at_ hoD1
      obtain ⟨bD1, jD1, rfl⟩ := hID1.form
      clear hoD1
      go_wp2_with fail
      refine (s_DirectVotes _ _ dA _ hA hnA).mono ?_
      rw [← HD.out]
      dsimp only
      rintro e w7 ⟨pD2, rfl, hoD2, hbw7⟩
      replace h := h.below hbw7
      replace hA := hA.below hbw7
      replace hIC1 := hIC1.below hbw7
      replace hID1 := hID1.below hbw7
      replace bxA := bxA.below hbw7
      replace cxA := bxA.cells
      replace hg := below_step hg hbw7
      have hID2 := OwnI.at_ hoD2
      obtain ⟨bD2, jD2, rfl⟩ := hID2.form
      clear hoD2
      go_wp2_with fail
      refine (rInts_c _ _ dk dk _ hID1 hID2).mono ?_
      simp only [decide_true]
      rintro e w8 ⟨rfl, hbw8⟩
      replace h := h.below hbw8
      replace hA := hA.below hbw8
      replace hIC1 := hIC1.below hbw8
      replace hID1 := hID1.below hbw8
      replace hID2 := hID2.below hbw8
      replace bxA := bxA.below hbw8
      replace cxA := bxA.cells
      replace hg := below_step hg hbw8
      go_upto_block 0 with fail
      go_cut [12] from 97 to 155 (fun _ wx => Below w8.heap.size w8 wx)
      case first => as_aux_lemma =>
        go_wp2_with fail
        go_loopw [12] (fun i wr => ∃ k : Nat, k ≤ hv.length ∧ i = .int .i64 k ∧ Below w8.heap.size w8 wr) (fun i _ => hv.length - (intOf i).toNat)
        case atStart => exact ⟨0, by omega, rfl, Below.refl _ _⟩
        case round =>
          obtain ⟨k, hk, rfl, hb⟩ := hrel
          rename World => wl
          replace hA := hA.below hb
          replace hIC1 := hIC1.below hb
          replace hID1 := hID1.below hb
          replace bxA := bxA.below hb
          replace cxA := bxA.cells
          by_cases hlt : k < hv.length
          · cases ok with
            | false =>
              have := hcv.out.2.2 rfl
              subst this
              simp at hlt
            | true =>
              have e0 := hcv.out.1.symm
              obtain ⟨e1, e2⟩ := hcv.out.2.1 rfl
              have e5 := heldQ_len dA dA.weights.length
              rw [← e1] at e5
              have hkw : k < dA.weights.length := by omega
              obtain ⟨m, hm, hml⟩ := followQ_in e0 hkw
              have hs := votersOk_steps e0
              have hin : inB (k : Int) 0 ((dA.weights.length : Int) - 1) = true := inB_iff.2 ⟨by omega, by omega⟩
              obtain ⟨st, hst⟩ : ∃ st : Nat, st = (followQ dA.proxies k).2 := ⟨_, rfl⟩
              have v1 : ((m : Int), true) = holdV dA (k : Int) := by rw [holdV, if_pos (by simp [e0, hin]), hm]
              have v2 : ((st : Int), true) = stepV dA (k : Int) := by rw [stepV, if_pos (by simp [e0, hin]), hst]
              have hmem : ∀ x : Nat, hasB dk (x : Int) = true ↔ x < dA.weights.length ∧ nextQ dA.proxies (x : Int) < 0 := fun x => by
                rw [hasB_iff, e2, mem_dirK]
                constructor
                · rintro ⟨j, h1, h2, h3⟩
                  obtain rfl : x = j := by omega
                  exact ⟨h1, h3⟩
                · rintro ⟨h1, h2⟩
                  exact ⟨x, h1, rfl, h2⟩
              have hdm : hasB dk (m : Int) = true := (hmem m).2 ⟨hml, by have := follow_end hs (k : Int); rwa [hm] at this⟩
              have hself := follow_self hs (x := (k : Int))
              have hzero := follow_steps0 (ps := dA.proxies) (x := (k : Int))
              rw [hm] at hself
              rw [← hst] at hzero
              have V1 := Lib.hid v1; have V2 := Lib.hid v2
              have hkv := List.getElem_mem hlt
              obtain ⟨c, hc⟩ : ∃ c, c = decide (nextQ dA.proxies (k : Int) < 0) := ⟨_, rfl⟩
              have hdk : hasB dk (k : Int) = c := by
                cases c with
                | true => exact (hmem k).2 ⟨hkw, by simpa using hc.symm⟩
                | false =>
                  cases hq : hasB dk (k : Int) with
                  | false => rfl
                  | true => have := ((hmem k).1 hq).2; rw [decide_eq_true this] at hc; cases hc
              have hst0 : ((st : Int) == 0) = c := by
                cases c with
                | true => have := hzero.2 (by simpa using hc.symm); rw [beq_iff_eq]; omega
                | false =>
                  have hx : ¬ nextQ dA.proxies (k : Int) < 0 := by simpa using hc.symm
                  rw [beq_eq_false_iff_ne]
                  intro e
                  exact hx (hzero.1 (by omega))
              have hmk : ((m : Int) == (k : Int)) = c := by
                cases c with
                | true => have := hself.2 (by simpa using hc.symm); rw [beq_iff_eq]; exact this
                | false =>
                  have hx : ¬ nextQ dA.proxies (k : Int) < 0 := by simpa using hc.symm
                  rw [beq_eq_false_iff_ne]
                  exact fun e => hx (hself.1 e)
              have hz : c = false → hv[k] = 0 := fun hcf => by
                have hx : ¬ nextQ dA.proxies (k : Int) < 0 := by subst hcf; simpa using hc.symm
                have h0 := heldQ_zero e0 hx _ (Nat.le_refl _)
                rw [← e1, getD_eqx hlt] at h0
                exact h0
              have HDK := Lib.hid hdk; have HDM := Lib.hid hdm; have HZ := Lib.hid hz
              obtain ⟨_, _, _, hcv2, g1, g2, g3⟩ := hIC1
              cases hcv2
              unfold maxLen at g2
              obtain ⟨cb, off, rfl, h4, h5⟩ := g3 (by omega)
              have hcell := h5.int hlt
              have hkI : (k : Int) < (hv.length : Int) := by omega
              clear e0 e1 e2 e5 hm hml hs hin hst v1 v2 hmem hdm hself hzero hc hdk hz g3 hcv
              go_wp2_with fail
              refine (i_HolderFor _ _ dA (k : Int) _ hA hnA).mono ?_
              rw [← V1.out]
              dsimp only
              rintro e wm ⟨rfl, hbm⟩
              replace hA := hA.below hbm
              replace hID1 := hID1.below hbm
              replace bxA := bxA.below hbm
              replace cxA := bxA.cells
              go_wp2_with fail
              refine (i_ProxySteps _ _ dA (k : Int) _ hA hnA).mono ?_
              rw [← V2.out]
              dsimp only
              rintro e wn ⟨rfl, hbn⟩
              replace hID1 := hID1.below hbn
              have hcell2 := ((below_step hbm hbn).cell (p := ⟨cb, off + k, none⟩) h4).trans hcell
              have hbz := below_step hb (below_step hbm hbn)
              have hr1 := rHas_c _ dk (k : Int) wn hID1
              have hr2 := rHas_c _ dk (m : Int) wn hID1
              rw [HDK.out] at hr1
              rw [HDM.out] at hr2
              have HR1 := Lib.hid hr1; have HR2 := Lib.hid hr2
              clear hr1 hr2 hcell hbm hbn hA bxA cxA
              cases c with
              | true =>
                go_wp2_with (first
                  | (go_at_call_of 34 (Value.int .i64 (k : Int)); refine HR1.out.mono ?_; rintro e w' ⟨rfl, rfl⟩)
                  | (go_at_call_of 34 (Value.int .i64 (m : Int)); refine HR2.out.mono ?_; rintro e w' ⟨rfl, rfl⟩))
                go_roundw
                case rel => exact ⟨k + 1, by omega, by go_num, hbz⟩
                case measure => simp [intOf]; omega
              | false =>
                rw [HZ.out rfl] at hcell2
                go_wp2_with (first
                  | (go_at_call_of 34 (Value.int .i64 (k : Int)); refine HR1.out.mono ?_; rintro e w' ⟨rfl, rfl⟩)
                  | (go_at_call_of 34 (Value.int .i64 (m : Int)); refine HR2.out.mono ?_; rintro e w' ⟨rfl, rfl⟩))
                go_roundw
                case rel => exact ⟨k + 1, by omega, by go_num, hbz⟩
                case measure => simp [intOf]; omega
          · have hltI : ¬ (k : Int) < (hv.length : Int) := by omega
            go_wp2_with fail
            go_meet
            exact hb
      case rest => as_aux_lemma =>
        rename World => wcx
        have hbwcx := hcut; clear hcut
        clear hA hIC1 hID1 hID2 bxA cxA hcv HD
        replace h := h.below hbwcx
        replace hg := below_step hg hbwcx
        go_wp2_with fail
        refine (draw_GiveProxy _ bs _ h hl).mono ?_
        rintro e w9 ⟨pB, qB, dB, xB, yB, rfl, hoB, hxB, hyB, hbw9⟩
        replace h := h.below hbw9
        replace hg := below_step hg hbw9
        have hB := hoB.at_
        obtain ⟨aB, kB, aB', kB', rfl, rfl⟩ := hB.form
        have hnB : dB.weights.length ≤ 1048576 ∧ dB.proxies.length ≤ 1048576 := by omega
        clear hoB
        obtain ⟨⟨mo, tl⟩, hM⟩ : ∃ V, V = giveV dB xB yB := ⟨_, rfl⟩
        have HM := Lib.hid hM; clear hM
        have hmo : Hid (tl = true → (mo.weights.length ≤ 1048576 ∧ mo.proxies.length ≤ 1048576) ∧ ((revV mo xB).1.weights.length ≤ 1048576 ∧ (revV mo xB).1.proxies.length ≤ 1048576) ∧ (∃ x, holdV mo xB = (x, true) ∧ holdV mo yB = (x, true)) ∧ (revV mo xB).2 = true ∧ holdV (revV mo xB).1 xB = (xB, true)) := fun hk => by
          have h1 := give_ok (d := dB) (f := xB) (t := yB) (by rw [← HM.out]; exact hk)
          rw [← HM.out] at h1
          obtain ⟨h2, h3, h4, h5⟩ := h1
          dsimp only at h2 h3 h4 h5
          have h6 := votersOk_few h2
          have h7 := outQ_len xB mo.proxies
          refine ⟨⟨by omega, by omega⟩, ?_, h3, h4, h5⟩
          unfold revV
          split <;> simp <;> omega
        go_wp2_with (
          with_reducible change Go.wpList _ _ _ (Oper.mk _ (Op.load _ _) _ _ _ _ :: _) _ (World.alloc _ _)
          generalize hV : World.alloc _ _ = w10
          have hbw10 : Below w9.heap.size w9 w10 := by rw [← hV]; exact (Below.refl _ _).alloc (Nat.le_refl _) _
          have bxB : BoxAt w10 w9.heap.size #[(.slice aB dB.weights.length kB), (.slice aB' dB.proxies.length kB')] := by rw [← hV]; exact BoxAt.new _ _ _
          replace h := h.below hbw10
          replace hB := hB.below hbw10
          replace hg := below_step hg hbw10
          have cxB := bxB.cells
          clear hV)
        refine (i_GiveProxy _ _ dB xB yB _ hB hnB).mono ?_
        rw [← HM.out]
        dsimp only
        rintro e w11 ⟨pM1, qM1, rfl, hoM1, hbw11⟩
        replace h := h.below hbw11
        replace hB := hB.below hbw11
        replace bxB := bxB.below hbw11
        replace cxB := bxB.cells
        replace hg := below_step hg hbw11
        have hVM1 := hoM1.at_
        obtain ⟨aM1, kM1, aM1', kM1', rfl, rfl⟩ := hVM1.form
        clear hoM1
        go_wp2_with (
          with_reducible change Go.wpList _ _ _ (Oper.mk _ (Op.load _ _) _ _ _ _ :: _) _ (World.alloc _ _)
          generalize hV : World.alloc _ _ = w12
          have hbw12 : Below w11.heap.size w11 w12 := by rw [← hV]; exact (Below.refl _ _).alloc (Nat.le_refl _) _
          have bxM1 : BoxAt w12 w11.heap.size #[(.slice aM1 mo.weights.length kM1), (.slice aM1' mo.proxies.length kM1')] := by rw [← hV]; exact BoxAt.new _ _ _
          replace h := h.below hbw12
          replace hB := hB.below hbw12
          replace hVM1 := hVM1.below hbw12
          replace bxB := bxB.below hbw12
          replace cxB := bxB.cells
          replace hg := below_step hg hbw12
          have cxM1 := bxM1.cells
          clear hV)
        refine (s_GiveProxy _ _ dB xB yB _ hB hnB).mono ?_
        rw [← HM.out]
        dsimp only
        rintro e w13 ⟨pM2, qM2, rfl, hoM2, hbw13⟩
        replace h := h.below hbw13
        replace hB := hB.below hbw13
        replace hVM1 := hVM1.below hbw13
        replace bxB := bxB.below hbw13
        replace cxB := bxB.cells
        replace bxM1 := bxM1.below hbw13
        replace cxM1 := bxM1.cells
        replace hg := below_step hg hbw13
        have hVM2 := hoM2.at_
        obtain ⟨aM2, kM2, aM2', kM2', rfl, rfl⟩ := hVM2.form
        clear hoM2
        go_wp2_with (
          with_reducible change Go.wpList _ _ _ (Oper.mk _ (Op.load _ _) _ _ _ _ :: _) _ (World.alloc _ _)
          generalize hV : World.alloc _ _ = w14
          have hbw14 : Below w13.heap.size w13 w14 := by rw [← hV]; exact (Below.refl _ _).alloc (Nat.le_refl _) _
          have bxM2 : BoxAt w14 w13.heap.size #[(.slice aM2 mo.weights.length kM2), (.slice aM2' mo.proxies.length kM2')] := by rw [← hV]; exact BoxAt.new _ _ _
          replace h := h.below hbw14
          replace hB := hB.below hbw14
          replace hVM1 := hVM1.below hbw14
          replace hVM2 := hVM2.below hbw14
          replace bxB := bxB.below hbw14
          replace cxB := bxB.cells
          replace bxM1 := bxM1.below hbw14
          replace cxM1 := bxM1.cells
          replace hg := below_step hg hbw14
          have cxM2 := bxM2.cells
          clear hV)
        refine (rVoters_eq _ _ _ _ mo _ hVM1 hVM2).mono ?_
        rintro e w15 ⟨rfl, hbw15⟩
        replace h := h.below hbw15
        replace hB := hB.below hbw15
        replace hVM1 := hVM1.below hbw15
        replace hVM2 := hVM2.below hbw15
        replace bxB := bxB.below hbw15
        replace cxB := bxB.cells
        replace bxM1 := bxM1.below hbw15
        replace cxM1 := bxM1.cells
        replace bxM2 := bxM2.below hbw15
        replace cxM2 := bxM2.cells
        replace hg := below_step hg hbw15
        go_upto_if 185 with fail
        go_cut [186] (fun _ wx => Below w15.heap.size w15 wx)
        case first => as_aux_lemma =>
          have hq := Below.refl w15.heap.size w15
          cases tl with
          | false =>
            go_wp2_with fail
            go_meet
            exact hq
          | true =>
            obtain ⟨hn1, hn2, ⟨x, e1, e2⟩, e3, e4⟩ := hmo.out rfl
            obtain ⟨⟨ls, kn⟩, hL⟩ : ∃ V, V = revV mo xB := ⟨_, rfl⟩
            rw [← hL] at e3 e4 hn2
            dsimp only at e3 e4 hn2
            subst e3
            have E1 := Lib.hid e1; have E2 := Lib.hid e2; have E4 := Lib.hid e4; have HL := Lib.hid hL
            clear e1 e2 e4 hL hmo HM
            go_wp2_with fail
            refine (i_HolderFor _ _ mo xB _ hVM1 hn1).mono ?_
            rw [E1.out]
            dsimp only
            rintro e w16 ⟨rfl, hbw16⟩
            replace h := h.below hbw16
            replace hB := hB.below hbw16
            replace hVM1 := hVM1.below hbw16
            replace hVM2 := hVM2.below hbw16
            replace bxB := bxB.below hbw16
            replace cxB := bxB.cells
            replace bxM1 := bxM1.below hbw16
            replace cxM1 := bxM1.cells
            replace bxM2 := bxM2.below hbw16
            replace cxM2 := bxM2.cells
            replace hq := below_step hq hbw16
            go_wp2_with fail
            refine (i_HolderFor _ _ mo yB _ hVM1 hn1).mono ?_
            rw [E2.out]
            dsimp only
            rintro e w17 ⟨rfl, hbw17⟩
            replace h := h.below hbw17
            replace hB := hB.below hbw17
            replace hVM1 := hVM1.below hbw17
            replace hVM2 := hVM2.below hbw17
            replace bxB := bxB.below hbw17
            replace cxB := bxB.cells
            replace bxM1 := bxM1.below hbw17
            replace cxM1 := bxM1.cells
            replace bxM2 := bxM2.below hbw17
            replace cxM2 := bxM2.cells
            replace hq := below_step hq hbw17
            go_wp2_with fail
            refine (i_RevokeProxy _ _ mo xB _ hVM1 hn1).mono ?_
            rw [← HL.out]
            dsimp only
            rintro e w18 ⟨pL, qL, rfl, hoL, hbw18⟩
            replace h := h.below hbw18
            replace hB := hB.below hbw18
            replace hVM1 := hVM1.below hbw18
            replace hVM2 := hVM2.below hbw18
            replace bxB := bxB.below hbw18
            replace cxB := bxB.cells
            replace bxM1 := bxM1.below hbw18
            replace cxM1 := bxM1.cells
            replace bxM2 := bxM2.below hbw18
            replace cxM2 := bxM2.cells
            replace hq := below_step hq hbw18
            have hVL := hoL.at_
            obtain ⟨aL, kL, aL', kL', rfl, rfl⟩ := hVL.form
            clear hoL
            go_wp2_with (
              with_reducible change Go.wpList _ _ _ (Oper.mk _ (Op.load _ _) _ _ _ _ :: _) _ (World.alloc _ _)
              generalize hV : World.alloc _ _ = w19
              have hbw19 : Below w18.heap.size w18 w19 := by rw [← hV]; exact (Below.refl _ _).alloc (Nat.le_refl _) _
              have bxL : BoxAt w19 w18.heap.size #[(.slice aL ls.weights.length kL), (.slice aL' ls.proxies.length kL')] := by rw [← hV]; exact BoxAt.new _ _ _
              replace h := h.below hbw19
              replace hB := hB.below hbw19
              replace hVM1 := hVM1.below hbw19
              replace hVM2 := hVM2.below hbw19
              replace hVL := hVL.below hbw19
              replace bxB := bxB.below hbw19
              replace cxB := bxB.cells
              replace bxM1 := bxM1.below hbw19
              replace cxM1 := bxM1.cells
              replace bxM2 := bxM2.below hbw19
              replace cxM2 := bxM2.cells
              replace hq := below_step hq hbw19
              have cxL := bxL.cells
              clear hV)
            refine (i_HolderFor _ _ ls xB _ hVL hn2).mono ?_
            rw [E4.out]
            dsimp only
            rintro e w20 ⟨rfl, hbw20⟩
            replace h := h.below hbw20
            replace hB := hB.below hbw20
            replace hVM1 := hVM1.below hbw20
            replace hVM2 := hVM2.below hbw20
            replace hVL := hVL.below hbw20
            replace bxB := bxB.below hbw20
            replace cxB := bxB.cells
            replace bxM1 := bxM1.below hbw20
            replace cxM1 := bxM1.cells
            replace bxM2 := bxM2.below hbw20
            replace cxM2 := bxM2.cells
            replace bxL := bxL.below hbw20
            replace cxL := bxL.cells
            replace hq := below_step hq hbw20
            go_wp2_with fail
            go_meet
            exact hq
        case rest => as_aux_lemma =>
          rename World => wc20
          have hbwc20 := hcut; clear hcut
          clear hB hVM1 hVM2 bxB bxM1 bxM2 cxB cxM1 cxM2 HM hmo
          replace h := h.below hbwc20
          replace hg := below_step hg hbwc20
          go_wp2_with fail
          refine (draw_RevokeProxy _ bs _ h hl).mono ?_
          rintro e w22 ⟨pR, qR, dR, xR, rfl, hoR, hxR, hyR, hbw22⟩
          replace h := h.below hbw22
          replace hg := below_step hg hbw22
          have hR := hoR.at_
          obtain ⟨aR, kR, aR', kR', rfl, rfl⟩ := hR.form
          have hnR : dR.weights.length ≤ 1048576 ∧ dR.proxies.length ≤ 1048576 := by omega
          clear hoR
          obtain ⟨⟨rv, kn⟩, hR⟩ : ∃ V, V = revV dR xR := ⟨_, rfl⟩
          have HR := Lib.hid hR; clear hR
          go_wp2_with (
            with_reducible change Go.wpList _ _ _ (Oper.mk _ (Op.load _ _) _ _ _ _ :: _) _ (World.alloc _ _)
            generalize hV : World.alloc _ _ = w23
            have hbw23 : Below w22.heap.size w22 w23 := by rw [← hV]; exact (Below.refl _ _).alloc (Nat.le_refl _) _
            have bxR : BoxAt w23 w22.heap.size #[(.slice aR dR.weights.length kR), (.slice aR' dR.proxies.length kR')] := by rw [← hV]; exact BoxAt.new _ _ _
            replace h := h.below hbw23
            replace hR := hR.below hbw23
            replace hg := below_step hg hbw23
            have cxR := bxR.cells
            clear hV)
          refine (i_RevokeProxy _ _ dR xR _ hR hnR).mono ?_
          rw [← HR.out]
          dsimp only
          rintro e w24 ⟨pR1, qR1, rfl, hoR1, hbw24⟩
          replace h := h.below hbw24
          replace hR := hR.below hbw24
          replace bxR := bxR.below hbw24
          replace cxR := bxR.cells
          replace hg := below_step hg hbw24
          have hVR1 := hoR1.at_
          obtain ⟨aR1, kR1, aR1', kR1', rfl, rfl⟩ := hVR1.form
          clear hoR1
          go_wp2_with (
            with_reducible change Go.wpList _ _ _ (Oper.mk _ (Op.load _ _) _ _ _ _ :: _) _ (World.alloc _ _)
            generalize hV : World.alloc _ _ = w25
            have hbw25 : Below w24.heap.size w24 w25 := by rw [← hV]; exact (Below.refl _ _).alloc (Nat.le_refl _) _
            have bxR1 : BoxAt w25 w24.heap.size #[(.slice aR1 rv.weights.length kR1), (.slice aR1' rv.proxies.length kR1')] := by rw [← hV]; exact BoxAt.new _ _ _
            replace h := h.below hbw25
            replace hR := hR.below hbw25
            replace hVR1 := hVR1.below hbw25
            replace bxR := bxR.below hbw25
            replace cxR := bxR.cells
            replace hg := below_step hg hbw25
            have cxR1 := bxR1.cells
            clear hV)
          refine (s_RevokeProxy _ _ dR xR _ hR hnR).mono ?_
          rw [← HR.out]
          dsimp only
          rintro e w26 ⟨pR2, qR2, rfl, hoR2, hbw26⟩
          replace h := h.below hbw26
          replace hR := hR.below hbw26
          replace hVR1 := hVR1.below hbw26
          replace bxR := bxR.below hbw26
          replace cxR := bxR.cells
          replace bxR1 := bxR1.below hbw26
          replace cxR1 := bxR1.cells
          replace hg := below_step hg hbw26
          have hVR2 := hoR2.at_
          obtain ⟨aR2, kR2, aR2', kR2', rfl, rfl⟩ := hVR2.form
          clear hoR2
          go_wp2_with (
            with_reducible change Go.wpList _ _ _ (Oper.mk _ (Op.load _ _) _ _ _ _ :: _) _ (World.alloc _ _)
            generalize hV : World.alloc _ _ = w27
            have hbw27 : Below w26.heap.size w26 w27 := by rw [← hV]; exact (Below.refl _ _).alloc (Nat.le_refl _) _
            have bxR2 : BoxAt w27 w26.heap.size #[(.slice aR2 rv.weights.length kR2), (.slice aR2' rv.proxies.length kR2')] := by rw [← hV]; exact BoxAt.new _ _ _
            replace h := h.below hbw27
            replace hR := hR.below hbw27
            replace hVR1 := hVR1.below hbw27
            replace hVR2 := hVR2.below hbw27
            replace bxR := bxR.below hbw27
            replace cxR := bxR.cells
            replace bxR1 := bxR1.below hbw27
            replace cxR1 := bxR1.cells
            replace hg := below_step hg hbw27
            have cxR2 := bxR2.cells
            clear hV)
          refine (rVoters_eq _ _ _ _ rv _ hVR1 hVR2).mono ?_
          rintro e w28 ⟨rfl, hbw28⟩
          replace h := h.below hbw28
          replace hR := hR.below hbw28
          replace hVR1 := hVR1.below hbw28
          replace hVR2 := hVR2.below hbw28
          replace bxR := bxR.below hbw28
          replace cxR := bxR.cells
          replace bxR1 := bxR1.below hbw28
          replace cxR1 := bxR1.cells
          replace bxR2 := bxR2.below hbw28
          replace cxR2 := bxR2.cells
          replace hg := below_step hg hbw28
          go_wp2_with fail
          go_ret
          exact ⟨by simp, hg⟩
end Go.Proofs.Ytapkicfbknoioaa
