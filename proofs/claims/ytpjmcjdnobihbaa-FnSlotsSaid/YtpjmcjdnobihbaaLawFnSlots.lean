/- The walk of FnSlots out of its callees' contracts: it returns true, and what was there stays. No conditions. -/
import Derived.Test.YtpjmcjdnobihbaaDrawM
import Derived.Test.YtpjmcjdnobihbaaSlotL
import Derived.Test.YtpjmcjdnobihbaaLawW
import Derived.Test.YtpjmcjdnobihbaaLawU
import Derived.Test.YtpjmcjdnobihbaaCommG
import Derived.Test.YtpjmcjdnobihbaaCommH
import Derived.Test.YtpjmcjdnobihbaaPairS
import Derived.Test.YtpjmcjdnobihbaaCommB
import Derived.Test.YtpjmcjdnobihbaaBw
import Derived.Deep.DeepCutAuto
import Derived.Deep.CutBlock
namespace Go.Proofs.Ytpjmcjdnobihbaa
open Go.RowKit
set_option linter.unusedVariables false
set_option linter.unusedSimpArgs false

set_option maxRecDepth 100000 in
set_option maxHeartbeats 8000000 in
theorem law_FnSlots (w : World) (v : Value) (bs : List Int) (h : BytesAt w v bs) :
    Calls Try.prog 3 #[v] w fun e w' => e = .returned (.bool true) ∧ Below w.heap.size w w' := by
  have HQ := rBig_c v bs w h
  obtain ⟨ao, cap, rfl⟩ := h.1.form
  by_cases hbig : 65536 < bs.length
  · rw [decide_eq_true hbig] at HQ
    have HQ' := Lib.hid HQ; clear HQ
    go_enter Try.func3, Try.ntmps3
    go_wp2_with (go_at_call 5; refine HQ'.out.mono ?_; rintro e w' ⟨rfl, rfl⟩)
    go_ret
    exact ⟨rfl, Below.refl _ _⟩
  · rw [decide_eq_false hbig] at HQ
    have HQ' := Lib.hid HQ; clear HQ
    have hl : bs.length ≤ 65537 := by omega
    clear hbig
    have hg := Below.refl w.heap.size w
    go_enter Try.func3, Try.ntmps3
    go_wp2_with (go_at_call 5; refine HQ'.out.mono ?_; rintro e w' ⟨rfl, rfl⟩)
    refine (draw_MeetingSlots _ bs _ h hl).mono ?_
    rintro e w1 ⟨uL, cs, rfl, hL, hsm, hbw1⟩
    replace h := h.below hbw1
    replace hg := below_step hg hbw1
    obtain ⟨aL, kL, rfl⟩ := hL.form
    have hn : CommsLe cs := hsm.le (by omega)
    have hc9 := hsm.1
    obtain ⟨⟨sl, ok⟩, hA⟩ : ∃ V, V = meetV cs := ⟨_, rfl⟩
    have HA := Lib.hid hA; clear hA
    have hok : Hid (ok = commsOk cs) := by
      have h1 := HA.out
      unfold meetV at h1
      rw [Hid]
      cases hq : commsOk cs <;> rw [hq] at h1 <;> exact (congrArg Prod.snd h1)
    have hsl : Hid ((ok = true → sl = meetL cs cs.length) ∧ (ok = false → sl = [])) := by
      have h1 := HA.out
      have h2 := hok.out
      unfold meetV at h1
      rw [← h2] at h1
      cases ok with
      | true => exact ⟨fun _ => congrArg Prod.fst h1, fun e => by cases e⟩
      | false => exact ⟨(fun e => by cases e), fun _ => congrArg Prod.fst h1⟩
    go_wp2_with fail
    refine (i_MeetingSlots _ cs _ hL hn).mono ?_
    rw [← HA.out]
    dsimp only
    rintro e w2 ⟨pA1, rfl, hoA1, hbw2⟩
    replace h := h.below hbw2
    replace hL := hL.below hbw2
    replace hg := below_step hg hbw2
    have hIA1 := OwnI.at_ hoA1
    obtain ⟨bA1, jA1, rfl⟩ := hIA1.form
    clear hoA1
    go_wp2_with fail
    refine (s_MeetingSlots _ cs _ hL hn).mono ?_
    rw [← HA.out]
    dsimp only
    rintro e w3 ⟨pA2, rfl, hoA2, hbw3⟩
    replace h := h.below hbw3
    replace hL := hL.below hbw3
    replace hIA1 := hIA1.below hbw3
    replace hg := below_step hg hbw3
    have hIA2 := OwnI.at_ hoA2
    obtain ⟨bA2, jA2, rfl⟩ := hIA2.form
    clear hoA2
    go_wp2_with fail
    refine (rInts_c _ _ sl sl _ hIA1 hIA2).mono ?_
    simp only [decide_true]
    rintro e w4 ⟨rfl, hbw4⟩
    replace h := h.below hbw4
    replace hL := hL.below hbw4
    replace hIA1 := hIA1.below hbw4
    replace hIA2 := hIA2.below hbw4
    replace hg := below_step hg hbw4
    obtain ⟨⟨ps, okp⟩, hP⟩ : ∃ V, V = pairsV cs := ⟨_, rfl⟩
    obtain rfl : okp = ok := by
      rw [hok.out]
      unfold pairsV at hP
      cases hq : commsOk cs <;> rw [hq] at hP <;> exact (congrArg Prod.snd hP)
    have hps : Hid ((okp = true → ps = pairL cs cs.length) ∧ (okp = false → ps = [])) := by
      have h2 := hok.out
      unfold pairsV at hP
      rw [← h2] at hP
      cases okp with
      | true => exact ⟨fun _ => congrArg Prod.fst hP, fun e => by cases e⟩
      | false => exact ⟨(fun e => by cases e), fun _ => congrArg Prod.fst hP⟩
    have HP := Lib.hid hP; clear hP
    go_wp2_with fail
    refine (i_SharedPairs _ cs _ hL hn).mono ?_
    rw [← HP.out]
    dsimp only
    rintro e w5 ⟨pP1, rfl, hoP1, hbw5⟩
    replace h := h.below hbw5
    replace hL := hL.below hbw5
    replace hIA1 := hIA1.below hbw5
    replace hIA2 := hIA2.below hbw5
    replace hg := below_step hg hbw5
    have hP1 : Sn.StrSSAt _ _ _ := Sn.OwnNest.at_ hoP1
    obtain ⟨bP1, jP1, rfl⟩ := hP1.form
    clear hoP1
    go_wp2_with fail
    refine (s_SharedPairs _ cs _ hL hn).mono ?_
    rw [← HP.out]
    dsimp only
    rintro e w6 ⟨pP2, rfl, hoP2, hbw6⟩
    replace h := h.below hbw6
    replace hL := hL.below hbw6
    replace hIA1 := hIA1.below hbw6
    replace hIA2 := hIA2.below hbw6
    replace hP1 := hP1.below hbw6
    replace hg := below_step hg hbw6
    have hP2 : Sn.StrSSAt _ _ _ := Sn.OwnNest.at_ hoP2
    obtain ⟨bP2, jP2, rfl⟩ := hP2.form
    clear hoP2
    have hpl := hP1.len
    unfold maxLen at hpl
    go_upto_block 0 with fail
    go_cut [12] from 78 to 93 (fun _ wx => Below w6.heap.size w6 wx)
    case first => as_aux_lemma =>
      go_wp2_with fail
      go_loopw [12] (fun i wr => ∃ k : Nat, k ≤ ps.length ∧ i = .int .i64 k ∧ Below w6.heap.size w6 wr) (fun i _ => ps.length - (intOf i).toNat)
      case atStart => exact ⟨0, by omega, rfl, Below.refl _ _⟩
      case round =>
        obtain ⟨k, hk, rfl, hb⟩ := hrel
        rename World => wl
        replace hP1 := hP1.below hb
        replace hP2 := hP2.below hb
        by_cases hlt : k < ps.length
        · obtain ⟨b1, o1, u1, rfl, l1, s1, c1⟩ := hP1.get hlt
          obtain ⟨b2, o2, u2, rfl, l2, s2, c2⟩ := hP2.get hlt
          obtain ⟨q1, r1, rfl⟩ := s1.form
          obtain ⟨q2, r2, rfl⟩ := s2.form
          have hx1 := BW.cell l1 c1
          have hx2 := BW.cell l2 c2
          have hri := fun x : BW wl => rTexts_eq _ _ ps[k] x.w (s1.below x.h) (s2.below x.h)
          have HRI := Lib.hid hri
          have hkI : (k : Int) < (ps.length : Int) := by omega
          clear hri c1 c2
          generalize ps[k] = row at *
          go_wp2_with fail
          refine wp_region_bw (by kernel_rfl) (by kernel_rfl) ?_
          repeat (first
            | go_big_quiet_skip
            | (go_big_quiet_want; go_big_quiet_op; first | go_big_quiet_on | (apply Exists.intro; refine ⟨fun _ => ?_, ?_⟩; (first | (go_at_call 12; exact BW.call (HRI.out _))); go_big_quiet_on)))
          refine wpQuiet_nil ?_
          rintro _ ⟨xq, rfl⟩
          have hbz := below_step hb xq.h
          go_wp2_with fail
          go_roundw
          case rel => exact ⟨k + 1, by omega, by go_num, hbz⟩
          case measure => simp [intOf]; omega
        · have hkI : ¬ (k : Int) < (ps.length : Int) := by omega
          go_wp2_with fail
          go_meet
          exact hb
    case rest => as_aux_lemma =>
      rename World => wcx
      have hbwcx := hcut; clear hcut
      clear hIA2 hP2
      replace h := h.below hbwcx
      replace hL := hL.below hbwcx
      replace hIA1 := hIA1.below hbwcx
      replace hP1 := hP1.below hbwcx
      replace hg := below_step hg hbwcx
      obtain ⟨⟨few, okf⟩, hF⟩ : ∃ V, V = fewV cs := ⟨_, rfl⟩
      have HF := Lib.hid hF; clear hF
      have hfw : Hid (okf = okp ∧ (okp = true → few = (fewN cs : Int)) ∧ (okp = false → few = 0)) := by
        have h1 := HF.out
        have h2 := hok.out
        unfold fewV at h1
        rw [← h2] at h1
        cases okp with
        | true => exact ⟨congrArg Prod.snd h1, fun _ => congrArg Prod.fst h1, fun e => by cases e⟩
        | false => exact ⟨congrArg Prod.snd h1, (fun e => by cases e), fun _ => congrArg Prod.fst h1⟩
      obtain rfl := hfw.out.1
      go_wp2_with fail
      refine (i_FewestSlots _ cs _ hL hn).mono ?_
      rw [← HF.out]
      dsimp only
      rintro e w7 ⟨rfl, hbw7⟩
      replace h := h.below hbw7
      replace hL := hL.below hbw7
      replace hIA1 := hIA1.below hbw7
      replace hP1 := hP1.below hbw7
      replace hg := below_step hg hbw7
      go_wp2_with fail
      refine (s_FewestSlots _ cs _ hL hn).mono ?_
      rw [← HF.out]
      dsimp only
      rintro e w8 ⟨rfl, hbw8⟩
      replace h := h.below hbw8
      replace hL := hL.below hbw8
      replace hIA1 := hIA1.below hbw8
      replace hP1 := hP1.below hbw8
      replace hg := below_step hg hbw8
      obtain ⟨⟨pe, nb, kn⟩, hB⟩ : ∃ V, V = busyV cs := ⟨_, rfl⟩
      have HB := Lib.hid hB; clear hB
      go_wp2_with fail
      refine (i_BusiestPerson _ cs _ hL hn).mono ?_
      rw [← HB.out]
      dsimp only
      rintro e w9 ⟨rfl, hbw9⟩
      replace h := h.below hbw9
      replace hL := hL.below hbw9
      replace hIA1 := hIA1.below hbw9
      replace hP1 := hP1.below hbw9
      replace hg := below_step hg hbw9
      go_wp2_with fail
      refine (s_BusiestPerson _ cs _ hL hn).mono ?_
      rw [← HB.out]
      dsimp only
      rintro e w10 ⟨rfl, hbw10⟩
      replace h := h.below hbw10
      replace hL := hL.below hbw10
      replace hIA1 := hIA1.below hbw10
      replace hP1 := hP1.below hbw10
      replace hg := below_step hg hbw10
      have hbz : Hid (kn = true → ofV cs pe = (ofL pe cs, true) ∧ ((ofL pe cs).length : Int) = nb ∧ nb ≤ fewN cs) := fun hk => by
        have h1 := busy_ok (xs := cs) (by rw [← HB.out]; exact hk)
        rw [← HB.out] at h1
        exact h1
      have hnz : Hid (kn = false → nb = 0) := fun hk => by
        have h1 := HB.out
        unfold busyV at h1
        split at h1
        · have := congrArg (fun x => x.2.2) h1; dsimp only at this; rw [hk] at this; cases this
        · exact congrArg (fun x => x.2.1) h1
      have hbd : Hid (∀ x ∈ sl, 0 ≤ x ∧ x ≤ 9) := fun x hx => by
        cases okf with
        | false => rw [hsl.out.2 rfl] at hx; cases hx
        | true =>
          rw [hsl.out.1 rfl] at hx
          have := meetL_bd cs cs.length x hx
          rw [meetL_len] at this
          omega
      have hmb : Hid (∀ k, k ≤ sl.length → 0 ≤ mostL sl k ∧ mostL sl k ≤ 10) := fun k hk => ⟨(mostL_bd sl k).1, mostL_le sl 10 (by omega) (fun x hx => by have := hbd.out x hx; omega) k hk⟩
      have hsll : Hid (sl.length ≤ cs.length) := by
        rw [Hid]
        cases okf with
        | false => rw [hsl.out.2 rfl]; exact Nat.zero_le _
        | true => rw [hsl.out.1 rfl, meetL_len]; exact Nat.le_refl _
      have hapart : Hid (∀ (j k : Nat) (hj : j < cs.length) (hk : k < cs.length), j < k → k < sl.length → hasP ps cs[j].name cs[k].name = true → sl.getD j 0 ≠ sl.getD k 0) := fun j k hj hk hjk hks hp => by
        cases okf with
        | false => rw [hsl.out.2 rfl] at hks; simp at hks
        | true =>
          rw [hsl.out.1 rfl]
          rw [hps.out.1 rfl] at hp
          exact meet_apart hjk (by omega) (pair_share hok.out.symm hjk (by omega) hp)
      have hrow2 : Hid (∀ (p : Nat) (hp : p < ps.length), ∃ x y, ps[p] = [x, y]) := fun p hp => by
        cases okf with
        | false => rw [hps.out.2 rfl] at hp; simp at hp
        | true =>
          have hm := List.getElem_mem hp
          have h2 := hps.out.1 rfl
          obtain ⟨_, _, _, _, _, _, h3⟩ := pairL_mem (r := ps[p]) (xs := cs) (k := cs.length) (by rw [← h2]; exact hm)
          exact ⟨_, _, h3⟩
      clear HA HF HP HB
      go_upto_block 2 with fail
      go_cut [23, 24] from 142 to 211 (fun mo _ wx => mo = .int .i64 (mostL sl sl.length) ∧ Below w10.heap.size w10 wx)
      case first => as_aux_lemma =>
        go_wp2_with fail
        go_loopw [23, 24, 25, 26, 27] (fun mo i _ _ _ wr => ∃ k : Nat, k ≤ sl.length ∧ mo = .int .i64 (mostL sl k) ∧ i = .int .i64 k ∧ Below w10.heap.size w10 wr) (fun _ i _ _ _ _ => sl.length - (intOf i).toNat)
        case atStart => exact ⟨0, by omega, rfl, rfl, Below.refl _ _⟩
        case round =>
          obtain ⟨k, hk, rfl, rfl, hb⟩ := hrel
          rename World => wl
          replace hL := hL.below hb
          replace hIA1 := hIA1.below hb
          replace hP1 := hP1.below hb
          by_cases hlt : k < sl.length
          · have hkc : k < cs.length := by have := hsll.out; omega
            have hkI : (k : Int) < (sl.length : Int) := by omega
            obtain ⟨_, _, _, hv, g1, g2, g3⟩ := id hIA1
            cases hv
            unfold maxLen at g2
            obtain ⟨sb, so, rfl, h4, h5⟩ := g3 (by omega)
            have hck := h5.int hlt
            have hx := hbd.out _ (List.getElem_mem hlt)
            have hm0 := hmb.out k (by omega)
            have hgk : Hid (sl.getD k 0 = sl[k]) := getD_i hlt
            have hms : Hid (mostL sl (k + 1) = if mostL sl k < sl[k] + 1 then sl[k] + 1 else mostL sl k) := by rw [Hid]; simp only [mostL]; rw [hgk.out]
            have H5 := Lib.hid h5
            clear h5
            go_upto_if 154 with fail
            go_cut [23] from 142 to 211 (fun mo wx => mo = .int .i64 (mostL sl (k + 1)) ∧ wl = wx)
            case first => as_aux_lemma =>
              generalize sl[k] = y at *
              by_cases hm : mostL sl k < y + 1
              · have hms2 := Lib.hid (hms.out.trans (if_pos hm))
                go_wp2_with fail
                go_meet
                exact ⟨by rw [hms2.out], by trivial⟩
              · have hms2 := Lib.hid (hms.out.trans (if_neg hm))
                go_wp2_with fail
                go_meet
                exact ⟨by rw [hms2.out], by trivial⟩
            case rest => as_aux_lemma =>
              obtain ⟨rfl, rfl⟩ := hcut
              clear hms hx hm0
              go_wp2_with fail
              go_loopw [25, 26, 27] (fun a _ _ wr => ∃ j : Nat, j ≤ k ∧ a = .int .i64 j ∧ Below wl.heap.size wl wr) (fun a _ _ _ => k - (intOf a).toNat)
              case atStart => exact ⟨0, by omega, rfl, Below.refl _ _⟩
              case round =>
                obtain ⟨j, hj, rfl, hb3⟩ := hrel
                rename World => wm
                by_cases hjk : j < k
                · have hjI : (j : Int) < (k : Int) := by omega
                  have hjc : j < cs.length := by omega
                  have hL3 := hL.below hb3
                  have hP3 := hP1.below hb3
                  obtain ⟨lb, lo, _, hle, l1, _, n1, _, _⟩ := hL3.get hjc
                  obtain ⟨lb', lo', _, hle', l2, _, n2, _, _⟩ := hL3.get hkc
                  obtain rfl := hle
                  cases hle'
                  obtain ⟨na, hna⟩ : ∃ na, na = cs[j].name := ⟨_, rfl⟩
                  obtain ⟨nc, hnc⟩ : ∃ nc, nc = cs[k].name := ⟨_, rfl⟩
                  rw [← hna] at n1
                  rw [← hnc] at n2
                  have hap := hapart.out j k hjc hkc hjk hlt
                  rw [← hna, ← hnc] at hap
                  have HAP := Lib.hid hap
                  have hjl : (j : Int) < (cs.length : Int) := by omega
                  have hkl : (k : Int) < (cs.length : Int) := by omega
                  clear hap hna hnc
                  go_wp2_with fail
                  go_loopw [26, 27] (fun sh p wr => ∃ q : Nat, q ≤ ps.length ∧ sh = .bool (hasP (ps.take q) na nc) ∧ p = .int .i64 q ∧ Below wm.heap.size wm wr) (fun _ p _ => ps.length - (intOf p).toNat)
                  case atStart => exact ⟨0, by omega, by simp [hasP], rfl, Below.refl _ _⟩
                  case round =>
                    obtain ⟨q, hq, rfl, rfl, hb4⟩ := hrel
                    rename World => wn
                    have N1 := (hb4.cell (p := ⟨lb, lo + j * 3, none⟩) l1).trans n1
                    have N2 := (hb4.cell (p := ⟨lb, lo + k * 3, none⟩) l1).trans n2
                    have hP4 := hP3.below hb4
                    by_cases hqp : q < ps.length
                    · have hqI : (q : Int) < (ps.length : Int) := by omega
                      obtain ⟨pb, po, pu, rfl, p1, s1, c1⟩ := hP4.get hqp
                      obtain ⟨ra, rb, hrr⟩ := hrow2.out q hqp
                      have htk : hasP (ps.take (q + 1)) na nc = (hasP (ps.take q) na nc || decide (ps[q] = [na, nc])) := by
                        rw [List.take_succ_eq_append_getElem hqp]
                        simp only [hasP, List.any_append, List.any_cons, List.any_nil, Bool.or_false]
                      rw [hrr] at s1 htk
                      obtain ⟨_, ao2, cap2, rfl, z1, z2, z3⟩ := s1
                      obtain ⟨rb2, ro2, rfl, y1, y2⟩ := z3 (by simp)
                      have e0 := y2 0 (by simp [strs])
                      have e1 := y2 1 (by simp [strs])
                      simp [strs] at e0 e1
                      unfold maxLen at z2
                      have HTK := Lib.hid htk
                      clear htk hrr y2
                      generalize hasP (ps.take q) na nc = sh at *
                      cases sh with
                      | true =>
                        have HT : Hid (hasP (ps.take (q + 1)) na nc = true) := by rw [Hid, HTK.out]; rfl
                        clear HTK
                        go_wp2_with fail
                        go_quiet (fail)
                        go_wp2_with fail
                        go_roundw
                        case rel => exact ⟨q + 1, by omega, by rw [HT.out], by go_num, Below.drewN' hb4 _⟩
                        case measure => simp [intOf]; omega
                      | false =>
                        by_cases h1 : ra = na
                        · by_cases h2 : rb = nc
                          · have HT : Hid (hasP (ps.take (q + 1)) na nc = true) := by rw [Hid, HTK.out, Bool.false_or]; exact decide_eq_true (by rw [h1, h2])
                            subst h1 h2
                            clear HTK
                            go_wp2_with fail
                            go_quiet (fail)
                            go_wp2_with fail
                            go_roundw
                            case rel => exact ⟨q + 1, by omega, by rw [HT.out], by go_num, Below.drewN' hb4 _⟩
                            case measure => simp [intOf]; omega
                          · have HT : Hid (hasP (ps.take (q + 1)) na nc = false) := by rw [Hid, HTK.out, Bool.false_or]; exact decide_eq_false (fun e => h2 (List.cons.inj (List.cons.inj e).2).1)
                            have h2b : (rb.toList == nc.toList) = false := (Lib.bytes_beq_false_iff _ _).2 h2
                            subst h1
                            clear HTK
                            go_wp2_with fail
                            go_quiet (fail)
                            go_wp2_with fail
                            go_roundw
                            case rel => exact ⟨q + 1, by omega, by rw [HT.out], by go_num, Below.drewN' hb4 _⟩
                            case measure => simp [intOf]; omega
                        · have HT : Hid (hasP (ps.take (q + 1)) na nc = false) := by rw [Hid, HTK.out, Bool.false_or]; exact decide_eq_false (fun e => h1 (List.cons.inj e).1)
                          have h1b : (ra.toList == na.toList) = false := (Lib.bytes_beq_false_iff _ _).2 h1
                          clear HTK
                          go_wp2_with fail
                          go_quiet (fail)
                          go_wp2_with fail
                          go_roundw
                          case rel => exact ⟨q + 1, by omega, by rw [HT.out], by go_num, Below.drewN' hb4 _⟩
                          case measure => simp [intOf]; omega
                    · have hqI : ¬ (q : Int) < (ps.length : Int) := by omega
                      have htk : ps.take q = ps := List.take_of_length_le (by omega)
                      rw [htk]
                      have I4 := (hIA1.below hb3).below hb4
                      obtain ⟨_, _, _, hv9, _, _, g9⟩ := I4
                      cases hv9
                      have hjs : j < sl.length := by omega
                      have cj := (CellsAt.below (CellsAt.below H5.out hb3 h4) hb4 (by have := hb3.size; omega)).int hjs
                      have ck := (CellsAt.below (CellsAt.below H5.out hb3 h4) hb4 (by have := hb3.size; omega)).int hlt
                      have HAP2 : Hid (hasP ps na nc = true → ¬ sl[j] = sl[k]) := fun hp => by
                        have := HAP.out hp
                        rwa [getD_i hjs, getD_i hlt] at this
                      have hjsI : (j : Int) < (sl.length : Int) := by omega
                      clear htk g9
                      generalize hasP ps na nc = sh at *
                      cases sh with
                      | false =>
                        clear HAP HAP2
                        go_wp2_with fail
                        go_quiet (fail)
                        go_wp2_with fail
                        go_roundw
                        case rel => exact ⟨j + 1, by omega, by go_num, Below.drewN' (below_step hb3 hb4) _⟩
                        case measure => simp [intOf]; omega
                      | true =>
                        have hne : (sl[j] == sl[k]) = false := by rw [beq_eq_false_iff_ne]; exact HAP2.out rfl
                        clear HAP HAP2
                        go_wp2_with fail
                        go_quiet (fail)
                        go_wp2_with fail
                        go_roundw
                        case rel => exact ⟨j + 1, by omega, by go_num, Below.drewN' (below_step hb3 hb4) _⟩
                        case measure => simp [intOf]; omega
                · have hjI : ¬ (j : Int) < (k : Int) := by omega
                  obtain rfl : j = k := by omega
                  go_wp2_with fail
                  go_roundw
                  case rel => exact ⟨j + 1, by omega, rfl, by go_num, below_step hb hb3⟩
                  case measure => simp [intOf]; omega
          · have hkI : ¬ (k : Int) < (sl.length : Int) := by omega
            obtain hke : k = sl.length := by omega
            have HKE := Lib.hid hke; clear hke
            go_wp2_with fail
            go_meet
            exact ⟨by rw [HKE.out], hb⟩
      case rest => as_aux_lemma =>
        rename World => wz
        obtain ⟨rfl, hbm⟩ := hcut
        replace hL := hL.below hbm
        replace hg := below_step hg hbm
        have hmo : Hid (okf = true → ¬ mostL sl sl.length < few ∧ ¬ few < nb) := fun hk => by
          have h1 := hfw.out.2.1 hk
          have h2 := hsl.out.1 hk
          have h3 := few_most cs
          have h4 : mostL sl sl.length = mostL (meetL cs cs.length) cs.length := by rw [h2, meetL_len]
          refine ⟨by omega, ?_⟩
          cases kn with
          | true => have := (hbz.out rfl).2.2; omega
          | false => have := hnz.out rfl; omega
        clear hapart hrow2 hmb hbd hsll hsl hps hfw hok hP1 hIA1
        generalize mostL sl sl.length = mo at *
        cases kn with
        | true =>
          obtain ⟨e1, e2, _⟩ := hbz.out rfl
          have E1 := Lib.hid e1
          have e3 : (((ofL pe cs).length : Int) == nb) = true := by rw [beq_iff_eq]; exact e2
          clear e1 e2 hbz hnz
          cases okf with
          | true =>
            obtain ⟨n1, n2⟩ := hmo.out rfl
            clear hmo
            go_wp2_with fail
            refine (i_CommitteesOf _ cs pe _ hL hn).mono ?_
            rw [E1.out]
            rintro e w99 ⟨u, rfl, ho, hb99⟩
            obtain ⟨au, ku, rfl⟩ := (OwnStrs.at_ ho).form
            go_wp2_with fail
            go_ret
            exact ⟨rfl, below_step hg hb99⟩
          | false =>
            clear hmo
            go_wp2_with fail
            refine (i_CommitteesOf _ cs pe _ hL hn).mono ?_
            rw [E1.out]
            rintro e w99 ⟨u, rfl, ho, hb99⟩
            obtain ⟨au, ku, rfl⟩ := (OwnStrs.at_ ho).form
            go_wp2_with fail
            go_ret
            exact ⟨rfl, below_step hg hb99⟩
        | false =>
          clear hbz hnz
          cases okf with
          | true =>
            obtain ⟨n1, n2⟩ := hmo.out rfl
            clear hmo
            go_wp2_with fail
            go_ret
            exact ⟨rfl, hg⟩
          | false =>
            clear hmo
            go_wp2_with fail
            go_ret
            exact ⟨rfl, hg⟩
end Go.Proofs.Ytpjmcjdnobihbaa
