/- Contract: spec.BusinessSpans. No conditions beyond sizes. -/
import Derived.Test.YtjijcjcfefkpbaaDoorSpanL
import Derived.Test.YtjijcjcfefkpbaaDoorDrawQ
import Derived.Test.YtjijcjcfefkpbaaDoorNestU
import Derived.Test.YtjijcjcfefkpbaaDoorNestQ
import Derived.Test.YtjijcjcfefkpbaaDoorSessU
import Derived.Deep.RegionLaw
namespace Go.Proofs.YtjijcjcfefkpbaaDoor
open Go.RowKit
set_option linter.unusedVariables false
set_option linter.unusedSimpArgs false

/-- The last row of a table that the call owns: where it lies, and its two numbers. -/
theorem tab_last {w : World} {B : Nat} {v : Value} {t : List (List Int)} (h : OwnTab w B v t) (h2 : Rows2 t) (h0 : 0 < t.length) :
    ∃ g c gi oi ci, v = .slice (some ⟨g, 0, none⟩) t.length c ∧ B ≤ g ∧ g < w.heap.size ∧ (∀ j, w.frozen? ⟨g, j, none⟩ = false) ∧ w.cell? ⟨g, t.length - 1, none⟩ = some (.slice (some ⟨gi, oi, none⟩) 2 ci) ∧ gi < w.heap.size ∧
      w.cell? ⟨gi, oi, none⟩ = some (.int .i64 (rowBeg t)) ∧ w.cell? ⟨gi, oi + 1, none⟩ = some (.int .i64 (rowEnd t)) := by
  obtain ⟨g, c, rfl, hB, hg, hf, _⟩ := OwnNest.form2 h h0
  have hk : t.length - 1 < t.length := by omega
  obtain ⟨u, hu, ⟨g', c', he, _, hc⟩, _⟩ := OwnNest.inner (f := tcell) (fun _ _ => rfl) h hk
  cases he
  have hr2 := h2 _ (List.getElem_mem hk)
  have hat : IntsAt w u t[t.length - 1] := hu.at_
  have e1 : w.cell? ⟨g, (t.length - 1) * 1 + 0, none⟩ = some u := hc 0 (Nat.lt_succ_self 0)
  obtain ⟨_, ao, ci, rfl, q1, q2, q3⟩ := hat
  have h20 : 0 < t[t.length - 1].length := by rw [hr2]; omega
  have h21 : 1 < t[t.length - 1].length := by rw [hr2]; omega
  obtain ⟨gi, oi, rfl, lg, cs⟩ := q3 h20
  have hd : t.getD (t.length - 1) [] = t[t.length - 1] := by rw [List.getD_eq_getElem?_getD, List.getElem?_eq_getElem hk]; rfl
  have a0 := cs.int (k := 0) h20
  have a1 := cs.int (k := 1) h21
  rw [hr2, Nat.mul_one, Nat.add_zero] at e1
  refine ⟨g, c, gi, oi, ci, rfl, hB, hg, hf, e1, lg, ?_, ?_⟩
  · rw [Nat.add_zero] at a0
    rw [a0]
    unfold rowBeg
    rw [hd, List.getD_eq_getElem?_getD, List.getElem?_eq_getElem h20]
    rfl
  · rw [a1]
    unfold rowEnd
    rw [hd, List.getD_eq_getElem?_getD, List.getElem?_eq_getElem h21]
    rfl

theorem OwnNest.blk {w : World} {B : Nat} {v : Value} {t : List (List Int)} (h : OwnTab w B v t) {b : Nat} (hb : v.ownBlock = some b) : B ≤ b ∧ b < w.heap.size := by
  obtain ⟨es, _, h2, _⟩ := h
  exact h2.lt b hb

theorem box5 {w : World} {b : Nat} {x0 x1 x2 x3 x4 : Value} (y0 y1 y2 y3 y4 : Value) (h : BoxAt w b #[x0, x1, x2, x3, x4]) :
    BoxAt (((((w.setCell ⟨b, 0, none⟩ y0).setCell ⟨b, 1, none⟩ y1).setCell ⟨b, 2, none⟩ y2).setCell ⟨b, 3, none⟩ y3).setCell ⟨b, 4, none⟩ y4) b #[y0, y1, y2, y3, y4] ∧
      OutOf b (b + 1) w (((((w.setCell ⟨b, 0, none⟩ y0).setCell ⟨b, 1, none⟩ y1).setCell ⟨b, 2, none⟩ y2).setCell ⟨b, 3, none⟩ y3).setCell ⟨b, 4, none⟩ y4) := by
  refine ⟨?_, (((((OutOf.refl b (b + 1) w).set y0).set y1).set y2).set y3).set y4⟩
  have h0 := box_setQ h (i := 0) (by simp) y0
  have h1 := box_setQ h0 (i := 1) (by simp) y1
  have h2 := box_setQ h1 (i := 2) (by simp) y2
  have h3 := box_setQ h2 (i := 3) (by simp) y3
  have h4 := box_setQ h3 (i := 4) (by simp) y4
  simpa using h4
theorem tab_outQ {w w' : World} {B b : Nat} {v : Value} {t : List (List Int)} (h : OwnTab w B v t) (ho : OutOf b (b + 1) w w') (hB : b < B) : OwnTab w' B v t := by
  obtain ⟨es, he, h2, h3, h4, h5⟩ := h
  exact ⟨es, he, own_outQ h2 ho (by omega), fun p hp => own_outQ (h3 p hp) ho (by omega), h4, h5⟩
theorem rise_out {lo hi x : Int} {pr : List Int} (h : rising lo hi pr = true) : rising lo hi (outB x pr) = true := by
  obtain ⟨h1, h2, _⟩ := (risQ_iff pr none).1 h
  unfold outB keepF
  exact (risQ_iff _ none).2 ⟨fun y hy => h1 y ((List.mem_filter.1 hy).1), h2.filter _, fun y hy => by cases hy⟩
/-- A move that goes well: the session stays valid. -/
theorem moveS_valid {s m : DSess} {x : Int} (h : (m, true) = moveS s x) : sessOk m.en m.nu m.de m.pr m.re = true := by
  unfold moveS at h
  split at h
  · exact (come_back h).2
  · unfold goOut at h
    split at h
    · rename_i hc
      simp only [Bool.and_eq_true] at hc
      injection h with hm _
      subst hm
      obtain ⟨a1, a2, a3, a4, a5⟩ := sessOk_iff.1 hc.1
      exact sessOk_iff.2 ⟨a1, a2, a3, rise_out a4, a5⟩
    · cases h

set_option maxRecDepth 100000 in
set_option maxHeartbeats 4000000 in
theorem s_BusinessSpans (en nu de : Int) (v : Value) (pr : List Int) (re : Int) (vm : Value) (ms : List Int) (w : World) (h : IntsAt w v pr) (hM : IntsAt w vm ms) (hn : pr.length ≤ 1048576) :
    Calls Tryd.prog 13 #[vSess en nu de v re, vm] w fun e w' => ∃ u, e = .returned (.tuple #[u, .bool (spansV ⟨en, nu, de, pr, re⟩ ms).2]) ∧ OwnTab w' w.heap.size u (spansV ⟨en, nu, de, pr, re⟩ ms).1 ∧ Below w.heap.size w w' := by
  obtain ⟨ao, cap, rfl⟩ := h.form
  obtain ⟨am, km, rfl⟩ := hM.form
  obtain ⟨W, hW⟩ : ∃ W, W = w.alloc (.cells #[.int .i64 en, .int .i64 nu, .int .i64 de, .slice ao pr.length cap, .int .i64 re] 28) := ⟨_, rfl⟩
  have bS : BoxAt W w.heap.size #[.int .i64 en, .int .i64 nu, .int .i64 de, .slice ao pr.length cap, .int .i64 re] := by rw [hW]; exact BoxAt.new _ _ _
  have hWs : W.heap.size = w.heap.size + 1 := by rw [hW]; simp
  have hWb : Below w.heap.size w W := by rw [hW]; exact alQ _ _
  obtain ⟨W2, hW2⟩ : ∃ W2, W2 = W.alloc (.cells #[] 22) := ⟨_, rfl⟩
  have hT2 : OwnTab W2 (w.heap.size + 1) (.slice (some ⟨w.heap.size + 1, 0, none⟩) 0 0) [] := by
    have := OwnNest.lit (f := tcell) (ord := id) (size := 1) 22 3 W
    rw [hWs, ← hW2] at this
    exact this
  have b2 : Below W.heap.size W W2 := by rw [hW2]; exact alQ _ _
  have bS2 := bS.below b2
  have hb2 := below_step hWb b2
  have hI2 := h.below hb2
  have HS := s_l16Good en nu de _ pr re W2 hI2
  have HW := Lib.hid hW; have HW2 := Lib.hid hW2; have HWs := Lib.hid hWs
  clear hW hW2 hWs bS hWb b2
  have hmL : ms.length ≤ maxLen := by obtain ⟨_, _, _, hv, q1, q2, _⟩ := hM; cases hv; omega
  have hmL' := hmL; unfold maxLen at hmL'
  cases hok : spanOk ⟨en, nu, de, pr, re⟩ ms with
  | false =>
    have HR : Hid (spansV ⟨en, nu, de, pr, re⟩ ms = ([], false)) := by rw [Hid, spansV, if_neg (by rw [hok]; simp)]
    rw [HR.out]
    have fin0 : ∀ w', Below W2.heap.size W2 w' → OwnTab w' w.heap.size (.slice (some ⟨w.heap.size + 1, 0, none⟩) 0 0) [] ∧ Below w.heap.size w w' := fun w' hb => ⟨OwnNest.base (OwnNest.below hT2 hb) (by omega), below_step hb2 hb⟩
    unfold spanOk at hok
    dsimp only at hok
    have c2 := bS2.cells
    cases hs : sessOk en nu de pr re with
    | false =>
      rw [hs] at HS
      have HS' := Lib.hid HS
      clear hok HR HS
      go_enter Tryd.func13, Tryd.ntmps13
      go_wp2_with fail
      rw [← HW.out, ← HW2.out]
      refine HS'.out.mono ?_
      rintro e w3 ⟨rfl, hb3⟩
      go_wp2_with fail
      go_ret2
      exact ⟨_, rfl, fin0 _ hb3⟩
    | true =>
      rw [hs, Bool.true_and] at hok
      rw [hs] at HS
      have HS' := Lib.hid HS
      clear HS
      by_cases hr : re = 0
      · have hrb : (re != 0) = false := by simp [hr]
        have h20 : ¬ ms.length ≤ 20 := by
          intro hc
          rw [hr, decide_eq_true hc] at hok
          cases hok
        have h20I : (20 : Int) < (ms.length : Int) := by omega
        clear hok HR hr
        go_enter Tryd.func13, Tryd.ntmps13
        go_wp2_with fail
        rw [← HW.out, ← HW2.out]
        refine HS'.out.mono ?_
        rintro e w3 ⟨rfl, hb3⟩
        have c3 := (bS2.below hb3).cells
        clear c2
        go_wp2_with fail
        go_ret2
        exact ⟨_, rfl, fin0 _ hb3⟩
      · have hrb : (re != 0) = true := by simp [hr]
        clear hok HR hr
        go_enter Tryd.func13, Tryd.ntmps13
        go_wp2_with fail
        rw [← HW.out, ← HW2.out]
        refine HS'.out.mono ?_
        rintro e w3 ⟨rfl, hb3⟩
        have c3 := (bS2.below hb3).cells
        clear c2
        go_wp2_with fail
        go_ret2
        exact ⟨_, rfl, fin0 _ hb3⟩
  | true =>
    have hok' := hok
    simp only [spanOk, Bool.and_eq_true, beq_iff_eq, decide_eq_true_eq] at hok'
    obtain ⟨hs, hr0, h20⟩ := hok'
    have HV : Hid (spansV ⟨en, nu, de, pr, re⟩ ms = spanH ms 0 ⟨en, nu, de, pr, re⟩ []) := by rw [Hid, spansV, if_pos hok, spanH_zero]
    rw [hs] at HS
    have HS' := Lib.hid HS
    have h20I : ¬ (20 : Int) < (ms.length : Int) := by omega
    have hrb : (re != 0) = false := by simp [hr0]
    have c2 := bS2.cells
    have hp0 : pr.length ≤ 1048576 + 0 := by omega
    clear hok HS hr0
    obtain ⟨V, hVe⟩ : ∃ V, V = spansV ⟨en, nu, de, pr, re⟩ ms := ⟨_, rfl⟩
    rw [← hVe]
    have HV0 : Hid (V = spanH ms 0 ⟨en, nu, de, pr, re⟩ []) := by rw [Hid, hVe]; exact HV.out
    clear hVe HV
    go_enter Tryd.func13, Tryd.ntmps13
    go_wp2_with fail
    rw [← HW.out, ← HW2.out]
    refine HS'.out.mono ?_
    rintro e w3 ⟨rfl, hb3⟩
    have bS3 := bS2.below hb3
    have c3 := bS3.cells
    have hT3 : OwnTab w3 (w.heap.size + 1) (.slice (some ⟨w.heap.size + 1, 0, none⟩) 0 0) [] := OwnNest.below hT2 hb3
    have hI3 := hI2.below hb3
    have hbw := below_step hb2 hb3
    clear c2 bS2 hT2 hI2 hb2
    go_wp2_with fail
    go_loopw [6, 7] (fun o i wr => ∃ (k : Nat) (u : Value) (qs : List Int) (t : List (List Int)), k ≤ ms.length + 1 ∧ i = .int .i64 k ∧ BoxAt wr w.heap.size #[.int .i64 en, .int .i64 nu, .int .i64 de, u, .int .i64 re] ∧ IntsAt wr u qs ∧ OwnTab wr (w.heap.size + 1) o t ∧ Rows2 t ∧ t.length ≤ k ∧ qs.length ≤ 1048576 + k ∧ Hid (V = spanH ms k ⟨en, nu, de, qs, re⟩ t) ∧ sessOk en nu de qs re = true ∧ (k = 0 → Hid (∀ w', Below w.heap.size w w' → IntsAt w' u qs)) ∧ Below w.heap.size w wr) (fun _ i _ => ms.length + 1 - (intOf i).toNat)
    case atStart => exact ⟨0, _, pr, [], by omega, rfl, bS3, hI3, hT3, (fun r hr => by cases hr), Nat.le_refl _, by omega, HV0, hs, fun _ w' hb => h.below hb, hbw⟩
    case round =>
      rename World => wa
      clear hT3 bS3 c3 hI3 hbw HV0 hs
      obtain ⟨k, u, qs, t, hk, rfl, hB, hU, hT, h2, htl, hql, HV, hsk, hk0u, hbr⟩ := hrel
      have hMr := hM.below hbr
      obtain ⟨au, ku, rfl⟩ := hU.form
      have cB := hB.cells
      have fB := hB.free
      obtain ⟨at0, kt, hof⟩ := (OwnNest.at_ hT).form
      subst hof
      by_cases hkl : k ≤ ms.length
      case neg =>
        obtain rfl : k = ms.length + 1 := by omega
        have HE : Hid (V = (t, true)) := by rw [Hid, HV.out, spanH_end (by omega)]
        have hlt : ¬ ((ms.length : Int) + 1 ≤ (ms.length : Int)) := by omega
        go_wp2_with fail
        go_ret2
        rw [HE.out]
        exact ⟨_, rfl, OwnNest.base hT (by omega), hbr⟩
      case pos =>
        have hkI : (k : Int) ≤ (ms.length : Int) := by omega
        rcases Nat.eq_zero_or_pos k with hk0 | hk0
        · subst hk0
          have HF : Hid (V = spanF (ms.drop 0) (0 : Nat) ⟨en, nu, de, qs, re⟩ t) := by rw [Hid, HV.out, spanH_zero]; rfl
          have hUK : Hid (∀ w', OutOf (w.heap.size + 1) wa.heap.size wa w' → IntsAt w' (.slice au qs.length ku) qs) := fun w' ho => (hk0u rfl).out w' (hbr.trans (ho.below (Nat.le_succ _) hbr.size))
          have hvN := fun b (hb' : (Value.slice at0 t.length kt).ownBlock = some b) => hT.blk hb'
          clear HV hk0u
          have HN : Hid (V = spanH ms (0 + 1) ⟨en, nu, de, qs, re⟩ (spanQ ⟨en, nu, de, qs, re⟩ t ((0 : Nat) : Int))) := by rw [Hid, HF.out, spanF_next (by omega)]
          clear HF
          go_wp2_with fail
          refine (s_l16Quorum en nu de _ qs re _ hU hsk).mono ?_
          cases hq : quorumB en nu de qs with
          | false =>
            rintro e wq ⟨rfl, hbq⟩
            have HN' : Hid (V = spanH ms (0 + 1) ⟨en, nu, de, qs, re⟩ t) := by rw [Hid, HN.out]; unfold spanQ; dsimp only; rw [if_neg (by rw [hq]; simp)]
            clear HN
            go_wp2_with fail
            go_roundw
            case rel => exact ⟨0 + 1, _, qs, t, by omega, by go_num, hB.below hbq, hU.below hbq, OwnNest.below hT hbq, h2, by omega, by omega, HN', hsk, fun h => absurd h (by omega), below_step hbr hbq⟩
            case measure => first | (simp [intOf]; done) | (simp [intOf]; omega)
          | true =>
            rintro e wq ⟨rfl, hbq⟩
            have HN' : Hid (V = spanH ms (0 + 1) ⟨en, nu, de, qs, re⟩ (spanPut t ((0 : Nat) : Int))) := by rw [Hid, HN.out]; unfold spanQ; dsimp only; rw [if_pos hq]
            have hUK' : Hid (∀ w', OutOf (w.heap.size + 1) wa.heap.size wq w' → IntsAt w' (.slice au qs.length ku) qs) := fun w' ho => hUK.out w' ((OutOf.of_below hbq).trans ho)
            have hbs := hbq.size
            replace hB := hB.below hbq
            replace hT := OwnNest.below hT hbq
            replace hbr := below_step hbr hbq
            have cB := hB.cells
            have hBl := hB.1
            clear HN hUK hq
            have ht22 : t.length ≤ 22 := by omega
            by_cases hp : 0 < t.length ∧ rowEnd t = ((0 : Nat) : Int) - 1
            · exact absurd hp.1 (by omega)
            · have HP : Hid (spanPut t ((0 : Nat) : Int) = t ++ [[((0 : Nat) : Int), ((0 : Nat) : Int)]]) := by rw [Hid, spanPut, if_neg hp]
              have hR2 := h2.put ((0 : Nat) : Int)
              rw [HP.out] at hR2
              have HN2 : Hid (V = spanH ms (0 + 1) ⟨en, nu, de, qs, re⟩ (t ++ [[((0 : Nat) : Int), ((0 : Nat) : Int)]])) := by rw [Hid, HN'.out, HP.out]
              clear HN' HP
              have HU6 : Hid (∀ w', (wq.alloc (.cells #[.int .i64 ((0 : Nat) : Int), .int .i64 ((0 : Nat) : Int)] 3)).grownBy w' (Value.slice at0 t.length kt).ownBlock → IntsAt w' (.slice au qs.length ku) qs) := fun w' hg => hUK'.out w' ((OutOf.of_below (alQ _ _)).trans (OutOf.of_grown hg (fun b hb => ⟨(hvN b hb).1, (hvN b hb).2⟩)))
              have hlitK := own_litL wq 3 [((0 : Nat) : Int), ((0 : Nat) : Int)] (by simp)
              have hbB : w.heap.size + 1 ≤ wq.heap.size := hBl
              have hw5 : IntKind.i64.wrap (((0 : Nat) : Int) - 1) = ((0 : Nat) : Int) - 1 := IntWalk.i64_in _ (by omega)
              by_cases h0 : 0 < t.length
              · exact absurd h0 (by omega)
              · have ht0 : t.length = 0 := by omega
                have hw6 : ¬ (0 : Int) < (t.length : Int) := by omega
                have hw8 : decide ((0 : Int) < (t.length : Int)) = false := decide_eq_false hw6
                have HT0 := Lib.hid ht0
                clear hp ht0 h0
                go_wp2_with (at_builtin; refine wpList_push_nest0 (f := tcell) (ord := id) (size := 1) rfl (.tmp 95) (.tmp 99) _ rfl (fun _ _ => rfl) (w.heap.size + 1) 22 3 _ _ 24 ints_info Tryd.underlying36 rfl (by omega) (by omega) _ t _ [((0 : Nat) : Int), ((0 : Nat) : Int)] _ rfl wq hT (alQ _ _) hlitK rfl (by simp [tcell, Value.oneCell']) (by simp [Act.eval, Act.put]) hbB (by omega) ?_; intro v' w' k1 k4 k2 k3)
                go_roundw
                case rel => exact ⟨0 + 1, _, qs, t ++ [[((0 : Nat) : Int), ((0 : Nat) : Int)]], by omega, by go_num, box_keepQ (hB.below (alQ _ _)) k4 (Nat.lt_succ_self _), HU6.out _ k2, k1, hR2, by rw [List.length_append, List.length_singleton]; omega, by omega, HN2, hsk, fun h => absurd h (by omega), hbr.trans (((alQ wq _).mono (by omega)).trans (k4.mono (Nat.le_succ _)))⟩
                case measure => first | (simp [intOf]; done) | (simp [intOf]; omega)
        · obtain ⟨j, rfl⟩ : ∃ j, k = j + 1 := ⟨k - 1, by omega⟩
          have hjl : j < ms.length := by omega
          obtain ⟨_, _, _, hme, q1, q2, q3⟩ := hMr
          cases hme
          obtain ⟨bm, om, rfl, lm, csM⟩ := q3 (by omega)
          have d0 := csM.int hjl
          have HVM := Lib.hid (HV.out.trans (spanH_move hjl ⟨en, nu, de, qs, re⟩ t))
          have hqs : qs.length ≤ 1048576 := by have := sess_len hsk; omega
          obtain ⟨m, hm⟩ : ∃ m, m = ms[j] := ⟨_, rfl⟩
          rw [← hm] at d0 HVM
          obtain ⟨⟨⟨en1, nu1, de1, pr1, re1⟩, ok⟩, hMv⟩ : ∃ M, M = moveS ⟨en, nu, de, qs, re⟩ m := ⟨_, rfl⟩
          rw [← hMv] at HVM
          have HM := Lib.hid hMv
          clear hMv
          have hw1 : IntKind.i64.wrap (((j + 1 : Nat) : Int) - 1) = (j : Int) := by rw [IntWalk.i64_in _ (by omega)]; omega
          have hw0 : IntKind.i64.wrap ((j : Int) + 1 - 1) = (j : Int) := by rw [IntWalk.i64_in _ (by omega)]; omega
          have hwj : IntKind.i64.wrap (j : Int) = (j : Int) := IntWalk.i64_in _ (by omega)
          have hkq : (0 : Int) < (j : Int) + 1 := by omega
          have hj0 : (0 : Int) ≤ (j : Int) := by omega
          have hj1 : (j : Int) < (ms.length : Int) := by omega
          have hkp : (0 : Int) < ((j + 1 : Nat) : Int) := by omega
          have hvN0 := fun b (hb' : (Value.slice at0 t.length kt).ownBlock = some b) => hT.blk hb'
          clear q3 HV hk0u hM hm
          by_cases hmp : 0 < m
          · have HMC : Hid ((⟨⟨en1, nu1, de1, pr1, re1⟩, ok⟩ : DSess × Bool) = comeIn ⟨en, nu, de, qs, re⟩ m) := by rw [Hid, HM.out]; unfold moveS; rw [if_pos hmp]
            have hmpI : (0 : Int) < m := hmp
            go_upto_region 10 with fail
            go_region_law (first
              | ((refine step_call2 (by rfl) 36 (.tmp 40) (.tmp 45) _ _ (by rfl) (enters_of Tryd.func36 (by kernel_rfl) (by kernel_rfl)) (vSess en nu de (.slice au qs.length ku) re) (.int .i64 m) (by rfl) (by rfl) ?_);
                 (refine (s_ComeIn en nu de _ qs re m _ (hU.below (by first | exact Below.refl _ _ | exact Below.drew (Below.refl _ _))) hqs).mono ?_); (rw [← HMC.out]); (dsimp only); (rintro e w4 ⟨u1, rfl, ho4, hb4'⟩); (refine ⟨_, rfl, ?_⟩);
                 (have hb4 : Below wa.heap.size wa w4 := by first | exact hb4' | exact undrew hb4'); (obtain ⟨a4, k4, rfl⟩ := (OwnI.at_ ho4 : IntsAt w4 u1 pr1).form); (have B4 := hB.below hb4); (have c4 := B4.cells); (have f4 := B4.free)))
            all_goals
              obtain ⟨B5, O5⟩ := box5 (.int .i64 en1) (.int .i64 nu1) (.int .i64 de1) (.slice a4 pr1.length k4) (.int .i64 re1) B4
              have hT4 := OwnNest.below hT hb4
              have hws : w.heap.size < wa.heap.size := hB.1
              clear c4 f4 cB fB
              generalize (((((w4.setCell ⟨w.heap.size, 0, none⟩ (.int .i64 en1)).setCell ⟨w.heap.size, 1, none⟩ (.int .i64 nu1)).setCell ⟨w.heap.size, 2, none⟩ (.int .i64 de1)).setCell ⟨w.heap.size, 3, none⟩ (.slice a4 pr1.length k4)).setCell ⟨w.heap.size, 4, none⟩ (.int .i64 re1)) = wz at B5 O5 ⊢
              have hbz : Below w.heap.size w wz := below_step hbr hb4 |>.trans (O5.below (Nat.le_refl _) (by have := hb4.size; omega))
              have hs4 := hb4.size
              have cz := B5.cells
              have fz := B5.free
              cases ok with
              | false =>
                have HR : Hid (V = ([], false)) := by rw [Hid, HVM.out]; rfl
                clear HVM HM HMC
                go_wp2_with fail
                go_ret2
                rw [HR.out]
                exact ⟨_, rfl, OwnNest.base (OwnNest.lit _ _ wz) hbz.size, hbz.alloc hbz.size _⟩
              | true =>
                obtain ⟨e1, e2, e3, e4, _⟩ := moveS_ok HM.out
                have hsk1 := moveS_valid HM.out
                dsimp only at e1 e2 e3 e4 hsk1
                have e1' := e1.symm; have e2' := e2.symm; have e3' := e3.symm; have e4' := e4.symm
                clear e1 e2 e3 e4
                subst e1' e2' e3' e4'
                obtain ⟨k, hk⟩ : ∃ k, k = j + 1 := ⟨_, rfl⟩
                have hki : (j : Int) + 1 = (k : Int) := by omega
                have hkl' : k ≤ ms.length := by omega
                have hk1 : 1 ≤ k := by omega
                have htl' : t.length ≤ k := by omega
                have HF : Hid (V = spanF (ms.drop k) ((k : Nat) : Int) ⟨en, nu, de, pr1, re⟩ t) := by rw [Hid, HVM.out, hki, hk]; rfl
                have hoz : OwnInts wz wa.heap.size (.slice a4 pr1.length k4) pr1 := own_outQ ho4 O5 (by omega)
                have hTz := tab_outQ hT4 O5 (Nat.lt_succ_self _)
                have hUK : Hid (∀ w', OutOf (w.heap.size + 1) wa.heap.size wz w' → IntsAt w' (.slice a4 pr1.length k4) pr1) := fun w' ho => OwnI.at_ (own_outQ hoz ho)
                have hUz : IntsAt wz (.slice a4 pr1.length k4) pr1 := OwnI.at_ hoz
                have hp30 := sess_len hsk1
                have hkIz : (k : Int) ≤ (ms.length : Int) := by omega
                simp only [hki]
                have HK := Lib.hid hk
                clear HVM HM HMC hkI hw0 hw1 hwj hkp hkq hj0 hj1 hmp hmpI d0 csM lm hB hU hT hT4 hsk htl hql hqs hbr hb4 hb4' B4 O5 ho4 hoz q1 q2 hkl hki hk hjl hws hs4 cz fz
                have hB := B5; have hT := hTz; have hU := hUz; have hsk := hsk1; have htl := htl'; have hbr := hbz; have hvN := hvN0; have hkl := hkl'; have hkI := hkIz
                clear B5 hTz hUz hsk1 htl' hbz hvN0 hkl' hkIz
                have cB := hB.cells
                have fB := hB.free
                have HN : Hid (V = spanH ms (k + 1) ⟨en, nu, de, pr1, re⟩ (spanQ ⟨en, nu, de, pr1, re⟩ t ((k : Nat) : Int))) := by rw [Hid, HF.out, spanF_next (by omega)]
                clear HF
                go_wp2_with fail
                refine (s_l16Quorum en nu de _ pr1 re _ hU hsk).mono ?_
                cases hq : quorumB en nu de pr1 with
                | false =>
                  rintro e wq ⟨rfl, hbq⟩
                  have HN' : Hid (V = spanH ms (k + 1) ⟨en, nu, de, pr1, re⟩ t) := by rw [Hid, HN.out]; unfold spanQ; dsimp only; rw [if_neg (by rw [hq]; simp)]
                  clear HN
                  go_wp2_with fail
                  go_roundw
                  case rel => exact ⟨k + 1, _, pr1, t, by omega, by go_num, hB.below hbq, hU.below hbq, OwnNest.below hT hbq, h2, by omega, by omega, HN', hsk, fun h => absurd h (by omega), below_step hbr hbq⟩
                  case measure => have hkk := HK.out; first | (simp [intOf]; done) | (simp [intOf]; omega)
                | true =>
                  rintro e wq ⟨rfl, hbq⟩
                  have HN' : Hid (V = spanH ms (k + 1) ⟨en, nu, de, pr1, re⟩ (spanPut t ((k : Nat) : Int))) := by rw [Hid, HN.out]; unfold spanQ; dsimp only; rw [if_pos hq]
                  have hUK' : Hid (∀ w', OutOf (w.heap.size + 1) wa.heap.size wq w' → IntsAt w' (.slice a4 pr1.length k4) pr1) := fun w' ho => hUK.out w' ((OutOf.of_below hbq).trans ho)
                  have hbs := hbq.size
                  replace hB := hB.below hbq
                  replace hT := OwnNest.below hT hbq
                  replace hbr := below_step hbr hbq
                  have cB := hB.cells
                  have hBl := hB.1
                  clear HN hUK hq
                  have ht22 : t.length ≤ 22 := by omega
                  by_cases hp : 0 < t.length ∧ rowEnd t = ((k : Nat) : Int) - 1
                  · obtain ⟨hp0, hp1⟩ := hp
                    have HP : Hid (spanPut t ((k : Nat) : Int) = t.set (t.length - 1) [rowBeg t, ((k : Nat) : Int)]) := by rw [Hid, spanPut, if_pos ⟨hp0, hp1⟩]
                    obtain ⟨g, c, gi, oi, ci, hve, hgB, hgs, hgf, e1, lg, d0, d1⟩ := tab_last hT h2 hp0
                    cases hve
                    have hgN := (hvN g rfl).2
                    rw [hp1] at d1
                    have hS := OwnNest.put1 (f := tcell) (ord := id) (size := 1) (fun _ _ => rfl) hT (alQ wq (.cells (ints [rowBeg t, ((k : Nat) : Int)]).toArray 3)) (k := t.length - 1) (by omega) (j := 0) (by omega) (u := .slice (some ⟨wq.heap.size, 0, none⟩) 2 2) (y := .slice (some ⟨wq.heap.size, 0, none⟩) 2 2) (x := [rowBeg t, ((k : Nat) : Int)]) (fun u0 => rfl) (own_litL wq 3 [rowBeg t, ((k : Nat) : Int)] (by simp)) (by omega)
                    rw [Nat.mul_one, Nat.add_zero, World.setCell_alloc_past _ _ _ _ hgs] at hS
                    have HS := Lib.hid hS; clear hS
                    have f1 := hgf (t.length - 1)
                    have hR2 := h2.put ((k : Nat) : Int)
                    rw [HP.out] at hR2
                    have HN2 : Hid (V = spanH ms (k + 1) ⟨en, nu, de, pr1, re⟩ (t.set (t.length - 1) [rowBeg t, ((k : Nat) : Int)])) := by rw [Hid, HN'.out, HP.out]
                    clear HN' HP hgf hp1 h2
                    generalize rowBeg t = rb at *
                    have hw1 : IntKind.i64.wrap ((t.length : Int) - 1) = (t.length : Int) - 1 := IntWalk.i64_in _ (by omega)
                    have hw2 : ((t.length : Int) - 1).toNat = t.length - 1 := by omega
                    have hw3 : (0 : Int) ≤ (t.length : Int) - 1 := by omega
                    have hw4 : (t.length : Int) - 1 < (t.length : Int) := by omega
                    have hw5 : IntKind.i64.wrap (((k : Nat) : Int) - 1) = ((k : Nat) : Int) - 1 := IntWalk.i64_in _ (by omega)
                    have hw6 : (0 : Int) < (t.length : Int) := by omega
                    have hw7 : (1 : Int) ≤ (t.length : Int) := by omega
                    go_wp2_with fail
                    go_roundw
                    case rel =>
                      have hb6 := ((alQ wq (.cells (ints [rb, ((k : Nat) : Int)]).toArray 3)).mono (show w.heap.size + 1 ≤ wq.heap.size by omega)).setCell (p := ⟨g, t.length - 1, none⟩) hgB (.slice (some ⟨wq.heap.size, 0, none⟩) 2 2)
                      rw [World.setCell_alloc_past _ _ _ _ hgs] at hb6
                      have hu6 := hUK'.out _ ((OutOf.of_below (alQ wq (.cells (ints [rb, ((k : Nat) : Int)]).toArray 3))).setIn (b := g) (i := t.length - 1) hgB hgN (.slice (some ⟨wq.heap.size, 0, none⟩) 2 2))
                      rw [World.setCell_alloc_past _ _ _ _ hgs] at hu6
                      exact ⟨k + 1, _, pr1, t.set (t.length - 1) [rb, ((k : Nat) : Int)], by omega, by go_num, box_keepQ hB hb6 (Nat.lt_succ_self _), hu6, HS.out.1, hR2, by rw [List.length_set]; omega, by omega, HN2, hsk, fun h => absurd h (by omega), hbr.trans (hb6.mono (Nat.le_succ _))⟩
                    case measure => have hkk := HK.out; first | (simp [intOf]; done) | (simp [intOf]; omega)
                  · have HP : Hid (spanPut t ((k : Nat) : Int) = t ++ [[((k : Nat) : Int), ((k : Nat) : Int)]]) := by rw [Hid, spanPut, if_neg hp]
                    have hR2 := h2.put ((k : Nat) : Int)
                    rw [HP.out] at hR2
                    have HN2 : Hid (V = spanH ms (k + 1) ⟨en, nu, de, pr1, re⟩ (t ++ [[((k : Nat) : Int), ((k : Nat) : Int)]])) := by rw [Hid, HN'.out, HP.out]
                    clear HN' HP
                    have HU6 : Hid (∀ w', (wq.alloc (.cells #[.int .i64 ((k : Nat) : Int), .int .i64 ((k : Nat) : Int)] 3)).grownBy w' (Value.slice at0 t.length kt).ownBlock → IntsAt w' (.slice a4 pr1.length k4) pr1) := fun w' hg => hUK'.out w' ((OutOf.of_below (alQ _ _)).trans (OutOf.of_grown hg (fun b hb => ⟨(hvN b hb).1, (hvN b hb).2⟩)))
                    have hlitK := own_litL wq 3 [((k : Nat) : Int), ((k : Nat) : Int)] (by simp)
                    have hbB : w.heap.size + 1 ≤ wq.heap.size := hBl
                    have hw5 : IntKind.i64.wrap (((k : Nat) : Int) - 1) = ((k : Nat) : Int) - 1 := IntWalk.i64_in _ (by omega)
                    by_cases h0 : 0 < t.length
                    · obtain ⟨g, c, gi, oi, ci, hve, hgB, hgs, hgf, e1, lg, d0, d1⟩ := tab_last hT h2 h0
                      cases hve
                      have hne : (rowEnd t == ((k : Nat) : Int) - 1) = false := by rw [beq_eq_false_iff_ne]; exact fun e => hp ⟨h0, e⟩
                      have hw1 : IntKind.i64.wrap ((t.length : Int) - 1) = (t.length : Int) - 1 := IntWalk.i64_in _ (by omega)
                      have hw2 : ((t.length : Int) - 1).toNat = t.length - 1 := by omega
                      have hw3 : (0 : Int) ≤ (t.length : Int) - 1 := by omega
                      have hw4 : (t.length : Int) - 1 < (t.length : Int) := by omega
                      have hw6 : (0 : Int) < (t.length : Int) := by omega
                      have hw7 : (1 : Int) ≤ (t.length : Int) := by omega
                      clear hp hgf d0
                      go_wp2_with (at_builtin; refine wpList_push_nest0 (f := tcell) (ord := id) (size := 1) rfl (.tmp 95) (.tmp 99) _ rfl (fun _ _ => rfl) (w.heap.size + 1) 22 3 _ _ 24 ints_info Tryd.underlying36 rfl (by omega) (by omega) _ t _ [((k : Nat) : Int), ((k : Nat) : Int)] _ rfl wq hT (alQ _ _) hlitK rfl (by simp [tcell, Value.oneCell']) (by simp [Act.eval, Act.put]) hbB (by omega) ?_; intro v' w' k1 k4 k2 k3)
                      go_roundw
                      case rel => exact ⟨k + 1, _, pr1, t ++ [[((k : Nat) : Int), ((k : Nat) : Int)]], by omega, by go_num, box_keepQ (hB.below (alQ _ _)) k4 (Nat.lt_succ_self _), HU6.out _ k2, k1, hR2, by rw [List.length_append, List.length_singleton]; omega, by omega, HN2, hsk, fun h => absurd h (by omega), hbr.trans (((alQ wq _).mono (by omega)).trans (k4.mono (Nat.le_succ _)))⟩
                      case measure => have hkk := HK.out; first | (simp [intOf]; done) | (simp [intOf]; omega)
                    · have ht0 : t.length = 0 := by omega
                      have hw6 : ¬ (0 : Int) < (t.length : Int) := by omega
                      have hw8 : decide ((0 : Int) < (t.length : Int)) = false := decide_eq_false hw6
                      have HT0 := Lib.hid ht0
                      clear hp ht0 h0
                      go_wp2_with (at_builtin; refine wpList_push_nest0 (f := tcell) (ord := id) (size := 1) rfl (.tmp 95) (.tmp 99) _ rfl (fun _ _ => rfl) (w.heap.size + 1) 22 3 _ _ 24 ints_info Tryd.underlying36 rfl (by omega) (by omega) _ t _ [((k : Nat) : Int), ((k : Nat) : Int)] _ rfl wq hT (alQ _ _) hlitK rfl (by simp [tcell, Value.oneCell']) (by simp [Act.eval, Act.put]) hbB (by omega) ?_; intro v' w' k1 k4 k2 k3)
                      go_roundw
                      case rel => exact ⟨k + 1, _, pr1, t ++ [[((k : Nat) : Int), ((k : Nat) : Int)]], by omega, by go_num, box_keepQ (hB.below (alQ _ _)) k4 (Nat.lt_succ_self _), HU6.out _ k2, k1, hR2, by rw [List.length_append, List.length_singleton]; omega, by omega, HN2, hsk, fun h => absurd h (by omega), hbr.trans (((alQ wq _).mono (by omega)).trans (k4.mono (Nat.le_succ _)))⟩
                      case measure => have hkk := HK.out; first | (simp [intOf]; done) | (simp [intOf]; omega)

          · have HMC : Hid ((⟨⟨en1, nu1, de1, pr1, re1⟩, ok⟩ : DSess × Bool) = goOut ⟨en, nu, de, qs, re⟩ (IntKind.i64.wrap (-m))) := by rw [Hid, HM.out]; unfold moveS; rw [if_neg hmp]
            have hmpI : ¬ (0 : Int) < m := hmp
            go_upto_region 11 with fail
            go_region_law (first
              | ((refine step_call2 (by rfl) 37 (.tmp 50) (.tmp 56) _ _ (by rfl) (enters_of Tryd.func37 (by kernel_rfl) (by kernel_rfl)) (vSess en nu de (.slice au qs.length ku) re) (.int .i64 (IntKind.i64.wrap (-m))) (by rfl) (by rfl) ?_);
                 (refine (s_GoOut en nu de _ qs re (IntKind.i64.wrap (-m)) _ (hU.below (by first | exact Below.refl _ _ | exact Below.drew (Below.refl _ _))) hqs).mono ?_); (rw [← HMC.out]); (dsimp only); (rintro e w4 ⟨u1, rfl, ho4, hb4'⟩); (refine ⟨_, rfl, ?_⟩);
                 (have hb4 : Below wa.heap.size wa w4 := by first | exact hb4' | exact undrew hb4'); (obtain ⟨a4, k4, rfl⟩ := (OwnI.at_ ho4 : IntsAt w4 u1 pr1).form); (have B4 := hB.below hb4); (have c4 := B4.cells); (have f4 := B4.free)))
            all_goals
              obtain ⟨B5, O5⟩ := box5 (.int .i64 en1) (.int .i64 nu1) (.int .i64 de1) (.slice a4 pr1.length k4) (.int .i64 re1) B4
              have hT4 := OwnNest.below hT hb4
              have hws : w.heap.size < wa.heap.size := hB.1
              clear c4 f4 cB fB
              generalize (((((w4.setCell ⟨w.heap.size, 0, none⟩ (.int .i64 en1)).setCell ⟨w.heap.size, 1, none⟩ (.int .i64 nu1)).setCell ⟨w.heap.size, 2, none⟩ (.int .i64 de1)).setCell ⟨w.heap.size, 3, none⟩ (.slice a4 pr1.length k4)).setCell ⟨w.heap.size, 4, none⟩ (.int .i64 re1)) = wz at B5 O5 ⊢
              have hbz : Below w.heap.size w wz := below_step hbr hb4 |>.trans (O5.below (Nat.le_refl _) (by have := hb4.size; omega))
              have hs4 := hb4.size
              have cz := B5.cells
              have fz := B5.free
              cases ok with
              | false =>
                have HR : Hid (V = ([], false)) := by rw [Hid, HVM.out]; rfl
                clear HVM HM HMC
                go_wp2_with fail
                go_ret2
                rw [HR.out]
                exact ⟨_, rfl, OwnNest.base (OwnNest.lit _ _ wz) hbz.size, hbz.alloc hbz.size _⟩
              | true =>
                obtain ⟨e1, e2, e3, e4, _⟩ := moveS_ok HM.out
                have hsk1 := moveS_valid HM.out
                dsimp only at e1 e2 e3 e4 hsk1
                have e1' := e1.symm; have e2' := e2.symm; have e3' := e3.symm; have e4' := e4.symm
                clear e1 e2 e3 e4
                subst e1' e2' e3' e4'
                obtain ⟨k, hk⟩ : ∃ k, k = j + 1 := ⟨_, rfl⟩
                have hki : (j : Int) + 1 = (k : Int) := by omega
                have hkl' : k ≤ ms.length := by omega
                have hk1 : 1 ≤ k := by omega
                have htl' : t.length ≤ k := by omega
                have HF : Hid (V = spanF (ms.drop k) ((k : Nat) : Int) ⟨en, nu, de, pr1, re⟩ t) := by rw [Hid, HVM.out, hki, hk]; rfl
                have hoz : OwnInts wz wa.heap.size (.slice a4 pr1.length k4) pr1 := own_outQ ho4 O5 (by omega)
                have hTz := tab_outQ hT4 O5 (Nat.lt_succ_self _)
                have hUK : Hid (∀ w', OutOf (w.heap.size + 1) wa.heap.size wz w' → IntsAt w' (.slice a4 pr1.length k4) pr1) := fun w' ho => OwnI.at_ (own_outQ hoz ho)
                have hUz : IntsAt wz (.slice a4 pr1.length k4) pr1 := OwnI.at_ hoz
                have hp30 := sess_len hsk1
                have hkIz : (k : Int) ≤ (ms.length : Int) := by omega
                simp only [hki]
                have HK := Lib.hid hk
                clear HVM HM HMC hkI hw0 hw1 hwj hkp hkq hj0 hj1 hmp hmpI d0 csM lm hB hU hT hT4 hsk htl hql hqs hbr hb4 hb4' B4 O5 ho4 hoz q1 q2 hkl hki hk hjl hws hs4 cz fz
                have hB := B5; have hT := hTz; have hU := hUz; have hsk := hsk1; have htl := htl'; have hbr := hbz; have hvN := hvN0; have hkl := hkl'; have hkI := hkIz
                clear B5 hTz hUz hsk1 htl' hbz hvN0 hkl' hkIz
                have cB := hB.cells
                have fB := hB.free
                have HN : Hid (V = spanH ms (k + 1) ⟨en, nu, de, pr1, re⟩ (spanQ ⟨en, nu, de, pr1, re⟩ t ((k : Nat) : Int))) := by rw [Hid, HF.out, spanF_next (by omega)]
                clear HF
                go_wp2_with fail
                refine (s_l16Quorum en nu de _ pr1 re _ hU hsk).mono ?_
                cases hq : quorumB en nu de pr1 with
                | false =>
                  rintro e wq ⟨rfl, hbq⟩
                  have HN' : Hid (V = spanH ms (k + 1) ⟨en, nu, de, pr1, re⟩ t) := by rw [Hid, HN.out]; unfold spanQ; dsimp only; rw [if_neg (by rw [hq]; simp)]
                  clear HN
                  go_wp2_with fail
                  go_roundw
                  case rel => exact ⟨k + 1, _, pr1, t, by omega, by go_num, hB.below hbq, hU.below hbq, OwnNest.below hT hbq, h2, by omega, by omega, HN', hsk, fun h => absurd h (by omega), below_step hbr hbq⟩
                  case measure => have hkk := HK.out; first | (simp [intOf]; done) | (simp [intOf]; omega)
                | true =>
                  rintro e wq ⟨rfl, hbq⟩
                  have HN' : Hid (V = spanH ms (k + 1) ⟨en, nu, de, pr1, re⟩ (spanPut t ((k : Nat) : Int))) := by rw [Hid, HN.out]; unfold spanQ; dsimp only; rw [if_pos hq]
                  have hUK' : Hid (∀ w', OutOf (w.heap.size + 1) wa.heap.size wq w' → IntsAt w' (.slice a4 pr1.length k4) pr1) := fun w' ho => hUK.out w' ((OutOf.of_below hbq).trans ho)
                  have hbs := hbq.size
                  replace hB := hB.below hbq
                  replace hT := OwnNest.below hT hbq
                  replace hbr := below_step hbr hbq
                  have cB := hB.cells
                  have hBl := hB.1
                  clear HN hUK hq
                  have ht22 : t.length ≤ 22 := by omega
                  by_cases hp : 0 < t.length ∧ rowEnd t = ((k : Nat) : Int) - 1
                  · obtain ⟨hp0, hp1⟩ := hp
                    have HP : Hid (spanPut t ((k : Nat) : Int) = t.set (t.length - 1) [rowBeg t, ((k : Nat) : Int)]) := by rw [Hid, spanPut, if_pos ⟨hp0, hp1⟩]
                    obtain ⟨g, c, gi, oi, ci, hve, hgB, hgs, hgf, e1, lg, d0, d1⟩ := tab_last hT h2 hp0
                    cases hve
                    have hgN := (hvN g rfl).2
                    rw [hp1] at d1
                    have hS := OwnNest.put1 (f := tcell) (ord := id) (size := 1) (fun _ _ => rfl) hT (alQ wq (.cells (ints [rowBeg t, ((k : Nat) : Int)]).toArray 3)) (k := t.length - 1) (by omega) (j := 0) (by omega) (u := .slice (some ⟨wq.heap.size, 0, none⟩) 2 2) (y := .slice (some ⟨wq.heap.size, 0, none⟩) 2 2) (x := [rowBeg t, ((k : Nat) : Int)]) (fun u0 => rfl) (own_litL wq 3 [rowBeg t, ((k : Nat) : Int)] (by simp)) (by omega)
                    rw [Nat.mul_one, Nat.add_zero, World.setCell_alloc_past _ _ _ _ hgs] at hS
                    have HS := Lib.hid hS; clear hS
                    have f1 := hgf (t.length - 1)
                    have hR2 := h2.put ((k : Nat) : Int)
                    rw [HP.out] at hR2
                    have HN2 : Hid (V = spanH ms (k + 1) ⟨en, nu, de, pr1, re⟩ (t.set (t.length - 1) [rowBeg t, ((k : Nat) : Int)])) := by rw [Hid, HN'.out, HP.out]
                    clear HN' HP hgf hp1 h2
                    generalize rowBeg t = rb at *
                    have hw1 : IntKind.i64.wrap ((t.length : Int) - 1) = (t.length : Int) - 1 := IntWalk.i64_in _ (by omega)
                    have hw2 : ((t.length : Int) - 1).toNat = t.length - 1 := by omega
                    have hw3 : (0 : Int) ≤ (t.length : Int) - 1 := by omega
                    have hw4 : (t.length : Int) - 1 < (t.length : Int) := by omega
                    have hw5 : IntKind.i64.wrap (((k : Nat) : Int) - 1) = ((k : Nat) : Int) - 1 := IntWalk.i64_in _ (by omega)
                    have hw6 : (0 : Int) < (t.length : Int) := by omega
                    have hw7 : (1 : Int) ≤ (t.length : Int) := by omega
                    go_wp2_with fail
                    go_roundw
                    case rel =>
                      have hb6 := ((alQ wq (.cells (ints [rb, ((k : Nat) : Int)]).toArray 3)).mono (show w.heap.size + 1 ≤ wq.heap.size by omega)).setCell (p := ⟨g, t.length - 1, none⟩) hgB (.slice (some ⟨wq.heap.size, 0, none⟩) 2 2)
                      rw [World.setCell_alloc_past _ _ _ _ hgs] at hb6
                      have hu6 := hUK'.out _ ((OutOf.of_below (alQ wq (.cells (ints [rb, ((k : Nat) : Int)]).toArray 3))).setIn (b := g) (i := t.length - 1) hgB hgN (.slice (some ⟨wq.heap.size, 0, none⟩) 2 2))
                      rw [World.setCell_alloc_past _ _ _ _ hgs] at hu6
                      exact ⟨k + 1, _, pr1, t.set (t.length - 1) [rb, ((k : Nat) : Int)], by omega, by go_num, box_keepQ hB hb6 (Nat.lt_succ_self _), hu6, HS.out.1, hR2, by rw [List.length_set]; omega, by omega, HN2, hsk, fun h => absurd h (by omega), hbr.trans (hb6.mono (Nat.le_succ _))⟩
                    case measure => have hkk := HK.out; first | (simp [intOf]; done) | (simp [intOf]; omega)
                  · have HP : Hid (spanPut t ((k : Nat) : Int) = t ++ [[((k : Nat) : Int), ((k : Nat) : Int)]]) := by rw [Hid, spanPut, if_neg hp]
                    have hR2 := h2.put ((k : Nat) : Int)
                    rw [HP.out] at hR2
                    have HN2 : Hid (V = spanH ms (k + 1) ⟨en, nu, de, pr1, re⟩ (t ++ [[((k : Nat) : Int), ((k : Nat) : Int)]])) := by rw [Hid, HN'.out, HP.out]
                    clear HN' HP
                    have HU6 : Hid (∀ w', (wq.alloc (.cells #[.int .i64 ((k : Nat) : Int), .int .i64 ((k : Nat) : Int)] 3)).grownBy w' (Value.slice at0 t.length kt).ownBlock → IntsAt w' (.slice a4 pr1.length k4) pr1) := fun w' hg => hUK'.out w' ((OutOf.of_below (alQ _ _)).trans (OutOf.of_grown hg (fun b hb => ⟨(hvN b hb).1, (hvN b hb).2⟩)))
                    have hlitK := own_litL wq 3 [((k : Nat) : Int), ((k : Nat) : Int)] (by simp)
                    have hbB : w.heap.size + 1 ≤ wq.heap.size := hBl
                    have hw5 : IntKind.i64.wrap (((k : Nat) : Int) - 1) = ((k : Nat) : Int) - 1 := IntWalk.i64_in _ (by omega)
                    by_cases h0 : 0 < t.length
                    · obtain ⟨g, c, gi, oi, ci, hve, hgB, hgs, hgf, e1, lg, d0, d1⟩ := tab_last hT h2 h0
                      cases hve
                      have hne : (rowEnd t == ((k : Nat) : Int) - 1) = false := by rw [beq_eq_false_iff_ne]; exact fun e => hp ⟨h0, e⟩
                      have hw1 : IntKind.i64.wrap ((t.length : Int) - 1) = (t.length : Int) - 1 := IntWalk.i64_in _ (by omega)
                      have hw2 : ((t.length : Int) - 1).toNat = t.length - 1 := by omega
                      have hw3 : (0 : Int) ≤ (t.length : Int) - 1 := by omega
                      have hw4 : (t.length : Int) - 1 < (t.length : Int) := by omega
                      have hw6 : (0 : Int) < (t.length : Int) := by omega
                      have hw7 : (1 : Int) ≤ (t.length : Int) := by omega
                      clear hp hgf d0
                      go_wp2_with (at_builtin; refine wpList_push_nest0 (f := tcell) (ord := id) (size := 1) rfl (.tmp 95) (.tmp 99) _ rfl (fun _ _ => rfl) (w.heap.size + 1) 22 3 _ _ 24 ints_info Tryd.underlying36 rfl (by omega) (by omega) _ t _ [((k : Nat) : Int), ((k : Nat) : Int)] _ rfl wq hT (alQ _ _) hlitK rfl (by simp [tcell, Value.oneCell']) (by simp [Act.eval, Act.put]) hbB (by omega) ?_; intro v' w' k1 k4 k2 k3)
                      go_roundw
                      case rel => exact ⟨k + 1, _, pr1, t ++ [[((k : Nat) : Int), ((k : Nat) : Int)]], by omega, by go_num, box_keepQ (hB.below (alQ _ _)) k4 (Nat.lt_succ_self _), HU6.out _ k2, k1, hR2, by rw [List.length_append, List.length_singleton]; omega, by omega, HN2, hsk, fun h => absurd h (by omega), hbr.trans (((alQ wq _).mono (by omega)).trans (k4.mono (Nat.le_succ _)))⟩
                      case measure => have hkk := HK.out; first | (simp [intOf]; done) | (simp [intOf]; omega)
                    · have ht0 : t.length = 0 := by omega
                      have hw6 : ¬ (0 : Int) < (t.length : Int) := by omega
                      have hw8 : decide ((0 : Int) < (t.length : Int)) = false := decide_eq_false hw6
                      have HT0 := Lib.hid ht0
                      clear hp ht0 h0
                      go_wp2_with (at_builtin; refine wpList_push_nest0 (f := tcell) (ord := id) (size := 1) rfl (.tmp 95) (.tmp 99) _ rfl (fun _ _ => rfl) (w.heap.size + 1) 22 3 _ _ 24 ints_info Tryd.underlying36 rfl (by omega) (by omega) _ t _ [((k : Nat) : Int), ((k : Nat) : Int)] _ rfl wq hT (alQ _ _) hlitK rfl (by simp [tcell, Value.oneCell']) (by simp [Act.eval, Act.put]) hbB (by omega) ?_; intro v' w' k1 k4 k2 k3)
                      go_roundw
                      case rel => exact ⟨k + 1, _, pr1, t ++ [[((k : Nat) : Int), ((k : Nat) : Int)]], by omega, by go_num, box_keepQ (hB.below (alQ _ _)) k4 (Nat.lt_succ_self _), HU6.out _ k2, k1, hR2, by rw [List.length_append, List.length_singleton]; omega, by omega, HN2, hsk, fun h => absurd h (by omega), hbr.trans (((alQ wq _).mono (by omega)).trans (k4.mono (Nat.le_succ _)))⟩
                      case measure => have hkk := HK.out; first | (simp [intOf]; done) | (simp [intOf]; omega)


end Go.Proofs.YtjijcjcfefkpbaaDoor
