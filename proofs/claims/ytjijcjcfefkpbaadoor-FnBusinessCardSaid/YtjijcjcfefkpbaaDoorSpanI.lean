/- Contract: impl.BusinessSpans. No conditions beyond sizes. -/
import Derived.Test.YtjijcjcfefkpbaaDoorSpanS
import Derived.Deep.CutRange
namespace Go.Proofs.YtjijcjcfefkpbaaDoor
open Go.RowKit
set_option linter.unusedVariables false
set_option linter.unusedSimpArgs false

/-- The last row of a table whose blocks lie from lo to hi: so does the row's. -/
theorem tabR_last {w : World} {lo hi : Nat} {v : Value} {t : List (List Int)} (h : OwnTR w lo hi v t) (h0 : 0 < t.length) : ∃ g c u, v = .slice (some ⟨g, 0, none⟩) t.length c ∧ g < hi ∧ w.cell? ⟨g, t.length - 1, none⟩ = some u ∧ ∀ b, u.ownBlock = some b → lo ≤ b ∧ b < hi := by
  obtain ⟨us, h1, h2, h3, _⟩ := h
  have hk : t.length - 1 < us.length := by omega
  rcases h2.1.2 with ⟨_, hn⟩ | ⟨g, c, cur, hv, hB, hh, _⟩
  · omega
  · have hrow := h2.1
    rw [hv] at hrow
    refine ⟨g, c, us[t.length - 1], hv, h2.2.1 g (by rw [hv]; rfl), ?_, fun b hb => ?_⟩
    · have hz : ncs tcell (us.zip t) = us := ncs_tzip h1
      rw [hz] at hrow
      have := hrow.cellAt (t.length - 1) (by omega)
      rw [this, List.getElem?_eq_getElem hk]
    · have hi3 := h3.2 (t.length - 1) hk (by simp; omega)
      exact ⟨(hi3.1.lt b hb).1, hi3.2.1 b hb⟩

/-- The last row's second number is written where it lies. -/
theorem tab_end {w : World} {B : Nat} {v : Value} {t : List (List Int)} (h : OwnTab w B v t) (h2 : Rows2 t) (h0 : 0 < t.length) :
    ∃ g c gi ci, v = .slice (some ⟨g, 0, none⟩) t.length c ∧ w.cell? ⟨g, t.length - 1, none⟩ = some (.slice (some ⟨gi, 0, none⟩) 2 ci) ∧ gi < w.heap.size ∧ B ≤ gi ∧ w.cell? ⟨gi, 1, none⟩ = some (.int .i64 (rowEnd t)) ∧ w.frozen? ⟨gi, 1, none⟩ = false ∧
      ∀ y : Int, OwnTab (w.setCell ⟨gi, 1, none⟩ (.int .i64 y)) B v (t.set (t.length - 1) [rowBeg t, y]) := by
  obtain ⟨g, c, gi0, oi0, ci0, hv, _, _, _, e1, lg, d0, d1⟩ := tab_last h h2 h0
  have hk : t.length - 1 < t.length := by omega
  obtain ⟨u, hu, ⟨g', c', he, _, hc⟩, hnx⟩ := OwnNest.inner (f := tcell) (fun _ _ => rfl) h hk
  have e2 : w.cell? ⟨g', (t.length - 1) * 1 + 0, none⟩ = some u := hc 0 (Nat.lt_succ_self 0)
  rw [Nat.mul_one, Nat.add_zero] at e2
  have hgg : g' = g := by rw [hv] at he; injection he with e3 _ _; injection e3 with e3; injection e3 with e3 _ _; exact e3.symm
  rw [hgg, e1] at e2
  have hue := Option.some.inj e2
  have hr2 := h2 _ (List.getElem_mem hk)
  have hu' : w.ownsRow B 3 1 u t[t.length - 1].length (ints t[t.length - 1]) := hu
  rw [← hue, hr2] at hu'
  rcases hu'.2 with ⟨hn, _⟩ | ⟨b, cp, cur, hvv, hbB, hh, _⟩
  · cases hn
  · injection hvv with e4 _ e5
    injection e4 with e4
    injection e4 with e6 e7 _
    subst e6 e7 e5
    refine ⟨g, c, gi0, ci0, hv, e1, lg, hbB, d1, hu'.frozenAt 1, fun y => ?_⟩
    have hst := hu'.stored 1 (.int .i64 y)
    have hd : t.getD (t.length - 1) [] = t[t.length - 1] := by rw [List.getD_eq_getElem?_getD, List.getElem?_eq_getElem hk]; rfl
    have hrow : (ints t[t.length - 1]).set 1 (.int .i64 y) = ints [rowBeg t, y] := by
      unfold rowBeg
      rw [hd]
      generalize t[t.length - 1] = r at hr2
      match r, hr2 with
      | [a, b'], _ => rfl
    rw [hrow] at hst
    refine hnx _ [rowBeg t, y] (by rw [← hue]; exact hst.2) ?_ rfl
    rw [← hue]
    exact hst.1

/-- A table within bounds is the call's own. -/
theorem tabR_nest {w : World} {lo hi : Nat} {v : Value} {t : List (List Int)} (h : OwnTR w lo hi v t) : OwnTab w lo v t := by
  obtain ⟨us, h1, h2, h3, h4, h5⟩ := h
  have hl : (us.zip t).length = t.length := by simp [h1]
  have hf : (us.zip t).map Prod.fst = us := List.map_fst_zip (by omega)
  refine ⟨us.zip t, List.map_snd_zip (by omega), by rw [hl]; exact h2.1, fun p hp => ?_, ?_, fun p hp => ?_⟩
  · obtain ⟨i, hi', rfl⟩ := List.mem_iff_getElem.1 hp
    rw [hl] at hi'
    have := (h3.2 i (by omega) (by simpa using hi')).1
    simpa [OwnI] using this
  · have h6 : ((us.zip t).map Prod.fst).Pairwise (fun a b => a.ownBlock = none ∨ a.ownBlock ≠ b.ownBlock) := by rw [hf]; exact h4
    exact List.pairwise_map.1 h6
  · exact h5 _ (by rw [← hf]; exact List.mem_map_of_mem hp)
/-- A move of zero is none, a positive one comes in. -/
theorem moveS_nn {s : DSess} {m : Int} (hs : sessOk s.en s.nu s.de s.pr s.re = true) (h : ¬ m < 0) : moveS s m = comeIn s m := by
  unfold moveS
  by_cases hp : 0 < m
  · rw [if_pos hp]
  · obtain rfl : m = 0 := by omega
    rw [if_neg hp]
    have h0 : IntKind.i64.wrap (-0) = 0 := IntWalk.i64_in _ (by omega)
    rw [h0]
    have h1 := (risQ_iff s.pr none).1 (sessOk_iff.1 hs).2.2.2.1
    have h2 : hasB s.pr 0 = false := by
      cases hc : hasB s.pr 0 with
      | false => rfl
      | true =>
        have := inB_iff.1 (h1.1 0 (hasB_iff.1 hc))
        omega
    have h3 : inB 0 1 s.en = false := inB_not.2 (by omega)
    unfold goOut comeIn
    rw [h2, h3]
    simp
theorem moveS_neg {s : DSess} {m : Int} (h : m < 0) : moveS s m = goOut s (IntKind.i64.wrap (-m)) := by unfold moveS; rw [if_neg (by omega)]

/-- Behind the count k: the table, the session as it was. -/
def SpanAft (V : List (List Int) × Bool) (ms : List Int) (w wx : World) (k : Nat) (en nu de re : Int) (u : Value) (qs : List Int) (o : Value) : Prop :=
  ∃ t, BoxAt wx w.heap.size #[.int .i64 en, .int .i64 nu, .int .i64 de, u, .int .i64 re] ∧ IntsAt wx u qs ∧ OwnTab wx (w.heap.size + 1) o t ∧ Rows2 t ∧ t.length ≤ k + 1 ∧ Hid (V = spanH ms (k + 1) ⟨en, nu, de, qs, re⟩ t) ∧ Below w.heap.size w wx

/-- Behind ComeIn: its session in a variable of its own (block nx). -/
def SpanNx (w wb wx : World) (en nu de re : Int) (u : Value) (M : DSess × Bool) (p b : Value) : Prop :=
  ∃ nx a k, p = .pointer (some ⟨nx, 0, none⟩) ∧ b = .bool M.2 ∧ wb.heap.size ≤ nx ∧ BoxAt wx nx #[.int .i64 M.1.en, .int .i64 M.1.nu, .int .i64 M.1.de, .slice a M.1.pr.length k, .int .i64 M.1.re] ∧ OwnInts wx wb.heap.size (.slice a M.1.pr.length k) M.1.pr ∧ (Value.slice a M.1.pr.length k).ownBlock ≠ some nx ∧ Below wb.heap.size wb wx

set_option maxRecDepth 100000 in
set_option maxHeartbeats 4000000 in
theorem i_BusinessSpans (en nu de : Int) (v : Value) (pr : List Int) (re : Int) (vm : Value) (ms : List Int) (w : World) (h : IntsAt w v pr) (hM : IntsAt w vm ms) (hn : pr.length ≤ 1048576) :
    Calls Tryd.prog 12 #[vSess en nu de v re, vm] w fun e w' => ∃ u, e = .returned (.tuple #[u, .bool (spansV ⟨en, nu, de, pr, re⟩ ms).2]) ∧ OwnTab w' w.heap.size u (spansV ⟨en, nu, de, pr, re⟩ ms).1 ∧ Below w.heap.size w w' := by
  obtain ⟨ao, cap, rfl⟩ := h.form
  obtain ⟨am, km, rfl⟩ := hM.form
  obtain ⟨W, hW⟩ : ∃ W, W = w.alloc (.cells #[.int .i64 en, .int .i64 nu, .int .i64 de, .slice ao pr.length cap, .int .i64 re] 28) := ⟨_, rfl⟩
  have bS : BoxAt W w.heap.size #[.int .i64 en, .int .i64 nu, .int .i64 de, .slice ao pr.length cap, .int .i64 re] := by rw [hW]; exact BoxAt.new _ _ _
  have hWb : Below w.heap.size w W := by rw [hW]; exact alQ _ _
  have hI := h.below hWb
  have HS := i_IsValidSession en nu de _ pr re W hI
  have HW := Lib.hid hW
  clear hW
  have hmL : ms.length ≤ maxLen := by obtain ⟨_, _, _, hv, q1, q2, _⟩ := hM; cases hv; omega
  have hmL' := hmL; unfold maxLen at hmL'
  have c0 := bS.cells
  cases hok : spanOk ⟨en, nu, de, pr, re⟩ ms with
  | false =>
    have HR : Hid (spansV ⟨en, nu, de, pr, re⟩ ms = ([], false)) := by rw [Hid, spansV, if_neg (by rw [hok]; simp)]
    rw [HR.out]
    have fin0 : ∀ w', Below W.heap.size W w' → OwnTab w' w.heap.size (.slice none 0 0) [] ∧ Below w.heap.size w w' := fun w' hb => ⟨OwnNest.nil _ _ _ _, below_step hWb hb⟩
    unfold spanOk at hok
    dsimp only at hok
    cases hs : sessOk en nu de pr re with
    | false =>
      rw [hs] at HS
      have HS' := Lib.hid HS
      clear hok HR HS
      go_enter Tryd.func12, Tryd.ntmps12
      go_wp2_with fail
      rw [← HW.out]
      refine HS'.out.mono ?_
      rintro e w3 ⟨rfl, hb3⟩
      go_wp2_with fail
      go_ret2
      exact ⟨_, rfl, fin0 _ hb3⟩
    | true =>
      rw [hs, Bool.true_and] at hok
      rw [hs] at HS
      have HS' := Lib.hid HS
      clear HS
      by_cases hr : re = 0
      · have hrb : (re != 0) = false := by simp [hr]
        have h20 : ¬ ms.length ≤ 20 := by
          intro hc
          rw [hr, decide_eq_true hc] at hok
          cases hok
        have h20I : (20 : Int) < (ms.length : Int) := by omega
        clear hok HR hr
        go_enter Tryd.func12, Tryd.ntmps12
        go_wp2_with fail
        rw [← HW.out]
        refine HS'.out.mono ?_
        rintro e w3 ⟨rfl, hb3⟩
        have c3 := (bS.below hb3).cells
        clear c0
        go_wp2_with fail
        go_ret2
        exact ⟨_, rfl, fin0 _ hb3⟩
      · have hrb : (re != 0) = true := by simp [hr]
        clear hok HR hr
        go_enter Tryd.func12, Tryd.ntmps12
        go_wp2_with fail
        rw [← HW.out]
        refine HS'.out.mono ?_
        rintro e w3 ⟨rfl, hb3⟩
        have c3 := (bS.below hb3).cells
        clear c0
        go_wp2_with fail
        go_ret2
        exact ⟨_, rfl, fin0 _ hb3⟩
  | true =>
    have hok' := hok
    simp only [spanOk, Bool.and_eq_true, beq_iff_eq, decide_eq_true_eq] at hok'
    obtain ⟨hs, hr0, h20⟩ := hok'
    rw [hs] at HS
    have HS' := Lib.hid HS
    have h20I : ¬ (20 : Int) < (ms.length : Int) := by omega
    have hrb : (re != 0) = false := by simp [hr0]
    obtain ⟨V, hVe⟩ : ∃ V, V = spansV ⟨en, nu, de, pr, re⟩ ms := ⟨_, rfl⟩
    rw [← hVe]
    have HV0 : Hid (V = spanF (ms.drop 0) ((0 : Nat) : Int) ⟨en, nu, de, pr, re⟩ []) := by rw [Hid, hVe, spansV, if_pos hok]; rfl
    clear hok HS hr0 hVe
    go_enter Tryd.func12, Tryd.ntmps12
    go_wp2_with fail
    rw [← HW.out]
    refine HS'.out.mono ?_
    rintro e w3 ⟨rfl, hb3⟩
    have bS3 := bS.below hb3
    have c3 := bS3.cells
    have hbw := below_step hWb hb3
    have hbs := bS3.1
    have hT3 : OwnTab (w3.alloc (.cells #[] 22)) (w.heap.size + 1) (.slice (some ⟨w3.heap.size, 0, none⟩) 0 0) [] := OwnNest.base (OwnNest.lit (f := tcell) (ord := id) (size := 1) 22 3 w3) hbs
    clear c0
    go_wp2_with fail
    go_loopw [6, 7] (fun o i wr => ∃ (k N : Nat) (u : Value) (qs : List Int) (t : List (List Int)), k ≤ ms.length ∧ i = .int .i64 k ∧ BoxAt wr w.heap.size #[.int .i64 en, .int .i64 nu, .int .i64 de, u, .int .i64 re] ∧ IntsAt wr u qs ∧ OwnTab wr (w.heap.size + 1) o t ∧ OwnTR wr (w.heap.size + 1) N o t ∧ Rows2 t ∧ t.length ≤ k ∧ Hid (V = spanF (ms.drop k) ((k : Nat) : Int) ⟨en, nu, de, qs, re⟩ t) ∧ sessOk en nu de qs re = true ∧ Hid (∀ w', OutOf (w.heap.size + 1) N wr w' → IntsAt w' u qs) ∧ Below w.heap.size w wr) (fun _ i _ => ms.length - (intOf i).toNat)
    case atStart =>
      have hal := alQ w3 (.cells #[] 22)
      have hbA := below_step hbw hal
      exact ⟨0, _, _, pr, [], by omega, rfl, bS3.below hal, h.below hbA, hT3, OwnNest.toR hT3, (fun r hr => by cases hr), Nat.le_refl _, HV0, hs, fun w' ho => h.below (hbA.trans (ho.below (Nat.le_succ _) hbA.size)), hbA⟩
    case round =>
      rename World => wa
      clear hT3 bS3 c3 hbw HV0 hs hbs
      obtain ⟨k, N, u, qs, t, hk, rfl, hB, hU, hT, hTR, h2, htl, HF, hsk, hUK, hbr⟩ := hrel
      have hMr := hM.below hbr
      obtain ⟨au, ku, rfl⟩ := hU.form
      have cB := hB.cells
      have fB := hB.free
      obtain ⟨at0, kt, hof⟩ := (OwnNest.at_ hT).form
      subst hof
      have hkI : (k : Int) ≤ (ms.length : Int) := by omega
      have HN : Hid (V = spanH ms (k + 1) ⟨en, nu, de, qs, re⟩ (spanQ ⟨en, nu, de, qs, re⟩ t ((k : Nat) : Int))) := by rw [Hid, HF.out, spanF_next (by omega)]
      clear HF
      go_wp2_with fail
      refine (i_hasQuorum en nu de _ qs re _ hU hsk).mono ?_
      rintro e wq ⟨rfl, hbq⟩
      replace hB := hB.below hbq
      replace hU := hU.below hbq
      replace hT := OwnNest.below hT hbq
      have hNa := hTR.hiLe
      replace hTR := hTR.keep (below_same hbq hNa)
      replace hbr := below_step hbr hbq
      have hUK' : Hid (∀ w', OutOf (w.heap.size + 1) N wq w' → IntsAt w' (.slice au qs.length ku) qs) := fun w' ho => hUK.out w' ((OutOf.of_below hbq).trans ho)
      replace hMr := hMr.below hbq
      have hBl := hB.1
      clear hUK cB fB
      go_upto_if 28 with fail
      go_cut [6] from 25 to 88 (fun o wx => SpanAft V ms w wx k en nu de re (.slice au qs.length ku) qs o)
      case first => as_aux_lemma =>
        cases hq : quorumB en nu de qs with
        | false =>
          have HN' : Hid (V = spanH ms (k + 1) ⟨en, nu, de, qs, re⟩ t) := by rw [Hid, HN.out]; unfold spanQ; dsimp only; rw [if_neg (by rw [hq]; simp)]
          go_wp2_with fail
          go_meet
          exact ⟨t, hB, hU, hT, h2, by omega, HN', hbr⟩
        | true =>
          have HN' : Hid (V = spanH ms (k + 1) ⟨en, nu, de, qs, re⟩ (spanPut t ((k : Nat) : Int))) := by rw [Hid, HN.out]; unfold spanQ; dsimp only; rw [if_pos hq]
          have ht22 : t.length ≤ 22 := by omega
          have hw5 : IntKind.i64.wrap ((k : Int) - 1) = (k : Int) - 1 := IntWalk.i64_in _ (by omega)
          have hw1 : IntKind.i64.wrap ((t.length : Int) - 1) = (t.length : Int) - 1 := IntWalk.i64_in _ (by omega)
          clear HN hq
          by_cases hp : 0 < t.length ∧ rowEnd t = ((k : Nat) : Int) - 1
          · obtain ⟨hp0, hp1⟩ := hp
            have HP : Hid (spanPut t ((k : Nat) : Int) = t.set (t.length - 1) [rowBeg t, ((k : Nat) : Int)]) := by rw [Hid, spanPut, if_pos ⟨hp0, hp1⟩]
            obtain ⟨g, c, gi, ci, hve, e1, lg, hgB, d1, f1, hst⟩ := tab_end hT h2 hp0
            cases hve
            obtain ⟨g2, c2, u2, hve2, hg2, e2, hub⟩ := tabR_last hTR hp0
            cases hve2
            rw [e1] at e2
            have hgN : gi < N := (hub gi (by rw [← Option.some.inj e2]; rfl)).2
            rw [hp1] at d1
            have HS := Lib.hid (hst (k : Int)); clear hst hub e2 u2
            have hR2 := h2.put ((k : Nat) : Int)
            rw [HP.out] at hR2
            have HN2 : Hid (V = spanH ms (k + 1) ⟨en, nu, de, qs, re⟩ (t.set (t.length - 1) [rowBeg t, ((k : Nat) : Int)])) := by rw [Hid, HN'.out, HP.out]
            have hw2 : ((t.length : Int) - 1).toNat = t.length - 1 := by omega
            have hw3 : (0 : Int) ≤ (t.length : Int) - 1 := by omega
            have hw4 : (t.length : Int) - 1 < (t.length : Int) := by omega
            have hw7 : (1 : Int) ≤ (t.length : Int) := by omega
            clear HN' HP hp1 h2 hTR
            go_wp2_with fail
            go_meet
            have hb6 : Below (w.heap.size + 1) wq (wq.setCell ⟨gi, 1, none⟩ (.int .i64 (k : Int))) := (Below.refl _ _).setCell (p := ⟨gi, 1, none⟩) hgB _
            exact ⟨t.set (t.length - 1) [rowBeg t, ((k : Nat) : Int)], box_keepQ hB hb6 (Nat.lt_succ_self _), hUK'.out _ ((OutOf.refl _ _ _).setIn hgB hgN _), HS.out, hR2, by rw [List.length_set]; omega, HN2, hbr.trans (hb6.mono (Nat.le_succ _))⟩
          · have HP : Hid (spanPut t ((k : Nat) : Int) = t ++ [[((k : Nat) : Int), ((k : Nat) : Int)]]) := by rw [Hid, spanPut, if_neg hp]
            have hR2 := h2.put ((k : Nat) : Int)
            rw [HP.out] at hR2
            have HN2 : Hid (V = spanH ms (k + 1) ⟨en, nu, de, qs, re⟩ (t ++ [[((k : Nat) : Int), ((k : Nat) : Int)]])) := by rw [Hid, HN'.out, HP.out]
            clear HN' HP
            have hvN : ∀ b, (Value.slice at0 t.length kt).ownBlock = some b → w.heap.size + 1 ≤ b ∧ b < N := by
              obtain ⟨us, _, hrow, _⟩ := hTR
              exact fun b hb => ⟨(hrow.1.lt b hb).1, hrow.2.1 b hb⟩
            have HU6 : Hid (∀ w', (wq.alloc (.cells #[.int .i64 (k : Int), .int .i64 (k : Int)] 3)).grownBy w' (Value.slice at0 t.length kt).ownBlock → IntsAt w' (.slice au qs.length ku) qs) := fun w' hg => hUK'.out w' ((OutOf.of_below (alQ _ _)).trans (OutOf.of_grown hg (fun b hb => hvN b hb)))
            have hlitK := own_litL wq 3 [((k : Nat) : Int), ((k : Nat) : Int)] (by simp)
            have hbB : w.heap.size + 1 ≤ wq.heap.size := hBl
            by_cases h0 : 0 < t.length
            · obtain ⟨g, c, gi, oi, ci, hve, hgB, hgs, hgf, e1, lg, d0, d1⟩ := tab_last hT h2 h0
              cases hve
              have hne : (rowEnd t == (k : Int) - 1) = false := by rw [beq_eq_false_iff_ne]; exact fun e => hp ⟨h0, e⟩
              have hw2 : ((t.length : Int) - 1).toNat = t.length - 1 := by omega
              have hw3 : (0 : Int) ≤ (t.length : Int) - 1 := by omega
              have hw4 : (t.length : Int) - 1 < (t.length : Int) := by omega
              have hw7 : (1 : Int) ≤ (t.length : Int) := by omega
              clear hp hgf d0 hTR
              go_wp2_with (at_builtin; refine wpList_push_nest0 (f := tcell) (ord := id) (size := 1) rfl (.tmp 51) (.tmp 55) _ rfl (fun _ _ => rfl) (w.heap.size + 1) 22 3 _ _ 24 ints_info Tryd.underlying36 rfl (by omega) (by omega) _ t _ [((k : Nat) : Int), ((k : Nat) : Int)] _ rfl wq hT (alQ _ _) hlitK rfl (by simp [tcell, Value.oneCell']) (by simp [Act.eval, Act.put]) hbB (by omega) ?_; intro v' w' k1 k4 k2 k3)
              go_meet
              exact ⟨t ++ [[((k : Nat) : Int), ((k : Nat) : Int)]], box_keepQ (hB.below (alQ _ _)) k4 (Nat.lt_succ_self _), HU6.out _ k2, k1, hR2, by rw [List.length_append, List.length_singleton]; omega, HN2, hbr.trans (((alQ wq _).mono (by omega)).trans (k4.mono (Nat.le_succ _)))⟩
            · have ht0 : t.length = 0 := by omega
              have hw6 : ¬ (0 : Int) ≤ (t.length : Int) - 1 := by omega
              have hw8 : decide ((0 : Int) ≤ (t.length : Int) - 1) = false := decide_eq_false hw6
              have hw9 : ¬ (1 : Int) ≤ (t.length : Int) := by omega
              clear hp ht0 h0 hTR
              go_wp2_with (at_builtin; refine wpList_push_nest0 (f := tcell) (ord := id) (size := 1) rfl (.tmp 51) (.tmp 55) _ rfl (fun _ _ => rfl) (w.heap.size + 1) 22 3 _ _ 24 ints_info Tryd.underlying36 rfl (by omega) (by omega) _ t _ [((k : Nat) : Int), ((k : Nat) : Int)] _ rfl wq hT (alQ _ _) hlitK rfl (by simp [tcell, Value.oneCell']) (by simp [Act.eval, Act.put]) hbB (by omega) ?_; intro v' w' k1 k4 k2 k3)
              go_meet
              exact ⟨t ++ [[((k : Nat) : Int), ((k : Nat) : Int)]], box_keepQ (hB.below (alQ _ _)) k4 (Nat.lt_succ_self _), HU6.out _ k2, k1, hR2, by rw [List.length_append, List.length_singleton]; omega, HN2, hbr.trans (((alQ wq _).mono (by omega)).trans (k4.mono (Nat.le_succ _)))⟩
      case rest =>
        clear hB hU hT hTR h2 htl HN hUK' hMr hBl hNa hbr hbq
        rename World => wb
        obtain ⟨t', hB, hU, hT, h2, htl, HV, hbr⟩ := hcut
        have hMr := hM.below hbr
        have cB := hB.cells
        have fB := hB.free
        obtain ⟨at1, kt1, hof⟩ := (OwnNest.at_ hT).form
        subst hof
        by_cases hkl : k = ms.length
        · have HE : Hid (V = (t', true)) := by rw [Hid, HV.out, spanH_end (by omega)]
          have hki : (k : Int) = (ms.length : Int) := by omega
          have hkb : ((k : Int) == (ms.length : Int)) = true := by simp [hki]
          clear hki hkl
          go_wp2_with fail
          go_ret2
          rw [HE.out]
          exact ⟨_, rfl, OwnNest.base hT (by omega), hbr⟩
        · have hjl : k < ms.length := by omega
          have hkb : ((k : Int) == (ms.length : Int)) = false := by rw [beq_eq_false_iff_ne]; omega
          obtain ⟨_, _, _, hme, q1, q2, q3⟩ := hMr
          cases hme
          obtain ⟨bm, om, rfl, lm, csM⟩ := q3 (by omega)
          have d0 := csM.int hjl
          have HVM := Lib.hid (HV.out.trans (spanH_move hjl ⟨en, nu, de, qs, re⟩ t'))
          have hqs : qs.length ≤ 1048576 := by have := sess_len hsk; omega
          obtain ⟨m, hm⟩ : ∃ m, m = ms[k] := ⟨_, rfl⟩
          rw [← hm] at d0 HVM
          obtain ⟨⟨⟨en1, nu1, de1, pr1, re1⟩, ok⟩, hMv⟩ : ∃ M, M = comeIn ⟨en, nu, de, qs, re⟩ m := ⟨_, rfl⟩
          have HMC := Lib.hid hMv
          clear hMv hm
          have hj0 : (0 : Int) ≤ (k : Int) := by omega
          have hj1 : (k : Int) < (ms.length : Int) := by omega
          have hBs := hB.1
          clear q3 HV hkl
          go_upto_region 13 with fail
          go_cut [9, 10] from 25 to 88 (fun p b wx => SpanNx w wb wx en nu de re (.slice au qs.length ku) (⟨en1, nu1, de1, pr1, re1⟩, ok) p b)
          case first => as_aux_lemma =>
            go_region_law (first
              | ((refine step_call2 (by rfl) 15 (.tmp 63) (.tmp 67) _ _ (by rfl) (enters_of Tryd.func15 (by kernel_rfl) (by kernel_rfl)) (vSess en nu de (.slice au qs.length ku) re) (.int .i64 m) (by rfl) (by rfl) ?_);
                 (refine (i_ComeIn en nu de _ qs re m _ (hU.below (Below.drew (alQ wb (.cells #[.int .i64 0, .int .i64 0, .int .i64 0, .slice none 0 0, .int .i64 0] 28)))) hqs).mono ?_); (rw [← HMC.out]); (dsimp only); (rintro e w4 ⟨u1, rfl, ho4, hb4'⟩); (refine ⟨_, rfl, ?_⟩);
                 (have hb4 : Below wb.heap.size wb w4 := below_step (Below.drew (alQ wb (.cells #[.int .i64 0, .int .i64 0, .int .i64 0, .slice none 0 0, .int .i64 0] 28))) hb4'); (obtain ⟨a4, k4, rfl⟩ := (OwnI.at_ ho4 : IntsAt w4 u1 pr1).form); (have B4 := hB.below hb4); (have c4 := B4.cells); (have f4 := B4.free);
                 (have BN : BoxAt w4 wb.heap.size #[.int .i64 0, .int .i64 0, .int .i64 0, .slice none 0 0, .int .i64 0] := BoxAt.below (w := (wb.alloc (.cells #[.int .i64 0, .int .i64 0, .int .i64 0, .slice none 0 0, .int .i64 0] 28)).drew) (BoxAt.new _ _ _) hb4'); (have cN := BN.cells); (have fN := BN.free))
              | ((refine step_call2 (by rfl) 15 (.tmp 63) (.tmp 67) _ _ (by rfl) (enters_of Tryd.func15 (by kernel_rfl) (by kernel_rfl)) (vSess en nu de (.slice au qs.length ku) re) (.int .i64 m) (by rfl) (by rfl) ?_);
                 (refine (i_ComeIn en nu de _ qs re m _ (hU.below (Below.drew (Below.refl _ wb))) hqs).mono ?_); (rw [← HMC.out]); (dsimp only); (rintro e w4 ⟨u1, rfl, ho4, hb4'⟩); (refine ⟨_, rfl, ?_⟩);
                 (have hb4 : Below wb.heap.size wb w4 := undrew hb4'); (obtain ⟨a4, k4, rfl⟩ := (OwnI.at_ ho4 : IntsAt w4 u1 pr1).form); (have B4 := hB.below hb4); (have c4 := B4.cells); (have f4 := B4.free)))
            all_goals first | go_meet | (go_wp2_with fail; go_meet)
            all_goals first
              | (obtain ⟨BX, OX⟩ := box5 (.int .i64 en1) (.int .i64 nu1) (.int .i64 de1) (.slice a4 pr1.length k4) (.int .i64 re1) BN
                 have ho5 : OwnInts w4 (wb.heap.size + 1) (.slice a4 pr1.length k4) pr1 := by simpa using ho4
                 exact ⟨wb.heap.size, a4, k4, rfl, rfl, Nat.le_refl _, BX, own_base (own_outQ ho5 OX) (by omega), (fun e => by have := (ho5.lt _ e).1; omega), hb4.trans (OX.below (Nat.le_refl _) hb4.size)⟩)
              | exact ⟨w4.heap.size, a4, k4, rfl, rfl, hb4.size, BoxAt.new _ _ _, own_base (OwnI.below ho4 (alQ _ _)) (Nat.le_refl _), (fun e => by have := (ho4.lt _ e).2; omega), hb4.trans ((alQ w4 _).mono hb4.size)⟩
          case rest =>
            rename World => wc
            obtain ⟨nx, an, kn, hp, hbv, hnx, bN, oN, hnb, hbc⟩ := hcut
            subst hp hbv
            have hTR := (OwnNest.toR hT).keep (below_same hbc (Nat.le_refl _))
            have hbs := hbc.size
            replace hB := hB.below hbc
            replace hU := hU.below hbc
            replace hT := OwnNest.below hT hbc
            replace hbr := below_step hbr hbc
            have d1 : wc.cell? ⟨bm, om + k, none⟩ = some (.int .i64 m) := (hbc.cell (p := ⟨bm, om + k, none⟩) lm).trans d0
            have lm' : bm < wc.heap.size := by omega
            have nlt := bN.1
            dsimp only at bN oN
            clear cB fB d0 csM lm q1 q2
            have cN := bN.cells
            have fN := bN.free
            have cB := hB.cells
            have fB := hB.free
            have hnw : w.heap.size < nx := by omega
            have hnw1 : ¬ w.heap.size = nx := by omega
            have hnw2 : ¬ nx = w.heap.size := by omega
            by_cases hm0 : m < 0
            · obtain ⟨⟨⟨en2, nu2, de2, pr2, re2⟩, ok2⟩, hG⟩ : ∃ M, M = goOut ⟨en, nu, de, qs, re⟩ (IntKind.i64.wrap (-m)) := ⟨_, rfl⟩
              have HM : Hid ((⟨⟨en2, nu2, de2, pr2, re2⟩, ok2⟩ : DSess × Bool) = moveS ⟨en, nu, de, qs, re⟩ m) := by rw [Hid, hG, moveS_neg hm0]
              have HG := Lib.hid hG
              clear hG HMC
              obtain ⟨y, hy⟩ : ∃ y, y = IntKind.i64.wrap (-m) := ⟨_, rfl⟩
              have HY := Lib.hid hy
              have hy' : IntKind.i64.wrap (-m) = y := hy.symm
              clear hy
              go_upto_region 15 with fail
              go_region_law (first
                | ((refine step_call2 (by rfl) 16 (.tmp 77) (.tmp 82) _ _ (by rfl) (enters_of Tryd.func16 (by kernel_rfl) (by kernel_rfl)) (vSess en nu de (.slice au qs.length ku) re) (.int .i64 y) (by rfl) (by first | rfl | (simp only [← hy']; rfl)) ?_);
                   (refine (i_GoOut en nu de _ qs re y _ (hU.below (by first | exact Below.refl _ _ | exact Below.drew (Below.refl _ _))) hqs).mono ?_); (rw [← HY.out] at HG); (rw [← HG.out]); (dsimp only); (rintro e w4 ⟨u1, rfl, ho4, hb4'⟩); (refine ⟨_, rfl, ?_⟩);
                   (have hb4 : Below wc.heap.size wc w4 := by first | exact hb4' | exact undrew hb4'); (obtain ⟨a4, k4, rfl⟩ := (OwnI.at_ ho4 : IntsAt w4 u1 pr2).form); (have B4 := hB.below hb4); (have c4 := B4.cells); (have f4 := B4.free); (have N4 := bN.below hb4); (have n4 := N4.cells); (have g4 := N4.free)))
              all_goals
                obtain ⟨BN, ON⟩ := box5 (.int .i64 en2) (.int .i64 nu2) (.int .i64 de2) (.slice a4 pr2.length k4) (.int .i64 re2) N4
                generalize (((((w4.setCell ⟨nx, 0, none⟩ (.int .i64 en2)).setCell ⟨nx, 1, none⟩ (.int .i64 nu2)).setCell ⟨nx, 2, none⟩ (.int .i64 de2)).setCell ⟨nx, 3, none⟩ (.slice a4 pr2.length k4)).setCell ⟨nx, 4, none⟩ (.int .i64 re2)) = wz at BN ON ⊢
                have hs4 := hb4.size
                have hsz := ON.size
                have ho4' : OwnInts wz wc.heap.size (.slice a4 pr2.length k4) pr2 := own_outQ (show OwnInts w4 wc.heap.size (.slice a4 pr2.length k4) pr2 by simpa using ho4) ON (by omega)
                have BZ := ON.box B4 (.inl hnw)
                have hTRz := (hTR.keep (below_same hb4 hbs)).keep (ON.same (.inl hnx) (by omega))
                have hTz := tabR_nest hTRz
                have hbz : Below w.heap.size w wz := below_step hbr hb4 |>.trans (ON.below (by omega) (by have := BN.1; have := hbr.size; omega))
                have cz := BN.cells
                have fz := BN.free
                have cZ := BZ.cells
                have fZ := BZ.free
                clear c4 f4 n4 g4 cB fB cN fN hB hU hT hTR hbr bN oN d1
                have hwb : wb.heap.size ≤ wc.heap.size := hbs
                cases ok2 with
                | false =>
                  have HR : Hid (V = ([], false)) := by rw [Hid, HVM.out, ← HM.out]; rfl
                  clear HVM HM HG
                  go_wp2_with fail
                  go_ret2
                  rw [HR.out]
                  exact ⟨_, rfl, OwnNest.nil _ _ _ _, hbz⟩
                | true =>
                  obtain ⟨e1, e2, e3, e4, _⟩ := moveS_ok HM.out
                  have hsk1 := moveS_valid HM.out
                  dsimp only at e1 e2 e3 e4 hsk1
                  have e1' := e1.symm; have e2' := e2.symm; have e3' := e3.symm; have e4' := e4.symm
                  clear e1 e2 e3 e4
                  subst e1' e2' e3' e4'
                  have HF : Hid (V = spanF (ms.drop (k + 1)) ((k + 1 : Nat) : Int) ⟨en, nu, de, pr2, re⟩ t') := by rw [Hid, HVM.out, ← HM.out]; rfl
                  have OBX := fun wq (ho : OutOf w.heap.size (w.heap.size + 1) wz wq) => ho
                  clear HVM HM HG
                  obtain ⟨BX, OX⟩ := box5 (.int .i64 en) (.int .i64 nu) (.int .i64 de) (.slice a4 pr2.length k4) (.int .i64 re) BZ
                  go_wp2_with fail
                  go_roundw
                  case rel =>
                    have hoz := own_outQ ho4' OX (by omega)
                    exact ⟨k + 1, wb.heap.size, _, pr2, t', by omega, by go_num, BX, OwnI.at_ hoz, tab_outQ hTz OX (Nat.lt_succ_self _), hTRz.keep (OX.same (.inr (Nat.le_refl _)) (by omega)), h2, htl, HF, hsk1, fun w' ho => OwnI.at_ (own_outQ hoz ho (by omega)), hbz.trans (OX.below (Nat.le_refl _) (by omega))⟩
                  case measure => first | (simp [intOf]; done) | (simp [intOf]; omega)
            · have HM : Hid ((⟨⟨en1, nu1, de1, pr1, re1⟩, ok⟩ : DSess × Bool) = moveS ⟨en, nu, de, qs, re⟩ m) := by rw [Hid, moveS_nn hsk hm0]; exact HMC.out
              clear HMC
              cases ok with
              | false =>
                have HR : Hid (V = ([], false)) := by rw [Hid, HVM.out, ← HM.out]; rfl
                clear HVM HM
                go_wp2_with fail
                go_ret2
                rw [HR.out]
                exact ⟨_, rfl, OwnNest.nil _ _ _ _, hbr⟩
              | true =>
                  obtain ⟨e1, e2, e3, e4, _⟩ := moveS_ok HM.out
                  have hsk1 := moveS_valid HM.out
                  dsimp only at e1 e2 e3 e4 hsk1
                  have e1' := e1.symm; have e2' := e2.symm; have e3' := e3.symm; have e4' := e4.symm
                  clear e1 e2 e3 e4
                  subst e1' e2' e3' e4'
                  have HF : Hid (V = spanF (ms.drop (k + 1)) ((k + 1 : Nat) : Int) ⟨en, nu, de, pr1, re⟩ t') := by rw [Hid, HVM.out, ← HM.out]; rfl
                  clear HVM HM
                  obtain ⟨BX, OX⟩ := box5 (.int .i64 en) (.int .i64 nu) (.int .i64 de) (.slice an pr1.length kn) (.int .i64 re) hB
                  go_wp2_with fail
                  go_roundw
                  case rel =>
                    have hoz := own_outQ oN OX (by omega)
                    exact ⟨k + 1, wb.heap.size, _, pr1, t', by omega, by go_num, BX, OwnI.at_ hoz, tab_outQ hT OX (Nat.lt_succ_self _), hTR.keep (OX.same (.inr (Nat.le_refl _)) (by omega)), h2, htl, HF, hsk1, fun w' ho => OwnI.at_ (own_outQ hoz ho (by omega)), hbr.trans (OX.below (Nat.le_refl _) (by omega))⟩
                  case measure => first | (simp [intOf]; done) | (simp [intOf]; omega)

end Go.Proofs.YtjijcjcfefkpbaaDoor
