/- Contracts: slices.SortStableFunc at committees (insertion sort, at most 19). Condition: the order's function keeps all that lies outside. -/
import Derived.Test.YtpjmcjdnobihbaaSortM
import Derived.Test.YtpjmcjdnobihbaaCommI
import Derived.Test.YtpjmcjdnobihbaaNestU
namespace Go.Proofs.Ytpjmcjdnobihbaa
open Go.RowKit
set_option linter.unusedVariables false
set_option linter.unusedSimpArgs false

theorem ncs_put3 (es : List (Value × DCommittee)) (k : Nat) (hk : k < es.length) (u : Value) (x : DCommittee) :
    (((ncs ccell es).set (k * 3) (.string x.name)).set (k * 3 + 1) u).set (k * 3 + 2) (.int .i64 x.head) = ncs ccell (es.set k (u, x)) := by
  have hsz : ∀ p : Value × DCommittee, (ccell p.1 p.2).length = 3 := fun _ => rfl
  have e1 := flat_set (fun p : Value × DCommittee => ccell p.1 p.2) 3 hsz es k 0 hk (by omega) (es[k].1, ⟨x.name, es[k].2.members, es[k].2.head⟩) (.string x.name) rfl
  have e2 := flat_set (fun p : Value × DCommittee => ccell p.1 p.2) 3 hsz (es.set k (es[k].1, ⟨x.name, es[k].2.members, es[k].2.head⟩)) k 1 (by simpa using hk) (by omega) (u, ⟨x.name, es[k].2.members, es[k].2.head⟩) u (by simp [ccell])
  have e3 := flat_set (fun p : Value × DCommittee => ccell p.1 p.2) 3 hsz ((es.set k (es[k].1, ⟨x.name, es[k].2.members, es[k].2.head⟩)).set k (u, ⟨x.name, es[k].2.members, es[k].2.head⟩)) k 2 (by simpa using hk) (by omega) (u, x) (.int .i64 x.head) (by simp [ccell])
  simp only [List.set_set] at e2 e3
  rw [Nat.add_zero] at e1
  unfold ncs
  rw [e1, e2, e3]
theorem ncs_at3 (es : List (Value × DCommittee)) (k : Nat) (p : Value × DCommittee) (hp : es[k]? = some p) : (ncs ccell es)[k * 3]? = some (.string p.2.name) ∧ (ncs ccell es)[k * 3 + 1]? = some p.1 ∧ (ncs ccell es)[k * 3 + 2]? = some (.int .i64 p.2.head) := by
  obtain ⟨hk, rfl⟩ := List.getElem?_eq_some_iff.1 hp
  have h := fun j hj => flatm_get (fun p : Value × DCommittee => ccell p.1 p.2) 3 (fun _ => rfl) es k j hk hj
  unfold ncs
  exact ⟨by simpa [ccell] using h 0 (by omega), by simpa [ccell] using h 1 (by omega), by simpa [ccell] using h 2 (by omega)⟩
theorem grown_of_out {g : Nat} {w w' : World} (h : OutOf g (g + 1) w w') : w.grownBy w' (some g) :=
  ⟨h.os, h.tape, h.output, h.size, fun k hk hne => h.block k hk (by rcases Nat.lt_trichotomy k g with h1 | h1 | h1
                                                                    · exact .inl h1
                                                                    · exact absurd (by rw [h1]) hne
                                                                    · exact .inr h1)⟩
def ltR (r : DCommittee → DCommittee → Int) (p q : Value × DCommittee) : Bool := decide (r p.2 q.2 < 0)
/-- An element with its inner slice spelled out. -/
def SlForm (es : List (Value × DCommittee)) : Prop := ∀ p ∈ es, ∃ a k, p.1 = .slice a p.2.members.length k

set_option maxHeartbeats 4000000 in
theorem insSort_comm (cf : Nat) (hcf : Enters Try.prog cf) (r : DCommittee → DCommittee → Int) (g c B n : Nat) (es : List (Value × DCommittee)) (w : World) (HN : Hid (n = es.length)) (h : w.ownsRow B 40 3 (.slice (some ⟨g, 0, none⟩) n c) n (ncs ccell es)) (hf : SlForm es) (hc : n ≤ c) (h1 : 1 ≤ n) (h19 : n ≤ 19)
    (hp : ∀ u x u' x' w', Calls Try.prog cf #[vComm u x, vComm u' x'] w' fun e w'' => e = .returned (.int .i64 (r x x')) ∧ Below w'.heap.size w' w'') :
    Calls Try.prog 101 #[.slice (some ⟨g, 0, none⟩) n c, .int .i64 0, .int .i64 (n : Int), .func (.func cf) #[] #[]] w fun e w' => e = .returned (.tuple #[]) ∧
      w'.ownsRow B 40 3 (.slice (some ⟨g, 0, none⟩) n c) n (ncs ccell (sortS (ltR r) es)) ∧ OutOf g (g + 1) w w' := by
  have HP := Lib.hid hp; clear hp
  have HF := Lib.hid hf; clear hf
  have hcf := hcf.out
  have hgs := (h.lt g rfl).2
  have hst : Hid (ncs ccell (sortS (ltR r) (es.take 1) ++ es.drop 1) = ncs ccell es) := by
    rw [Hid]
    congr 1
    cases es with
    | nil => have := HN.out; simp at this; omega
    | cons a q => simp [sortS, insEnd, insRev]
  go_enter Try.func101, Try.ntmps101
  go_wp2_with fail
  go_loopw [8] (fun i wr => ∃ k : Nat, 1 ≤ k ∧ k ≤ n ∧ i = .int .i64 k ∧ wr.ownsRow B 40 3 (.slice (some ⟨g, 0, none⟩) n c) n (ncs ccell (sortS (ltR r) (es.take k) ++ es.drop k)) ∧ OutOf g (g + 1) w wr) (fun i _ => n - (intOf i).toNat)
  case atStart => exact ⟨1, by omega, h1, rfl, by rw [hst.out]; exact h, OutOf.refl _ _ _⟩
  case round =>
    rename World => wa
    clear h hst
    obtain ⟨k, hk1, hkn, rfl, hown, ho⟩ := hrel
    by_cases hlt : k < n
    · have hkx : k < es.length := by have := HN.out; omega
      obtain ⟨P, hP⟩ : ∃ P, P = sortS (ltR r) (es.take k) := ⟨_, rfl⟩
      have hPl : P.length = k := by rw [hP, sortS_len, List.length_take]; omega
      have hPm : ∀ y ∈ P, y ∈ es := fun y hy => by rw [hP] at hy; exact List.mem_of_mem_take ((sortS_perm _ _).mem_iff.1 hy)
      have hnext : Hid (sortS (ltR r) (es.take (k + 1)) = insEnd (ltR r) P es[k]) := by rw [Hid, sortS_take _ hkx, hP]
      obtain ⟨R, hR⟩ : ∃ R, R = es.drop (k + 1) := ⟨_, rfl⟩
      have hmid : sortS (ltR r) (es.take k) ++ es.drop k = midL P R es[k] k := by
        have := midL_start (P := P) (R := R) (x := es[k])
        rw [hPl] at this
        rw [this, drop_at hkx, hP, hR]
      rw [hmid] at hown
      have hxm : es[k] ∈ es := List.getElem_mem hkx
      have HX := Lib.hid hxm
      have HPM := Lib.hid hPm; have HPL := Lib.hid hPl; have HR := Lib.hid hR
      have hRl : P.length + 1 + R.length = n := by rw [hPl, hR, List.length_drop]; have := HN.out; omega
      have HRL := Lib.hid hRl
      clear hP hPm hPl hR hmid hxm hRl
      generalize es[k] = x at *
      have hb0 : Behind (ltR r) P x k := fun y hy => by rw [List.drop_of_length_le (by have := HPL.out; omega)] at hy; cases hy
      go_wp2_with fail
      go_loopw [9] (fun i wr => ∃ j : Nat, j ≤ k ∧ i = .int .i64 j ∧ Behind (ltR r) P x j ∧ wr.ownsRow B 40 3 (.slice (some ⟨g, 0, none⟩) n c) n (ncs ccell (midL P R x j)) ∧ OutOf g (g + 1) w wr) (fun i _ => (intOf i).toNat)
      case atStart => exact ⟨k, Nat.le_refl _, rfl, hb0, hown, ho⟩
      case round =>
        rename World => wb
        clear hown ho hb0
        obtain ⟨j, hj, rfl, hbh, hown, ho⟩ := hrel
        by_cases hj0 : 0 < j
        · have hjP : j ≤ P.length := by have := HPL.out; omega
          have hjm : j - 1 < P.length := by omega
          have hget := midL_at (R := R) (x := x) hjP
          have hpre := midL_pre (R := R) (x := x) hjP hj0
          have hml := midL_len P R x j
          have hrl := HRL.out
          have hjn : j < n := by omega
          have hcl : (ncs ccell (midL P R x j)).length = n * 3 := hown.1
          have hget3 := ncs_at3 _ _ _ hget
          have hpre3 := ncs_at3 _ _ _ hpre
          have hml' : (midL P R x j).length = n := by omega
          obtain ⟨ax, kx, hxf⟩ := HF.out _ HX.out
          obtain ⟨ay, ky, hyf⟩ := HF.out _ (HPM.out _ (List.getElem_mem hjm))
          have c0 : wb.cell? ⟨g, j * 3, none⟩ = some (.string x.2.name) := by rw [hown.cellAt (j * 3) (by omega), hget3.1]
          have c1 : wb.cell? ⟨g, j * 3 + 1, none⟩ = some x.1 := by rw [hown.cellAt (j * 3 + 1) (by omega), hget3.2.1]
          have c2 : wb.cell? ⟨g, j * 3 + 2, none⟩ = some (.int .i64 x.2.head) := by rw [hown.cellAt (j * 3 + 2) (by omega), hget3.2.2]
          have d0 : wb.cell? ⟨g, (j - 1) * 3, none⟩ = some (.string P[j - 1].2.name) := by rw [hown.cellAt ((j - 1) * 3) (by omega), hpre3.1]
          have d1 : wb.cell? ⟨g, (j - 1) * 3 + 1, none⟩ = some P[j - 1].1 := by rw [hown.cellAt ((j - 1) * 3 + 1) (by omega), hpre3.2.1]
          have d2 : wb.cell? ⟨g, (j - 1) * 3 + 2, none⟩ = some (.int .i64 P[j - 1].2.head) := by rw [hown.cellAt ((j - 1) * 3 + 2) (by omega), hpre3.2.2]
          have hgl := (hown.lt g rfl).2
          have hq := fun X : BW wb => HP.out x.1 x.2 P[j - 1].1 P[j - 1].2 X.w
          rw [hxf] at c1; rw [hyf] at d1
          simp only [hxf, hyf] at hq
          have r0 := BW.cell hgl c0
          have r1 := BW.cell hgl c1
          have r2 := BW.cell hgl c2
          have s0 := BW.cell hgl d0
          have s1 := BW.cell hgl d1
          have s2 := BW.cell hgl d2
          have hw1 : IntKind.i64.wrap ((j : Int) - 1) = (j : Int) - 1 := IntWalk.i64_in _ (by omega)
          have hw2 : ((j : Int) - 1).toNat = j - 1 := by omega
          have hw3 : (0 : Int) ≤ (j : Int) - 1 := by omega
          have hw7 : (1 : Int) ≤ (j : Int) := by omega
          have hw4 : (j : Int) - 1 < (n : Int) := by omega
          have hw5 : (j : Int) < (n : Int) := by omega
          have hw6 : (0 : Int) ≤ (j : Int) := by omega
          have HQ := Lib.hid hq
          clear hq hget hpre hget3 hpre3 c0 c1 c2 d0 d1 d2 hrl
          by_cases hr : r x.2 P[j - 1].2 < 0
          · have hb' : Behind (ltR r) P x (j - 1) := below_more (lt := ltR r) hjP hj0 hbh.out (decide_eq_true hr)
            have hsw := midL_swap (R := R) (x := x) hjP hj0
            clear hml
            obtain ⟨ux, cx⟩ := x
            generalize P[j - 1] = y at *
            obtain ⟨uy, cy⟩ := y
            simp only at hxf hyf hr HQ r0 r1 r2 s0 s1 s2
            subst hxf hyf
            have HP1 := Lib.hid (ncs_put3 (midL P R (.slice ax cx.members.length kx, cx) j) j (by omega) (.slice ay cy.members.length ky) cy)
            have hp2 := ncs_put3 ((midL P R (.slice ax cx.members.length kx, cx) j).set j (.slice ay cy.members.length ky, cy)) (j - 1) (by rw [List.length_set]; omega) (.slice ax cx.members.length kx) cx
            rw [hsw] at hp2
            have HP2 := Lib.hid hp2
            clear hsw hp2
            go_wp2_with fail
            refine wp_region_bw (by kernel_rfl) (by kernel_rfl) ?_
            repeat (first
              | go_big_quiet_skip
              | (go_big_quiet_want; go_big_quiet_op; first | go_big_quiet_on | (apply Exists.intro; refine ⟨fun _ => ?_, ?_⟩; ((with_reducible exact BW.call (HQ.out _))); go_big_quiet_on)))
            refine wpQuiet_nil ?_
            rintro _ ⟨xq, rfl⟩
            have ho' := ho.trans (OutOf.of_below xq.h)
            have hown' := own_below hown xq.h
            have c0 := r0 xq
            have c1 := r1 xq
            have c2 := r2 xq
            have d0 := s0 xq
            have d1 := s1 xq
            have d2 := s2 xq
            have f0 := hown'.frozenAt (j * 3)
            have f1 := hown'.frozenAt (j * 3 + 1)
            have f2 := hown'.frozenAt (j * 3 + 2)
            have f3 := hown'.frozenAt ((j - 1) * 3)
            have f4 := hown'.frozenAt ((j - 1) * 3 + 1)
            have f5 := hown'.frozenAt ((j - 1) * 3 + 2)
            clear r0 r1 r2 s0 s1 s2 HQ hown ho
            generalize xq.w = wz at c0 c1 c2 d0 d1 d2 f0 f1 f2 f3 f4 f5 ho' hown' ⊢
            clear xq
            go_wp2_with fail
            go_region
            all_goals go_wp2_with fail
            all_goals go_roundw
            all_goals first
              | (case rel =>
                  have hs := ((((((hown'.stored (j * 3) (.string cy.name)).1.stored (j * 3 + 1) (.slice ay cy.members.length ky)).1.stored (j * 3 + 2) (.int .i64 cy.head)).1.stored ((j - 1) * 3) (.string cx.name)).1.stored ((j - 1) * 3 + 1) (.slice ax cx.members.length kx)).1.stored ((j - 1) * 3 + 2) (.int .i64 cx.head)).1
                  rw [HP1.out, HP2.out] at hs
                  exact ⟨j - 1, by omega, by congr 1; omega, hb', hs.drew, ((((((ho'.set _).set _).set _).set _).set _).set _).drew'⟩)
              | (case measure => simp [intOf]; omega)
          · have hdone : Hid (midL P R x j = sortS (ltR r) (es.take (k + 1)) ++ es.drop (k + 1)) := by
              rw [Hid, hnext.out, ← HR.out]
              exact midL_done (lt := ltR r) hjP hbh.out (fun _ => decide_eq_false hr)
            rw [hdone.out] at hown
            clear hml hdone
            obtain ⟨ux, cx⟩ := x
            generalize P[j - 1] = y at *
            obtain ⟨uy, cy⟩ := y
            simp only at hxf hyf hr HQ r0 r1 r2 s0 s1 s2
            subst hxf hyf
            go_wp2_with fail
            refine wp_region_bw (by kernel_rfl) (by kernel_rfl) ?_
            repeat (first
              | go_big_quiet_skip
              | (go_big_quiet_want; go_big_quiet_op; first | go_big_quiet_on | (apply Exists.intro; refine ⟨fun _ => ?_, ?_⟩; ((with_reducible exact BW.call (HQ.out _))); go_big_quiet_on)))
            refine wpQuiet_nil ?_
            rintro _ ⟨xq, rfl⟩
            go_wp2_with fail
            go_roundw
            case rel => exact ⟨k + 1, by omega, by omega, by go_num, own_below hown xq.h, ho.trans (OutOf.of_below xq.h)⟩
            case measure => simp [intOf]; omega
        · obtain rfl : j = 0 := by omega
          have hdone : Hid (midL P R x 0 = sortS (ltR r) (es.take (k + 1)) ++ es.drop (k + 1)) := by
            rw [Hid, hnext.out, ← HR.out]
            exact midL_done (Nat.zero_le _) hbh.out (fun h => absurd h (by omega))
          rw [hdone.out] at hown
          have hg0 : decide ((0 : Int) < ((0 : Nat) : Int)) = false := rfl
          go_wp2_with fail
          refine wp_region_bw (by kernel_rfl) (by kernel_rfl) ?_
          repeat (first
            | go_big_quiet_skip
            | (go_big_quiet_want; go_big_quiet_op; first | go_big_quiet_on | (apply Exists.intro; refine ⟨fun _ => ?_, ?_⟩; ((fail)); go_big_quiet_on)))
          refine wpQuiet_nil ?_
          rintro _ ⟨xq, rfl⟩
          go_wp2_with fail
          go_roundw
          case rel => exact ⟨k + 1, by omega, by omega, by go_num, own_below hown xq.h, ho.trans (OutOf.of_below xq.h)⟩
          case measure => simp [intOf]; omega
    · obtain rfl : k = n := by omega
      have hfin : Hid (sortS (ltR r) (es.take k) ++ es.drop k = sortS (ltR r) es) := by
        rw [Hid, List.take_of_length_le (by have := HN.out; omega), List.drop_of_length_le (by have := HN.out; omega), List.append_nil]
      rw [hfin.out] at hown
      go_wp2_with fail
      go_end0
      exact ⟨rfl, hown, ho⟩

set_option maxHeartbeats 1000000 in
theorem stable_comm (cf : Nat) (hcf : Enters Try.prog cf) (r : DCommittee → DCommittee → Int) (g c B n : Nat) (es : List (Value × DCommittee)) (w : World) (HN : Hid (n = es.length)) (h : w.ownsRow B 40 3 (.slice (some ⟨g, 0, none⟩) n c) n (ncs ccell es)) (hf : SlForm es) (hc : n ≤ c) (h1 : 1 ≤ n) (h19 : n ≤ 19)
    (hp : ∀ u x u' x' w', Calls Try.prog cf #[vComm u x, vComm u' x'] w' fun e w'' => e = .returned (.int .i64 (r x x')) ∧ Below w'.heap.size w' w'') :
    Calls Try.prog 85 #[.slice (some ⟨g, 0, none⟩) n c, .int .i64 (n : Int), .func (.func cf) #[] #[]] w fun e w' => e = .returned (.tuple #[]) ∧
      w'.ownsRow B 40 3 (.slice (some ⟨g, 0, none⟩) n c) n (ncs ccell (sortS (ltR r) es)) ∧ OutOf g (g + 1) w w' := by
  have HQ := Lib.hid (insSort_comm cf hcf r g c B n es w HN h hf hc h1 h19 hp)
  clear hp h hf
  have hn20 : ¬ (20 : Int) ≤ (n : Int) := by omega
  have hn20' : ¬ (20 : Int) < (n : Int) := by omega
  go_enter Try.func85, Try.ntmps85
  go_wp2_with fail
  refine wp_loop_rounds 1 ?_; rw [rounds_succ]
  go_wp2_with (go_at_call 101; refine HQ.out.mono ?_; rintro e w1 ⟨rfl, ho, hb⟩)
  refine wp_loop_rounds 1 ?_; rw [rounds_succ]
  go_wp2_with fail
  go_end0
  exact ⟨rfl, ho, hb⟩

theorem sortStable_comm (cf : Nat) (hcf : Enters Try.prog cf) (r : DCommittee → DCommittee → Int) (g c B n : Nat) (es : List (Value × DCommittee)) (w : World) (HN : Hid (n = es.length)) (h : w.ownsRow B 40 3 (.slice (some ⟨g, 0, none⟩) n c) n (ncs ccell es)) (hf : SlForm es) (hc : n ≤ c) (h1 : 1 ≤ n) (h19 : n ≤ 19)
    (hp : ∀ u x u' x' w', Calls Try.prog cf #[vComm u x, vComm u' x'] w' fun e w'' => e = .returned (.int .i64 (r x x')) ∧ Below w'.heap.size w' w'') :
    Calls Try.prog 65 #[.slice (some ⟨g, 0, none⟩) n c, .func (.func cf) #[] #[]] w fun e w' => e = .returned (.tuple #[]) ∧
      w'.ownsRow B 40 3 (.slice (some ⟨g, 0, none⟩) n c) n (ncs ccell (sortS (ltR r) es)) ∧ OutOf g (g + 1) w w' := by
  have HQ := Lib.hid (stable_comm cf hcf r g c B n es w HN h hf hc h1 h19 hp)
  clear hp h hf
  go_enter Try.func65, Try.ntmps65
  go_wp2_with (go_at_call 85; refine HQ.out.mono ?_; rintro e w1 ⟨rfl, ho, hb⟩)
  go_end0
  exact ⟨rfl, ho, hb⟩

/-- The list sorted, at committees that the call owns. -/
theorem sortS_map (r : DCommittee → DCommittee → Int) (es : List (Value × DCommittee)) : (sortS (ltR r) es).map Prod.snd = sortS (fun a b => decide (r a b < 0)) (es.map Prod.snd) := by
  have H : ∀ (l : List (Value × DCommittee)) (x : Value × DCommittee), (insRev (ltR r) x l).map Prod.snd = insRev (fun a b => decide (r a b < 0)) x.2 (l.map Prod.snd) := by
    intro l x
    induction l with
    | nil => rfl
    | cons y q ih =>
      cases h : ltR r x y with
      | true =>
        have h' : decide (r x.2 y.2 < 0) = true := h
        simp only [insRev, h, List.map_cons, h', if_true, ih]
      | false =>
        have h' : decide (r x.2 y.2 < 0) = false := h
        simp only [insRev, h, List.map_cons, h', Bool.false_eq_true, if_false]
  have H2 : ∀ (P : List (Value × DCommittee)) (x : Value × DCommittee), (insEnd (ltR r) P x).map Prod.snd = insEnd (fun a b => decide (r a b < 0)) (P.map Prod.snd) x.2 := by
    intro P x
    unfold insEnd
    rw [List.map_reverse, H, List.map_reverse]
  have H3 : ∀ (l acc : List (Value × DCommittee)), (l.foldl (insEnd (ltR r)) acc).map Prod.snd = (l.map Prod.snd).foldl (insEnd (fun a b => decide (r a b < 0))) (acc.map Prod.snd) := by
    intro l
    induction l with
    | nil => intro acc; rfl
    | cons y q ih => intro acc; simp only [List.foldl_cons, List.map_cons]; rw [ih, H2]
  exact H3 es []

theorem sort_comms (cf : Nat) (hcf : Enters Try.prog cf) (r : DCommittee → DCommittee → Int) (v : Value) (xs : List DCommittee) (B : Nat) (w : World) (h : OwnComms w B v xs) (h1 : 1 ≤ xs.length) (h19 : xs.length ≤ 19)
    (hp : ∀ u x u' x' w', Calls Try.prog cf #[vComm u x, vComm u' x'] w' fun e w'' => e = .returned (.int .i64 (r x x')) ∧ Below w'.heap.size w' w'') :
    Calls Try.prog 65 #[v, .func (.func cf) #[] #[]] w fun e w' => e = .returned (.tuple #[]) ∧
      OwnComms w' B v (sortS (fun a b => decide (r a b < 0)) xs) ∧ Below B w w' := by
  obtain ⟨es, he, hrow, hin, hpw, hd⟩ := h
  have hel : es.length = xs.length := by rw [← he]; simp
  rcases hrow.2 with ⟨_, hn⟩ | ⟨g, cp, cur, rfl, hgB, hh, hc1, hc2, hc3, hc4⟩
  · exfalso; omega
  · refine (sortStable_comm cf hcf r g cp B es.length es w rfl hrow (fun p hp => (hin p hp).at_.form) (by omega) (by omega) (by omega) hp).mono ?_
    rintro e w' ⟨rfl, ho, hb⟩
    have hpm := sortS_perm (ltR r) es
    refine ⟨rfl, ⟨sortS (ltR r) es, by rw [sortS_map, he], by rw [sortS_len]; exact ho, fun p hp => ?_, ?_, fun p hp => hd p (hpm.mem_iff.1 hp)⟩, hb.below hgB (by have := (Array.getElem?_eq_some_iff.1 hh).1; omega)⟩
    · have hp' := hpm.mem_iff.1 hp
      exact (hin p hp').kept (grown_of_out hb) (by simpa [Value.ownBlock] using hd p hp')
    · exact (hpm.pairwise_iff (fun {x y} h => by
        rcases h with h | h
        · rw [h]; cases y.1.ownBlock <;> simp
        · exact .inr (fun e => h e.symm))).2 hpw

end Go.Proofs.Ytpjmcjdnobihbaa
