/- Contract: RunoffWinner, the program's. No conditions beyond sizes. -/
import Derived.Test.YtgjgdephpliolaaRunW
namespace Go.Proofs.Ytgjgdephpliolaa
open Go.RowKit
set_option linter.unusedVariables false
set_option linter.unusedSimpArgs false

/-- The first one is cut in its own memory. -/
theorem Two.cut {w w' : World} {B : Nat} {u u' v : Value} {am am' o : List Int} (h : Two w B u am v o) (hu : OwnI 3 w' B u' am') (he : u'.ownBlock = u.ownBlock) (hg : w.grownBy w' u.ownBlock) : Two w' B u' am' v o := by
  obtain ⟨h1, h2, h3⟩ := h
  refine ⟨hu, h2.kept hg ?_, by rw [he]; exact h3⟩
  cases hv : v.ownBlock with
  | none => exact .inl rfl
  | some g =>
    refine .inr fun hc => ?_
    rcases h3 with h4 | h4
    · rw [h4] at hc; cases hc
    · exact h4 (by rw [hv]; exact hc.symm)

set_option maxRecDepth 100000 in
set_option maxHeartbeats 4000000 in
theorem i_RunoffWinner (n : Int) (v : Value) (rs : List DRanking) (w : World) (h : RanksAt w v rs) :
    Calls Try.prog 31 #[.int .i64 n, v] w fun e w' => ∃ p, e = .returned (.tuple #[.int .i64 (runV n rs).1, p, .bool (runV n rs).2.2]) ∧ OwnInts w' w.heap.size p (runV n rs).2.1 ∧ Below w.heap.size w w' := by
  obtain ⟨ao, cap, rfl⟩ := h.form
  have HQ := i_IsElection n _ rs w h
  cases hok : electOk n rs with
  | false =>
    have HR : runV n rs = (0, [], false) := by simp [runV, hok]
    rw [HR]
    rw [hok] at HQ
    have HQ' := Lib.hid HQ; clear HQ hok HR
    go_enter Try.func31, Try.ntmps31
    go_wp2_with (go_at_call 38; refine HQ'.out.mono ?_; rintro e w1 ⟨rfl, hb1⟩)
    go_ret3
    exact ⟨_, rfl, World.ownsRow_nil _ _ 3 1, hb1⟩
  | true =>
    rw [hok] at HQ
    have HQ' := Lib.hid HQ; clear HQ
    obtain ⟨N, rfl, hN1, hN5, hF⟩ := elect_facts hok
    have hr1 : 1 ≤ rs.length := (electOk_parts hok).choose_spec.2.2.2.1
    have HR : runV (N : Int) rs = ((runIt rs N (upFrom 0 N) []).1, (runIt rs N (upFrom 0 N) []).2, true) := by simp [runV, hok]
    rw [HR]
    have HF := Lib.hid hF
    have htot := totW_bd (fun r hr => (hF.2.2 r hr).2)
    have hr9 := hF.1
    clear HR hok hF
    go_enter Try.func31, Try.ntmps31
    go_wp2_with (first | (go_at_call 38; refine HQ'.out.mono ?_; rintro e w1 ⟨rfl, hb1⟩) | (go_at_call 49; refine (i_upTo N _ (by omega)).mono ?_; rintro e w3 ⟨p3, rfl, ho3, hb3⟩))
    have hb3' := below_step hb1 hb3
    have hlit : OwnInts (w3.alloc (.cells #[] 3)) w3.heap.size (.slice (some ⟨w3.heap.size, 0, none⟩) 0 0) [] := own_lit0 w3 3
    have hal : Below w3.heap.size w3 (w3.alloc (.cells #[] 3)) := (Below.refl _ _).alloc (Nat.le_refl _) _
    have hT0 : Two (w3.alloc (.cells #[] 3)) w.heap.size p3 (upFrom 0 N) (.slice (some ⟨w3.heap.size, 0, none⟩) 0 0) [] := by
      refine ⟨own_base (OwnI.below ho3 hal) hb1.size, own_base hlit hb3'.size, ?_⟩
      cases hu : p3.ownBlock with
      | none => exact .inl rfl
      | some g =>
        refine .inr fun hc => ?_
        have := (ho3.lt g hu).2
        simp only [Value.ownBlock, Option.some.injEq] at hc
        omega
    have hB3 := below_step hb3' hal
    clear ho3 hlit hal
    go_loopw [7, 8] (fun va vo wr => ∃ (am o : List Int), Hid (Left N am ∧ runIt rs N (upFrom 0 N) [] = runIt rs am.length am o) ∧ o.length ≤ 5 - am.length ∧ 0 < am.length ∧ am.length ≤ 5 ∧ Two wr w.heap.size va am vo o ∧ Below w.heap.size w wr ∧ ∃ a k, va = .slice a am.length k) (fun va _ _ => slen va)
    case atStart => exact ⟨upFrom 0 N, [], ⟨Left.all hN1, by simp⟩, by simp, by simp; omega, by simp; omega, hT0, hB3, hT0.1.at_.form⟩
    case round =>
      rename World => wa
      obtain ⟨am, o, hH, hol, ham0, ham5, hT, hba, a0, k0, rfl⟩ := hrel
      obtain ⟨vs, hvs⟩ : ∃ vs, vs = fAll am rs rs.length := ⟨_, rfl⟩
      have hvl : vs.length = am.length := by rw [hvs]; exact fAll_len am rs _
      have hvb : ∀ e ∈ vs, 0 ≤ e ∧ e ≤ 900 := fun e he => by rw [hvs] at he; have := fAll_bd (fun r hr => (HF.out.2.2 r hr).2) rs.length e he; omega
      have hvt : vs.sum = totW rs := by rw [hvs]; exact fAll_tot (hH.out.1.one (fun r hr => (HF.out.2.1 r hr).1))
      have hv0 : 0 < vs.length := by omega
      have hv8 : vs.length ≤ 5 := by omega
      have hmb := hvb _ (mxK_mem vs vs.length hv0 (Nat.le_refl _))
      have HMB : Hid (IntKind.i64.wrap (2 * mxK vs vs.length) = 2 * mxK vs vs.length) := IntWalk.i64_in _ (by omega)
      have HVS := Lib.hid hvs; clear hvs
      have HVB := Lib.hid hvb; clear hvb
      have HVL := Lib.hid hvl; clear hvl
      have HVT := Lib.hid hvt; clear hvt
      have hRa := h.below hba
      by_cases hmaj : vs.sum < 2 * mxK vs vs.length
      · obtain ⟨k, hk, hk1, hk2, hk3⟩ := majI_max (fun x hx => (HVB.out x hx).1) hv0 hmaj
        rw [HVT.out, HVS.out] at hk1
        have HR : Hid (runIt rs N (upFrom 0 N) [] = (am.getD k 0, o)) := hH.out.2.trans (runIt_win0 ham0 hk1)
        have hka : k < am.length := by have := HVL.out; omega
        have HK := Lib.hid hk2
        have HT1 := Lib.hid hT
        clear hk1 hk2 hk3
        generalize hgM : mxK vs vs.length = M at *
        have HGM := Lib.hid hgM; clear hgM
        go_wp2_with (first
          | (go_at_call 70; refine (i_firstVotes _ rs _ am _ hRa hT.1.at_ hr9 ham5 HF.out.2.2).mono ?_; rintro e w4 ⟨p4, rfl, ho4, hb4⟩; rw [← HVS.out] at ho4; obtain ⟨a4, k4, rfl⟩ := ho4.at_.form)
          | (go_at_call 71; refine (slices_Max _ vs _ ho4.at_ hv0).mono ?_; rw [HGM.out]; rintro e w' ⟨rfl, rfl⟩)
          | (go_at_call 72; refine (i_sumInts _ vs _ ho4.at_ (fun x hx => by have := HVB.out x hx; omega) (by omega)).mono ?_; rintro e w' ⟨rfl, rfl⟩)
          | (go_at_call 55; refine (slices_Index _ vs _ _ ho4.at_).mono ?_; rw [HK.out]; rintro e w' ⟨rfl, rfl⟩; (have hTg := (HT1.out.below hb4).1.at_; obtain ⟨_, _, _, hva, _, _, hca⟩ := hTg; cases hva; obtain ⟨ba, oa, rfl, hlta, hcsa⟩ := hca (by omega); have e0 := hcsa.int hka; rw [← getD_eqy hka] at e0; generalize am.getD k 0 = y at e0 HR)))
        go_ret3
        rw [HR.out]
        exact ⟨_, rfl, (HT1.out.below hb4).2.1, below_step hba hb4⟩
      · have hmn := majI_low hv0 hmaj
        rw [HVT.out, HVS.out] at hmn
        have h2 := run_last hH.out.1 HF.out.2.1 hr1 hmn
        have hmd : decide (vs.sum < 2 * mxK vs vs.length) = false := decide_eq_false hmaj
        generalize hgM : mxK vs vs.length = M at *
        have HGM := Lib.hid hgM; clear hgM
        go_wp2_with (first
          | (go_at_call 70; refine (i_firstVotes _ rs _ am _ hRa hT.1.at_ hr9 ham5 HF.out.2.2).mono ?_; rintro e w4 ⟨p4, rfl, ho4, hb4⟩; rw [← HVS.out] at ho4; obtain ⟨a4, k4, rfl⟩ := ho4.at_.form)
          | (go_at_call 71; refine (slices_Max _ vs _ ho4.at_ hv0).mono ?_; rw [HGM.out]; rintro e w' ⟨rfl, rfl⟩)
          | (go_at_call 72; refine (i_sumInts _ vs _ ho4.at_ (fun x hx => by have := HVB.out x hx; omega) (by omega)).mono ?_; rintro e w' ⟨rfl, rfl⟩))
        have hT4 := hT.below hb4
        have hb4' := below_step hba hb4
        have hI4 := ho4.at_
        obtain ⟨_, _, _, hv4, q1, q2, q3⟩ := hI4
        cases hv4
        obtain ⟨b4, of4, rfl, hlt4, hcs4⟩ := q3 (by omega)
        unfold maxLen at q2
        clear q3
        go_loopw [11, 40] (fun l i wi => ∃ k : Nat, k ≤ vs.length ∧ i = .int .i64 k ∧ l = .int .i64 (leastI vs k : Nat) ∧ w4 = wi) (fun _ i _ => vs.length - (intOf i).toNat)
        case atStart => exact ⟨0, by omega, rfl, rfl, rfl⟩
        case round =>
          obtain ⟨k, hk, rfl, rfl, rfl⟩ := hrel
          by_cases hlt : k < vs.length
          · have hll := leastI_lt vs k (by omega) (by omega)
            have c0 := hcs4.int hlt
            have c1 := hcs4.int hll
            rw [← getD_eqy hlt] at c0
            rw [← getD_eqy hll] at c1
            by_cases hle : vs.getD k 0 ≤ vs.getD (leastI vs k) 0
            · have HL : Hid (leastI vs (k + 1) = k) := leastI_on hle
              generalize vs.getD k 0 = x at *
              generalize vs.getD (leastI vs k) 0 = y at *
              go_wp2_with fail
              go_roundw
              case rel => exact ⟨k + 1, by omega, by go_num, by rw [HL.out], by trivial⟩
              case measure => simp [intOf]; omega
            · have HL : Hid (leastI vs (k + 1) = leastI vs k) := leastI_off hle
              have hld : decide (vs.getD k 0 ≤ vs.getD (leastI vs k) 0) = false := decide_eq_false hle
              generalize vs.getD k 0 = x at *
              generalize vs.getD (leastI vs k) 0 = y at *
              go_wp2_with fail
              go_roundw
              case rel => exact ⟨k + 1, by omega, by go_num, by rw [HL.out], by trivial⟩
              case measure => simp [intOf]; omega
          · obtain rfl : k = vs.length := by omega
            obtain ⟨m, hm⟩ : ∃ m, m = leastI vs vs.length := ⟨_, rfl⟩
            have hml : m < am.length := by have := leastI_lt vs vs.length hv0 (Nat.le_refl _); have := HVL.out; omega
            have hm' : m = leastI (fAll am rs rs.length) am.length := by rw [hm, ← HVS.out, HVL.out]
            obtain ⟨am', ham'⟩ : ∃ am', am' = am.eraseIdx m := ⟨_, rfl⟩
            have hal' : am'.length = am.length - 1 := by rw [ham', List.length_eraseIdx, if_pos hml]
            have hH' : Hid (Left N am' ∧ runIt rs N (upFrom 0 N) [] = runIt rs am'.length am' (o ++ [am.getD m 0])) := by
              refine ⟨by rw [ham']; exact hH.out.1.erase h2 hml, ?_⟩
              rw [hH.out.2, ham']
              exact runIt_on0 ham0 hm' hml hmn
            have hTg := hT4.1.at_
            obtain ⟨_, _, _, hva, hca0, hca1, hca⟩ := hTg
            cases hva
            obtain ⟨ba, oa, rfl, hlta, hcsa⟩ := hca (by omega)
            have e0 := hcsa.int hml
            rw [← getD_eqy hml] at e0
            generalize am.getD m 0 = y at e0 hH'
            rw [← hm]
            have HAM := Lib.hid ham'; have HAL := Lib.hid hal'
            clear ham' hal' hm hm' hmn hca hca0
            have hBw : w.heap.size ≤ w4.heap.size := hb4'.size
            go_wp2_with (first
              | (at_builtin; refine wpList_push_int2 rfl (.tmp 53) (.tmp 58) _ rfl _ 3 _ int_info Try.underlying27 _ o y rfl hT4.2.1 rfl hBw (by omega) ?_; intro vo' w5 ho5 hg5 hv5; have hT5 := hT4.push ho5 hg5 hv5; have hb5 : Below w.heap.size w w5 := hb4'.grown hg5 hBw (fun g hg => (hT4.2.1.lt g hg).1))
              | (go_at_call 73; refine (slices_Delete_int _ am m _ _ hT5.1 hml hb5.size).mono ?_; rintro e w6 ⟨u6, rfl, ho6, he6, hg6⟩; rw [← HAM.out] at ho6; have hT6 := Two.cut hT5 ho6 he6 hg6; have hb6 : Below w.heap.size w w6 := hb5.grown hg6 hb5.size (fun g hg => (hT5.1.lt g hg).1); obtain ⟨a6, k6, rfl⟩ := hT6.1.at_.form))
            go_roundw
            case rel => exact ⟨am', o ++ [y], hH', by have := HAL.out; rw [List.length_append, List.length_singleton]; omega, by have := HAL.out; omega, by have := HAL.out; omega, hT6, hb6, _, _, rfl⟩
            case measure => have := HAL.out; simp only [slen]; omega

end Go.Proofs.Ytgjgdephpliolaa
