/- Contracts: RunoffWinner, the reference's and the program's. No conditions beyond sizes. -/
import Derived.Test.YtgjgdephpliolaaRunL
import Derived.Test.YtgjgdephpliolaaTwo
import Derived.Test.YtgjgdephpliolaaDelI
import Derived.Test.YtgjgdephpliolaaVotes
import Derived.Test.YtgjgdephpliolaaRankX
import Derived.Test.YtgjgdephpliolaaPutW
namespace Go.Proofs.Ytgjgdephpliolaa
open Go.RowKit
set_option linter.unusedVariables false
set_option linter.unusedSimpArgs false

theorem runIt_win0 {rs : List DRanking} {f k : Nat} {am out : List Int} (h0 : 0 < f) (h : majI (totW rs) (fAll am rs rs.length) = some k) : runIt rs f am out = (am.getD k 0, out) := by
  obtain ⟨q, rfl⟩ : ∃ q, f = q + 1 := ⟨f - 1, by omega⟩
  exact runIt_win h
theorem runIt_on0 {rs : List DRanking} {am out : List Int} {m : Nat} (h0 : 0 < am.length) (hm : m = leastI (fAll am rs rs.length) am.length) (hlt : m < am.length) (h : majI (totW rs) (fAll am rs rs.length) = none) :
    runIt rs am.length am out = runIt rs (am.eraseIdx m).length (am.eraseIdx m) (out ++ [am.getD m 0]) := by
  obtain ⟨q, hq⟩ : ∃ q, am.length = q + 1 := ⟨am.length - 1, by omega⟩
  have hl : (am.eraseIdx m).length = q := by rw [List.length_eraseIdx, if_pos hlt]; omega
  rw [hl]
  have h2 := runIt_on (f := q) (am := am) (out := out) h
  rw [← hm] at h2
  rw [hq]
  exact h2
/-- None of the first k has more than half. -/
def NoMaj (T : Int) (vs : List Int) (k : Nat) : Prop := ∀ j (h : j < vs.length), j < k → ¬ T < 2 * vs[j]
theorem NoMaj.out {T : Int} {vs : List Int} {k : Nat} (h : NoMaj T vs k) : ∀ j (h : j < vs.length), j < k → ¬ T < 2 * vs[j] := h
def slen : Value → Nat | .slice _ n _ => n | _ => 0
theorem Left.inj {N : Nat} {am : List Int} (h : Left N am) : ∀ i j (hi : i < am.length) (hj : j < am.length), i ≠ j → am[i] ≠ am[j] := by
  intro i j hi hj hne
  rcases Nat.lt_or_ge i j with h1 | h1
  · have := List.pairwise_iff_getElem.1 h.1 i j hi hj h1; omega
  · have := List.pairwise_iff_getElem.1 h.1 j i hj hi (by omega); omega
theorem erase_cells (am : List Int) (m : Nat) : (ints am).take (m * 1) ++ (ints am).drop ((m + 1) * 1) = ints (am.eraseIdx m) := ints_erase am m
theorem totW_at {rs : List DRanking} {k : Nat} (h : k < rs.length) : totW (rs.take (k + 1)) = totW (rs.take k) + rs[k].weight := by
  rw [take_at h]; simp only [totW, List.map_append, List.sum_append, List.map_cons, List.map_nil, List.sum_cons, List.sum_nil]; omega

theorem s_l13Weight (v : Value) (rs : List DRanking) (w : World) (h : RanksAt w v rs) (hr9 : rs.length ≤ 9) (hw : ∀ r ∈ rs, 1 ≤ r.weight ∧ r.weight ≤ 100) :
    Calls Try.prog 68 #[v] w fun e w' => e = .returned (.int .i64 (totW rs)) ∧ w = w' := by
  obtain ⟨ao, cap, rfl⟩ := h.form
  have HW := Lib.hid hw; clear hw
  go_enter Try.func68, Try.ntmps68
  go_wp2
  go_loop [3, 4] (fun s i => ∃ k : Nat, k ≤ rs.length ∧ i = .int .i64 k ∧ s = .int .i64 (totW (rs.take k))) (fun _ i => rs.length - (intOf i).toNat)
  case atStart => exact ⟨0, by omega, rfl, rfl⟩
  case round =>
    obtain ⟨k, hk, rfl, rfl⟩ := hrel
    by_cases hlt : k < rs.length
    · obtain ⟨b, off, u0, rfl, h4, h5, c0, c1⟩ := h.get hlt
      have ht := totW_at hlt
      have hb := totW_bd (rs := rs.take k) (fun r hr => HW.out r (List.mem_of_mem_take hr))
      have hwk := HW.out _ (List.getElem_mem hlt)
      have hlk : (rs.take k).length ≤ 9 := by simp; omega
      have HT := Lib.hid ht
      clear ht
      generalize rs[k] = r at *
      generalize totW (rs.take k) = s at *
      go_wp2
      go_round
      case rel => exact ⟨k + 1, by omega, by go_num, by rw [HT.out]⟩
      case measure => simp [intOf]; omega
    · obtain rfl : k = rs.length := by omega
      rw [List.take_length]
      go_wp2
      go_ret
      exact ⟨rfl, rfl⟩

set_option maxRecDepth 100000 in
set_option maxHeartbeats 4000000 in
theorem s_RunoffWinner (n : Int) (v : Value) (rs : List DRanking) (w : World) (h : RanksAt w v rs) :
    Calls Try.prog 29 #[.int .i64 n, v] w fun e w' => ∃ p, e = .returned (.tuple #[.int .i64 (runV n rs).1, p, .bool (runV n rs).2.2]) ∧ OwnInts w' w.heap.size p (runV n rs).2.1 ∧ Below w.heap.size w w' := by
  obtain ⟨ao, cap, rfl⟩ := h.form
  obtain ⟨W, hW⟩ : ∃ W, W = w.alloc (.cells #[] 3) := ⟨_, rfl⟩
  have hlit : OwnInts W w.heap.size (.slice (some ⟨w.heap.size, 0, none⟩) 0 0) [] := by rw [hW]; exact own_lit0 w 3
  have hWb : Below w.heap.size w W := by rw [hW]; go_grown
  have hI := h.below hWb
  have HW := Lib.hid hW; clear hW
  have HQ := s_l13Good n _ rs W hI
  cases hok : electOk n rs with
  | false =>
    have HR : runV n rs = (0, [], false) := by simp [runV, hok]
    rw [HR]
    rw [hok] at HQ
    have HQ' := Lib.hid HQ; clear HQ hok HR
    go_enter Try.func29, Try.ntmps29
    go_wp2_with fail
    rw [← HW.out]
    refine HQ'.out.mono ?_
    rintro e w1 ⟨rfl, hb1⟩
    have hl1 := OwnI.below hlit hb1
    go_wp2_with fail
    go_ret3
    exact ⟨_, rfl, hl1, hWb.trans (hb1.mono hWb.size)⟩
  | true =>
    rw [hok] at HQ
    have HQ' := Lib.hid HQ; clear HQ
    obtain ⟨N, rfl, hN1, hN5, hF⟩ := elect_facts hok
    have hr1 : 1 ≤ rs.length := (electOk_parts hok).choose_spec.2.2.2.1
    have HR : runV (N : Int) rs = ((runIt rs N (upFrom 0 N) []).1, (runIt rs N (upFrom 0 N) []).2, true) := by simp [runV, hok]
    rw [HR]
    have HF := Lib.hid hF
    have htot := totW_bd (fun r hr => (hF.2.2 r hr).2)
    have hr9 := hF.1
    clear HR hok hF
    go_enter Try.func29, Try.ntmps29
    go_wp2_with fail
    rw [← HW.out]
    refine HQ'.out.mono ?_
    rintro e w1 ⟨rfl, hb1⟩
    go_wp2_with (go_at_call 53; refine (s_l13All N _ (by omega)).mono ?_; rintro e w3 ⟨p3, rfl, ho3, hb3⟩)
    have hb3' := below_step hb1 hb3
    have hT0 : Two w3 w.heap.size p3 (upFrom 0 N) (.slice (some ⟨w.heap.size, 0, none⟩) 0 0) [] := Two.fresh (u := .slice none 0 0) (am := []) ⟨World.ownsRow_nil _ _ 3 1, OwnI.below hlit hb1, .inl rfl⟩ (Nat.le_trans hWb.size hb1.size) hb3 ho3
    have hB3 : Below w.heap.size w w3 := hWb.trans (hb3'.mono hWb.size)
    clear ho3 hlit
    go_loopw [7, 8] (fun vo va wr => ∃ (am o : List Int), Hid (Left N am ∧ runIt rs N (upFrom 0 N) [] = runIt rs am.length am o) ∧ o.length ≤ 5 - am.length ∧ 0 < am.length ∧ am.length ≤ 5 ∧ Two wr w.heap.size va am vo o ∧ Below w.heap.size w wr ∧ ∃ a k, va = .slice a am.length k) (fun _ va _ => slen va)
    case atStart => exact ⟨upFrom 0 N, [], ⟨Left.all hN1, by simp⟩, by simp, by simp; omega, by simp; omega, hT0, hB3, hT0.1.at_.form⟩
    case round =>
      rename World => wa
      obtain ⟨am, o, hH, hol, ham0, ham5, hT, hba, a0, k0, rfl⟩ := hrel
      obtain ⟨vs, hvs⟩ : ∃ vs, vs = fAll am rs rs.length := ⟨_, rfl⟩
      have hvl : vs.length = am.length := by rw [hvs]; exact fAll_len am rs _
      have hvb : ∀ e ∈ vs, 0 ≤ e ∧ e ≤ 900 := fun e he => by rw [hvs] at he; have := fAll_bd (fun r hr => (HF.out.2.2 r hr).2) rs.length e he; omega
      have HVS := Lib.hid hvs; clear hvs
      have HVB := Lib.hid hvb; clear hvb
      have HVL := Lib.hid hvl; clear hvl
      have hRa := h.below hba
      go_wp2_with (go_at_call 67; refine (s_l13First _ rs _ am _ hRa hT.1.at_ hr9 ham5 HF.out.2.2 (hH.out.1.one (fun r hr => (HF.out.2.1 r hr).1)) hH.out.1.inj).mono ?_; rintro e w4 ⟨p4, rfl, ho4, hb4⟩)
      rw [← HVS.out] at ho4
      have hT4 := hT.below hb4
      have hb4' := below_step hba hb4
      have hI4 := ho4.at_
      obtain ⟨_, a4, k4, rfl, q1, q2, q3⟩ := hI4
      obtain ⟨b4, of4, rfl, hlt4, hcs4⟩ := q3 (by have := HVL.out; omega)
      unfold maxLen at q2
      have hR4 := h.below hb4'
      have hst0 : NoMaj (totW rs) vs 0 := fun j _ h => by omega
      clear q3
      go_loopw [10, 11] (fun l i wi => ∃ k : Nat, k ≤ am.length ∧ i = .int .i64 k ∧ l = .int .i64 (leastI vs k : Nat) ∧ NoMaj (totW rs) vs k ∧ Below w4.heap.size w4 wi) (fun _ i _ => am.length - (intOf i).toNat)
      case atStart => exact ⟨0, by omega, rfl, rfl, hst0, Below.refl _ _⟩
      case round =>
        rename World => wb
        clear hst0
        obtain ⟨k, hk, rfl, rfl, hno, hbn⟩ := hrel
        have hTn := hT4.below hbn
        have hbB := below_step hb4' hbn
        have hRn := h.below hbB
        by_cases hlt : k < am.length
        · have hltv : k < vs.length := by have := HVL.out; omega
          have hll := leastI_lt vs k (by omega) (by omega)
          have hx := HVB.out _ (getD_memy hltv)
          have c0 := hcs4.int hltv
          have c1 := hcs4.int hll
          rw [← getD_eqy hltv] at c0
          rw [← getD_eqy hll] at c1
          have d0 : wb.cell? ⟨b4, of4 + k, none⟩ = some (.int .i64 (vs.getD k 0)) := (hbn.cell (p := ⟨b4, of4 + k, none⟩) hlt4).trans c0
          have d1 : wb.cell? ⟨b4, of4 + leastI vs k, none⟩ = some (.int .i64 (vs.getD (leastI vs k) 0)) := (hbn.cell (p := ⟨b4, of4 + leastI vs k, none⟩) hlt4).trans c1
          have q6 : IntKind.i64.wrap (2 * vs.getD k 0) = 2 * vs.getD k 0 := IntWalk.i64_in _ (by omega)
          have hk0 : (0 : Int) ≤ (k : Int) := by omega
          have hkn : (k : Int) < (am.length : Int) := by omega
          have hkv : (k : Int) < (vs.length : Int) := by omega
          clear c0 c1
          by_cases hmaj : totW rs < 2 * vs.getD k 0
          · have hmj : majI (totW rs) vs = some k := majI_some hltv (fun j hj hjk => hno.out j hj hjk) (by rw [← getD_eqy hltv]; exact hmaj)
            have HR : Hid (runIt rs N (upFrom 0 N) [] = (am.getD k 0, o)) := hH.out.2.trans (runIt_win0 ham0 (by rw [← HVS.out]; exact hmj))
            have hTg := hTn.1.at_
            obtain ⟨_, _, _, hva, _, _, hca⟩ := hTg
            cases hva
            obtain ⟨ba, oa, rfl, hlta, hcsa⟩ := hca (by omega)
            have e0 := hcsa.int hlt
            rw [← getD_eqy hlt] at e0
            have HT1 := Lib.hid hTn.2.1
            clear hmj hno
            generalize vs.getD k 0 = x at *
            generalize am.getD k 0 = y at e0 HR
            go_wp2_with fail
            go_quiet ((go_at_call 68; exact quiet_eq (s_l13Weight _ rs _ (hRn.below (Below.drewN' (Below.refl _ _) _)) hr9 (fun r hr => (HF.out.2.2 r hr).2))))
            go_wp2_with fail
            go_ret3
            rw [HR.out]
            exact ⟨_, rfl, HT1.out, Below.drewN' hbB _⟩
          · have hno' : NoMaj (totW rs) vs (k + 1) := fun j hj hjk => by
              by_cases he : j = k
              · subst he; rw [← getD_eqy hj]; exact hmaj
              · exact hno.out j hj (by omega)
            have hmd : decide (totW rs < 2 * vs.getD k 0) = false := decide_eq_false hmaj
            have hl0 : (0 : Int) ≤ (leastI vs k : Int) := by omega
            have hlv : (leastI vs k : Int) < (vs.length : Int) := by omega
            clear hno
            by_cases hle : vs.getD k 0 ≤ vs.getD (leastI vs k) 0
            · have HL : Hid (leastI vs (k + 1) = k) := leastI_on hle
              generalize vs.getD k 0 = x at *
              generalize vs.getD (leastI vs k) 0 = y at *
              go_wp2_with fail
              go_quiet ((go_at_call 68; exact quiet_eq (s_l13Weight _ rs _ (hRn.below (Below.drewN' (Below.refl _ _) _)) hr9 (fun r hr => (HF.out.2.2 r hr).2))))
              go_wp2_with fail
              go_quiet (fail)
              go_wp2_with fail
              go_roundw
              case rel => exact ⟨k + 1, by omega, by go_num, by rw [HL.out], hno', Below.drewN' hbn _⟩
              case measure => simp [intOf]; omega
            · have HL : Hid (leastI vs (k + 1) = leastI vs k) := leastI_off hle
              have hld : decide (vs.getD k 0 ≤ vs.getD (leastI vs k) 0) = false := decide_eq_false hle
              generalize vs.getD k 0 = x at *
              generalize vs.getD (leastI vs k) 0 = y at *
              go_wp2_with fail
              go_quiet ((go_at_call 68; exact quiet_eq (s_l13Weight _ rs _ (hRn.below (Below.drewN' (Below.refl _ _) _)) hr9 (fun r hr => (HF.out.2.2 r hr).2))))
              go_wp2_with fail
              go_quiet (fail)
              go_wp2_with fail
              go_roundw
              case rel => exact ⟨k + 1, by omega, by go_num, by rw [HL.out], hno', Below.drewN' hbn _⟩
              case measure => simp [intOf]; omega
        · obtain rfl : k = am.length := by omega
          have hmn : majI (totW rs) vs = none := majI_none fun j hj => hno.out j hj (by have := HVL.out; omega)
          rw [HVS.out] at hmn
          have h2 := run_last hH.out.1 HF.out.2.1 hr1 hmn
          obtain ⟨m, hm⟩ : ∃ m, m = leastI vs am.length := ⟨_, rfl⟩
          have hml : m < am.length := by have := leastI_lt vs am.length (by have := HVL.out; omega) (by have := HVL.out; omega); have := HVL.out; omega
          obtain ⟨am', ham'⟩ : ∃ am', am' = am.eraseIdx m := ⟨_, rfl⟩
          have hal' : am'.length = am.length - 1 := by rw [ham', List.length_eraseIdx, if_pos hml]
          have hH' : Hid (Left N am' ∧ runIt rs N (upFrom 0 N) [] = runIt rs am'.length am' (o ++ [am.getD m 0])) := by
            refine ⟨by rw [ham']; exact hH.out.1.erase h2 hml, ?_⟩
            rw [hH.out.2, ham']
            exact runIt_on0 ham0 (by rw [← HVS.out]; exact hm) hml hmn
          have hTg := hTn.1.at_
          obtain ⟨_, _, _, hva, hca0, hca1, hca⟩ := hTg
          cases hva
          obtain ⟨ba, oa, rfl, hlta, hcsa⟩ := hca (by omega)
          have e0 := hcsa.int hml
          rw [← getD_eqy hml] at e0
          have hm0 : (0 : Int) ≤ (m : Int) := by omega
          have hmi : (m : Int) < (am.length : Int) := by omega
          have hcap : am.length ≤ k0 := hca0
          unfold maxLen at hca1
          generalize am.getD m 0 = y at e0 hH'
          rw [← hm]
          have HAM := Lib.hid ham'; have HM := Lib.hid hm
          clear ham' hm hmn hca hca0 hno
          have hBw : w.heap.size ≤ wb.heap.size := hbB.size
          go_wp2_with (at_builtin; refine wpList_push_int2 rfl (.tmp 52) (.tmp 57) _ rfl _ 3 _ int_info Try.underlying27 _ o y rfl hTn.2.1 rfl hBw (by omega) ?_; intro vo' w5 ho5 hg5 hv5)
          have hT5 := hTn.push ho5 hg5 hv5
          have hb5 : Below w.heap.size w w5 := hbB.grown hg5 hBw (fun g hg => (hTn.2.1.lt g hg).1)
          clear hTn e0
          have hI5 := Lib.hid hT5.1.at_
          have hk2 : m ≤ am.length := by omega
          have hk3 : m + 1 ≤ am.length := by omega
          have hkc : (m : Int) ≤ (k0 : Int) := by omega
          have hkl : (m : Int) ≤ (am.length : Int) := by omega
          have hlc : (am.length : Int) ≤ (k0 : Int) := by omega
          have hm1 : IntKind.i64.wrap ((m : Int) + 1) = (m : Int) + 1 := IntWalk.i64_in _ (by omega)
          have hm2 : (0 : Int) ≤ (m : Int) + 1 := by omega
          have hm3 : ((m : Int) + 1).toNat = m + 1 := by omega
          have hm4 : (m : Int) + 1 ≤ (am.length : Int) := by omega
          have HP1 := fun u hu => ints_one am u (List.mem_of_mem_take (i := m * 1) hu)
          have HP3 := fun u hu => ints_one am u (List.mem_of_mem_drop (i := (m + 1) * 1) hu)
          have hE : Hid ((ints am).take (m * 1) ++ (ints am).drop ((m + 1) * 1) = ints am') := by rw [HAM.out]; exact ints_erase am m
          have hL : Hid (m + (am.length - (m + 1)) = am'.length) := by rw [Hid, hal']; omega
          have HAL := Lib.hid hal'; clear hal'
          go_region_held3 (fun w' => Below w5.heap.size w5 w') (first | assumption | exact Below.refl _ _ | exact Below.alloc (by assumption) (Below.size (by assumption)) _ | exact Below.drew (Below.alloc (by assumption) (Below.size (by assumption)) _) | go_grown) (first
            | ((refine step_append_row (by rfl) (.tmp 59) (.tmp 62) _ (by rfl) w5.heap.size 3 _ 1 8 int_info Try.underlying27 (by rfl) (by omega) (by omega) (.slice (some ⟨w5.heap.size, 0, none⟩) 0 0) 0 [] (by rfl) ((own_emptyA w5 3 1).drew) _ m ((ints am).take (m * 1)) (by rfl) (RowAt.head (RowAt.below hI5.out (by assumption)) hk2) HP1 (by omega) (by omega) (Below.size (by assumption)) ?_); (intro v1 w1 o1 g1 a1); (have hb1 : Below w5.heap.size w5 w1 := Below.grown (by assumption) g1 (Below.size (by assumption)) (own_ge (by omega) 0 0)); (simp only [Nat.zero_add, List.nil_append] at o1))
            | ((refine step_append_row (by rfl) (.tmp 63) (.tmp 67) _ (by rfl) w5.heap.size 3 _ 1 8 int_info Try.underlying27 (by rfl) (by omega) (by omega) v1 m ((ints am).take (m * 1)) (by rfl) (o1) _ (am.length - (m + 1)) ((ints am).drop ((m + 1) * 1)) (by rfl) (RowAt.tail2 (RowAt.below hI5.out (by assumption)) hk3) HP3 (by omega) (by omega) (Below.size (by assumption)) ?_); (intro v2 w2 o2 g2 a2); (have hb2 : Below w5.heap.size w5 w2 := Below.grown (by assumption) g2 (Below.size (by assumption)) (fun b hb => (o1.lt b hb).1))))
          all_goals (
            rw [hE.out, hL.out] at o2
            have hT6 := Two.fresh hT5 hb5.size hb2 o2
            have hb6 := below_step hb5 hb2
            obtain ⟨a6, k6, rfl⟩ := hT6.1.at_.form)
          all_goals go_wp2_with fail
          all_goals go_roundw
          all_goals (have hal' := HAL.out)
          all_goals first
            | (case rel => exact ⟨am', o ++ [y], hH', by rw [List.length_append, List.length_singleton]; omega, by omega, by omega, hT6, hb6, _, _, rfl⟩)
            | (case measure => simp only [slen]; omega)

end Go.Proofs.Ytgjgdephpliolaa
