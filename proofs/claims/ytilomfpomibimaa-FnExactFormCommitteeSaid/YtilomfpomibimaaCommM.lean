/- Marks on slices of committees within bounds, with what they hold then; held. No conditions beyond sizes. -/
import Derived.Test.YtilomfpomibimaaMarkT
namespace Go.Proofs.Ytilomfpomibimaa
open Go.RowKit
set_option linter.unusedVariables false
set_option linter.unusedSimpArgs false

def cntC (c : DCommittee) : Nat := c.members.length + 2
def markC (k : Int) (c : DCommittee) : DCommittee := ⟨mt k, upFrom (k + 1) c.members.length, k + 1 + c.members.length⟩
def commSum (xs : List DCommittee) : Nat := sumG cntC xs
abbrev mkCm (k : Int) (xs : List DCommittee) : List DCommittee := mkG cntC markC k xs
theorem commSum_at {xs : List DCommittee} {k : Nat} (h : k < xs.length) : commSum (xs.take (k + 1)) = commSum (xs.take k) + (xs[k].members.length + 2) := sumG_at h
theorem commSum_le {xs : List DCommittee} (h : CommsLe xs) : commSum xs ≤ 1099513724928 := by
  have h1 : commSum xs ≤ 1048578 * xs.length := sumG_le (fun x hx => by have := (h.2 x hx).1; simp only [cntC]; omega)
  have := h.1
  omega

abbrev OwnCN (w : World) (lo hi : Nat) (v : Value) (xs : List DCommittee) : Prop := OwnNN ccell DCommittee.members 3 51 3 w lo hi v xs

set_option maxHeartbeats 4000000 in
theorem markCommitteeS_w (v : Value) (xs : List DCommittee) (lo hi : Nat) (k : Int) (w : World) (h : OwnCN w lo hi v xs) (hk : 0 ≤ k) (hn : k + commSum xs ≤ 9000000000000000000) :
    Calls Try.prog 15 #[v, .int .i64 k] w fun e w' => e = .returned (.int .i64 (k + commSum xs)) ∧ OwnCN w' lo hi v (mkCm k xs) ∧ OutOf lo hi w w' := by
  obtain ⟨us, hul, hown, hin, hap, hdv⟩ := h
  have hsum : ∀ j, commSum (xs.take j) ≤ commSum xs := sumG_take_le cntC xs
  have hfin : ∀ w', OwnIn 51 3 lo hi w' v xs.length (ncs ccell (us.zip (mkCm k xs))) → Inn 3 w' lo hi us ((mkCm k xs).map DCommittee.members) → OwnCN w' lo hi v (mkCm k xs) := fun w' a b =>
    ⟨us, by simpa using hul, by simpa using a, b, hap, hdv⟩
  rcases hown.1.2 with ⟨rfl, hn0⟩ | ⟨g, cap, cur, rfl, hB, hh, hc1, hc2, hc3, hc4⟩
  · have hx0 : xs = [] := List.eq_nil_of_length_eq_zero hn0
    subst hx0
    have hf := hfin w (by simpa [mkCm, mkG] using hown) (by simpa [mkCm, mkG] using hin)
    clear hown hin hsum hfin hul hap hdv
    go_enter Try.func15, Try.ntmps15
    go_wp2
    refine wp_loop_rounds 1 ?_; rw [rounds_succ]; go_wp2
    go_ret
    exact ⟨ret_int (by simp [commSum, sumG]), hf, OutOf.refl _ _ _⟩
  · have hgl := hown.2.1 g rfl
    unfold maxLen at hc2
    have HAP := Lib.hid hap; have HDV := Lib.hid hdv; have HUL := Lib.hid hul; have HSUM := Lib.hid hsum; have HFIN := Lib.hid hfin
    clear hap hdv hul hsum hfin hc3 hc4 hh
    go_enter Try.func15, Try.ntmps15
    go_wp2_with fail
    go_loopw [1, 5] (fun kk i wr => ∃ j : Nat, j ≤ xs.length ∧ i = .int .i64 j ∧ kk = .int .i64 (k + commSum (xs.take j)) ∧ OwnIn 51 3 lo hi wr (.slice (some ⟨g, 0, none⟩) xs.length cap) xs.length (ncs ccell (us.zip (mixG cntC markC k xs j))) ∧ Inn 3 wr lo hi us ((mixG cntC markC k xs j).map DCommittee.members) ∧ OutOf lo hi w wr) (fun _ i _ => xs.length - (intOf i).toNat)
    case atStart => exact ⟨0, by omega, rfl, by simp [commSum, sumG], by simpa using hown, by simpa using hin, OutOf.refl _ _ _⟩
    case round =>
      clear hown hin
      obtain ⟨j, hj, rfl, rfl, hown, hin, hot⟩ := hrel
      by_cases hlt : j < xs.length
      · have hju : j < us.length := by have := HUL.out; omega
        have hml := mixG_len cntC markC k xs j hj
        have hr := hin.2 j hju (by simp [hml, hlt])
        simp only [List.getElem_map, mixG_at _ _ _ _ _ hlt] at hr
        have hnx := mixG_next cntC markC k xs j hlt
        have hs0 := HSUM.out j
        have hs1 := HSUM.out (j + 1)
        have hss := commSum_at hlt
        have hjz : j < (us.zip (mixG cntC markC k xs j)).length := by simp [hml]; omega
        obtain ⟨t, ht⟩ : ∃ t : Int, t = k + commSum (xs.take j) := ⟨_, rfl⟩
        have ht0 : 0 ≤ t := by omega
        have ht1 : t + 1 + xs[j].members.length ≤ 9000000000000000000 := by omega
        have ht2 : t + 1 + xs[j].members.length + 1 ≤ 9000000000000000000 := by omega
        have hte : t + 1 + xs[j].members.length + 1 = k + commSum (xs.take (j + 1)) := by omega
        have hnx2 : mixG cntC markC k xs (j + 1) = (mixG cntC markC k xs j).set j (markC t xs[j]) := by rw [hnx, ht]; rfl
        have hcz : (ncs ccell (us.zip (mixG cntC markC k xs j)))[j * 3 + 1]? = some us[j] := by
          have := flatm_get (fun p : Value × DCommittee => ccell p.1 p.2) 3 (fun _ => rfl) (us.zip (mixG cntC markC k xs j)) j 1 hjz (by omega)
          simpa [ncs, mixG_at _ _ _ _ _ hlt, ccell] using this
        have hcw : ((ncs ccell (us.zip (mixG cntC markC k xs j))).set (j * 3) (.string (mt t)))[j * 3 + 1]? = some us[j] := by
          rw [List.getElem?_set_ne (by omega)]; exact hcz
        have hst0 : ((ncs ccell (us.zip (mixG cntC markC k xs j))).set (j * 3) (.string (mt t))).set (j * 3 + 2) (.int .i64 (t + 1 + xs[j].members.length)) = ncs ccell (us.zip (mixG cntC markC k xs (j + 1))) := by
          have e1 : (ncs ccell (us.zip (mixG cntC markC k xs j))).set (j * 3) (.string (mt t)) = ncs ccell (us.zip ((mixG cntC markC k xs j).set j ⟨mt t, xs[j].members, xs[j].head⟩)) := by
            rw [zip_set _ _ _ (by have := HUL.out; omega) hju]
            exact flat_set (fun p : Value × DCommittee => ccell p.1 p.2) 3 (fun _ => rfl) _ j 0 hjz (by omega) _ _ (by simp [mixG_at _ _ _ _ _ hlt, ccell])
          rw [e1, hnx2]
          have e2 : us.zip ((mixG cntC markC k xs j).set j (markC t xs[j])) = (us.zip ((mixG cntC markC k xs j).set j ⟨mt t, xs[j].members, xs[j].head⟩)).set j (us[j], markC t xs[j]) := by
            rw [zip_set _ _ _ (by have := HUL.out; omega) hju, zip_set _ _ _ (by have := HUL.out; omega) hju, List.set_set]
          rw [e2]
          exact flat_set (fun p : Value × DCommittee => ccell p.1 p.2) 3 (fun _ => rfl) _ j 2 (by simp [hml]; omega) (by omega) _ _ (by simp [ccell, markC])
        have hmap : (mixG cntC markC k xs (j + 1)).map DCommittee.members = ((mixG cntC markC k xs j).map DCommittee.members).set j (upFrom (t + 1) xs[j].members.length) := by rw [hnx2, List.map_set]; rfl
        rw [← ht]
        obtain ⟨au, ku, hu⟩ := hr.at_.form
        have HU := Lib.hid hu
        rw [hu] at hcw hr
        have HCW := Lib.hid hcw
        have HR := Lib.hid hr
        obtain ⟨T, hT⟩ : ∃ T, T = ncs ccell (us.zip (mixG cntC markC k xs (j + 1))) := ⟨_, rfl⟩
        rw [← hT] at hst0
        have HT := Lib.hid hT; have HST := Lib.hid hst0; have HMAP := Lib.hid hmap; have HTE := Lib.hid hte; have HIN := Lib.hid hin; have HOWN := Lib.hid hown
        clear hnx hnx2 hst0 hmap hte hml hin hown hs0 hs1 hss ht hu hr hcz hcw hjz hT
        generalize xs[j] = r at *
        go_wp2_with (go_at_call 54; refine (markText_c _ _ ht0 (by omega)).mono ?_; rintro e w1 ⟨rfl, hb1⟩; have hown1 := OwnIn.keep HOWN.out (below_same hb1 HOWN.out.2.2); have hf1 := hown1.1.frozenAt (j * 3); obtain ⟨y1, hy1⟩ : ∃ y, w1.cell? ⟨g, j * 3, none⟩ = some y := (by rw [hown1.1.cellAt (j * 3) (by omega)]; exact ⟨_, List.getElem?_eq_getElem (by rw [hown1.1.1]; omega)⟩); have hst1 := hown1.1.stored (j * 3) (.string (mt t)); have hc2 : (w1.setCell ⟨g, j * 3, none⟩ (.string (mt t))).cell? ⟨g, j * 3 + 1, none⟩ = some (.slice au r.members.length ku) := (by rw [hst1.1.cellAt (j * 3 + 1) (by omega)]; exact HCW.out))
        have hin1 := (HIN.out.keep (below_same hb1 HOWN.out.2.2)).grown hst1.2 HDV.out
        have hr1 : OwnR 3 w1 lo hi (.slice au r.members.length ku) r.members := HR.out.keep (below_same hb1 HOWN.out.2.2)
        have hd1 := HDV.out _ (List.getElem_mem hju)
        rw [HU.out] at hd1
        have hr2 := hr1.kept' hst1.2 hd1
        have hoA : OutOf lo hi wr w1 := OutOf.of_below hb1
        have hoB : OutOf lo hi w1 (w1.setCell ⟨g, j * 3, none⟩ (.string (mt t))) := OutOf.of_grown hst1.2 (fun b hb => by cases hb; exact ⟨hB, hgl⟩)
        have hoAB := (hot.trans hoA).trans hoB
        have hs2 := hoAB.size
        have HI1 := Lib.hid hin1; have HS1 := Lib.hid hst1
        obtain ⟨w2, hw2⟩ : ∃ w2, w2 = w1.setCell ⟨g, j * 3, none⟩ (.string (mt t)) := ⟨_, rfl⟩
        rw [← hw2] at hr2 hoAB HI1 HS1 hs2 ⊢
        have HR2 := Lib.hid hr2
        clear hin1 hst1 hr2 hr1 hw2 hoA hoB hc2
        refine (markIntS_c lo _ r.members.length (ints r.members) _ _ HR2.out.1 (by omega) (by omega)).mono ?_
        rintro e w3 ⟨rfl, hv3, hg3⟩
        have hrow3 := HS1.out.1.kept hg3 (by
          rcases hd1 with h0 | h0
          · rw [h0]; simp [Value.ownBlock]
          · exact .inr (fun e => h0 e.symm))
        have ho3 : OutOf lo hi w2 w3 := OutOf.of_grown hg3 fun b hb => ⟨(HR2.out.1.lt b hb).1, HR2.out.2.1 b hb⟩
        have hs3 := ho3.size
        have hin3 : Inn 3 w3 lo hi us ((mixG cntC markC k xs (j + 1)).map DCommittee.members) := by
          rw [HMAP.out]
          refine Inn.mark HI1.out HAP.out hju (by rw [HU.out]; exact hg3) ?_
          rw [HU.out]
          exact ⟨by simpa using hv3, HR2.out.2.1, Nat.le_trans HR2.out.2.2 hs3⟩
        have hst3 := hrow3.stored (j * 3 + 2) (.int .i64 (t + 1 + r.members.length))
        rw [HST.out] at hst3
        have hgh : OutOf lo hi w3 (w3.setCell ⟨g, j * 3 + 2, none⟩ (.int .i64 (t + 1 + r.members.length))) := OutOf.of_grown hst3.2 (fun b hb => by cases hb; exact ⟨hB, hgl⟩)
        have hin4 := hin3.grown hst3.2 HDV.out
        have hown4 : OwnIn 51 3 lo hi (w3.setCell ⟨g, j * 3 + 2, none⟩ (.int .i64 (t + 1 + r.members.length))) (.slice (some ⟨g, 0, none⟩) xs.length cap) xs.length T := ⟨hst3.1, HOWN.out.2.1, by have := hgh.size; have := hs3; have := HR2.out.2.2; omega⟩
        have hf3 := hrow3.frozenAt (j * 3 + 2)
        obtain ⟨y3, hy3⟩ : ∃ y, w3.cell? ⟨g, j * 3 + 2, none⟩ = some y := by
          rw [hrow3.cellAt (j * 3 + 2) (by omega)]; exact ⟨_, List.getElem?_eq_getElem (by rw [hrow3.1]; omega)⟩
        have hot' := (hoAB.trans ho3).trans hgh
        have HI4 := Lib.hid hin4; clear hin3 hin4 hd1 hst3
        go_wp2_with fail
        go_roundw
        case rel => exact ⟨j + 1, by omega, by go_num, by rw [HTE.out], by rw [← HT.out]; exact hown4, HI4.out, hot'⟩
        case measure => simp [intOf]; omega
      · obtain rfl : j = xs.length := by omega
        rw [mixG_done] at hown hin
        rw [List.take_length]
        have hf := HFIN.out _ hown hin
        clear hin hown
        go_wp2_with fail
        go_ret
        exact ⟨rfl, hf, hot⟩

theorem markCommitteeS_r (v : Value) (xs : List DCommittee) (lo hi : Nat) (k : Int) (w : World) (h : OwnCN w lo hi v xs) (hk : 0 ≤ k ∧ k ≤ 1000) (hn : CommsLe xs) :
    Calls Try.prog 15 #[v, .int .i64 k] w fun e w' => e = .returned (.int .i64 (k + commSum xs)) ∧ OwnCN w' lo hi v (mkCm k xs) ∧ OutOf lo hi w w' :=
  markCommitteeS_w v xs lo hi k w h hk.1 (by have := commSum_le hn; omega)

set_option maxHeartbeats 2000000 in
theorem heldCommitteeS_n (v : Value) (xs : List DCommittee) (k : Int) (w : World) (h : CommsAt w v (mkCm k xs)) (hk : 0 ≤ k) (hk2 : k + commSum xs ≤ 9000000000000000000) :
    Calls Try.prog 20 #[v, .int .i64 k] w fun e w' => e = .returned (.int .i64 (k + commSum xs)) ∧ Below w.heap.size w w' := by
  have hL := h.len
  unfold maxLen at hL
  have hsum : ∀ j, commSum (xs.take j) ≤ commSum xs := sumG_take_le cntC xs
  have HSUM := Lib.hid hsum; clear hsum
  obtain ⟨ao, cap, rfl⟩ := h.form
  simp only [mkG_len] at *
  go_enter Try.func20, Try.ntmps20
  go_wp2_with fail
  go_loopw [1, 5] (fun kk i wr => ∃ j : Nat, j ≤ xs.length ∧ i = .int .i64 j ∧ kk = .int .i64 (k + commSum (xs.take j)) ∧ Below w.heap.size w wr) (fun _ i _ => xs.length - (intOf i).toNat)
  case atStart => exact ⟨0, by omega, rfl, by simp [commSum, sumG], Below.refl _ _⟩
  case round =>
    obtain ⟨j, hj, rfl, rfl, hb⟩ := hrel
    by_cases hlt : j < xs.length
    · have hb' := h.below hb
      rw [← mkG_len cntC markC k xs] at hb'
      obtain ⟨b, off, u0, rfl, h4, h5, c0, c1, c2⟩ := CommsAt.get hb' (k := j) (by simpa using hlt)
      rw [mkG_get _ _ _ _ _ hlt] at h5 c0 c2
      simp only [markC] at h5 c0 c2
      have hs0 := HSUM.out j
      have hs1 := HSUM.out (j + 1)
      have hss := commSum_at hlt
      obtain ⟨t, ht⟩ : ∃ t : Int, t = k + commSum (xs.take j) := ⟨_, rfl⟩
      have hts : k + sumG cntC (xs.take j) = t := ht.symm
      rw [hts] at h5 c0 c2
      have ht0 : 0 ≤ t := by omega
      have ht1 : t + 1 + xs[j].members.length ≤ 9000000000000000000 := by omega
      have ht2 : t + 1 + xs[j].members.length + 1 ≤ 9000000000000000000 := by omega
      have htn : ¬ t + 1 + xs[j].members.length < 0 := by omega
      have hte : t + 1 + xs[j].members.length + 1 = k + commSum (xs.take (j + 1)) := by omega
      rw [← ht]
      obtain ⟨a1, k1, rfl⟩ := h5.form
      have HTE := Lib.hid hte
      have hbe : ((mt t).toList == (mt t).toList) = true := by simp
      have hk0 : (0 : Int) ≤ (j : Int) := by omega
      have hk1 : (j : Int) < (xs.length : Int) := by omega
      have r0 := BW.cell h4 c0
      have hq := fun x : BW wr => markText_c t x.w ht0 (by omega)
      have HQ := Lib.hid hq; have H5 := Lib.hid h5
      have C1 := Lib.hid c1; have C2 := Lib.hid c2
      clear hb' ht hts hte hs0 hs1 hss hq h5 c1 c2 c0
      generalize xs[j] = r at *
      generalize mt t = m at *
      simp only [upFrom_length] at *
      go_wp2_with fail
      refine wp_region_bw (by kernel_rfl) (by kernel_rfl) ?_
      repeat (first
        | go_big_quiet_skip
        | (go_big_quiet_want; go_big_quiet_op; first | go_big_quiet_on | (apply Exists.intro; refine ⟨fun _ => ?_, ?_⟩; ((go_at_call 54; exact BW.call (HQ.out _))); go_big_quiet_on)))
      refine wpQuiet_nil ?_
      rintro _ ⟨xq, rfl⟩
      have h5' := H5.out.below xq.h
      have d1 := (xq.h.cell (p := ⟨b, off + j * 3 + 1, none⟩) h4).trans C1.out
      have hbA := below_step hb xq.h
      go_wp2_with fail
      refine (heldIntS_n _ r.members _ _ h5' (by omega) (by omega)).mono ?_
      rintro e w1 ⟨rfl, hb1⟩
      have hbb := below_step hbA hb1
      have d2 := ((below_step xq.h hb1).cell (p := ⟨b, off + j * 3 + 2, none⟩) h4).trans C2.out
      have hbn : ((t + 1 + (r.members.length : Int)) != (t + 1 + (r.members.length : Int))) = false := by simp
      go_wp2_with fail
      go_roundw
      case rel => exact ⟨j + 1, by omega, by go_num, by rw [HTE.out], hbb⟩
      case measure => simp [intOf]; omega
    · obtain rfl : j = xs.length := by omega
      rw [List.take_length]
      go_wp2_with fail
      go_ret
      exact ⟨rfl, hb⟩

end Go.Proofs.Ytilomfpomibimaa
