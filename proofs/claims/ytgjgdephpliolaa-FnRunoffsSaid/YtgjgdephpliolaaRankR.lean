/- Marks on slices of rankings within bounds, with what they hold then; held. No conditions beyond sizes. -/
import Derived.Test.YtgjgdephpliolaaRankS
import Derived.Test.YtgjgdephpliolaaNestM
namespace Go.Proofs.Ytgjgdephpliolaa
open Go.RowKit
set_option linter.unusedVariables false
set_option linter.unusedSimpArgs false

def cntR (r : DRanking) : Nat := r.order.length + 1
def markR (k : Int) (r : DRanking) : DRanking := ⟨upFrom k r.order.length, k + r.order.length⟩
def rankSum (xs : List DRanking) : Nat := sumG cntR xs
abbrev mkRk (k : Int) (xs : List DRanking) : List DRanking := mkG cntR markR k xs
theorem rankSum_at {xs : List DRanking} {k : Nat} (h : k < xs.length) : rankSum (xs.take (k + 1)) = rankSum (xs.take k) + xs[k].order.length + 1 := sumG_at h
theorem rankSum_le {xs : List DRanking} (h : ∀ r ∈ xs, r.order.length ≤ 1048576) : rankSum xs ≤ 1048577 * xs.length := sumG_le (fun x hx => by have := h x hx; simp only [cntR]; omega)
theorem rankSum_take {xs : List DRanking} (h : RanksLe xs) (k : Nat) : rankSum (xs.take k) ≤ 1099512676352 := by
  have h1 := rankSum_le (xs := xs.take k) (fun r hr => h.2 r (List.mem_of_mem_take hr))
  have h2 := h.1
  have h3 : (xs.take k).length ≤ 1048576 := by simp; omega
  have := Nat.mul_le_mul_left 1048577 h3
  omega

abbrev OwnRN (w : World) (lo hi : Nat) (v : Value) (xs : List DRanking) : Prop := OwnNN rcell DRanking.order 2 44 3 w lo hi v xs

set_option maxHeartbeats 2000000 in
theorem markRankingS_w (v : Value) (xs : List DRanking) (lo hi : Nat) (k : Int) (w : World) (h : OwnRN w lo hi v xs) (hk : 0 ≤ k) (hn : k + rankSum xs ≤ 9000000000000000000) :
    Calls Try.prog 34 #[v, .int .i64 k] w fun e w' => e = .returned (.int .i64 (k + rankSum xs)) ∧ OwnRN w' lo hi v (mkRk k xs) ∧ OutOf lo hi w w' := by
  obtain ⟨us, hul, hown, hin, hap, hdv⟩ := h
  have hsum : ∀ j, rankSum (xs.take j) ≤ rankSum xs := sumG_take_le cntR xs
  have hfin : ∀ w', OwnIn 44 2 lo hi w' v xs.length (ncs rcell (us.zip (mkRk k xs))) → Inn 3 w' lo hi us ((mkRk k xs).map DRanking.order) → OwnRN w' lo hi v (mkRk k xs) := fun w' a b =>
    ⟨us, by simpa using hul, by simpa using a, b, hap, hdv⟩
  rcases hown.1.2 with ⟨rfl, hn0⟩ | ⟨g, cap, cur, rfl, hB, hh, hc1, hc2, hc3, hc4⟩
  · have hx0 : xs = [] := List.eq_nil_of_length_eq_zero hn0
    subst hx0
    have hf := hfin w (by simpa [mkRk, mkG] using hown) (by simpa [mkRk, mkG] using hin)
    clear hown hin hsum hfin hul hap hdv
    go_enter Try.func34, Try.ntmps34
    go_wp2
    refine wp_loop_rounds 1 ?_; rw [rounds_succ]; go_wp2
    go_ret
    exact ⟨ret_int (by simp [rankSum, sumG]), hf, OutOf.refl _ _ _⟩
  · have hgl := hown.2.1 g rfl
    unfold maxLen at hc2
    have HAP := Lib.hid hap; have HDV := Lib.hid hdv; have HUL := Lib.hid hul; have HSUM := Lib.hid hsum; have HFIN := Lib.hid hfin
    clear hap hdv hul hsum hfin hc3 hc4 hh
    go_enter Try.func34, Try.ntmps34
    go_wp2_with fail
    go_loopw [1, 5] (fun kk i wr => ∃ j : Nat, j ≤ xs.length ∧ i = .int .i64 j ∧ kk = .int .i64 (k + rankSum (xs.take j)) ∧ OwnIn 44 2 lo hi wr (.slice (some ⟨g, 0, none⟩) xs.length cap) xs.length (ncs rcell (us.zip (mixG cntR markR k xs j))) ∧ Inn 3 wr lo hi us ((mixG cntR markR k xs j).map DRanking.order) ∧ OutOf lo hi w wr) (fun _ i _ => xs.length - (intOf i).toNat)
    case atStart => exact ⟨0, by omega, rfl, by simp [rankSum, sumG], by simpa using hown, by simpa using hin, OutOf.refl _ _ _⟩
    case round =>
      clear hown hin
      obtain ⟨j, hj, rfl, rfl, hown, hin, hot⟩ := hrel
      by_cases hlt : j < xs.length
      · have hju : j < us.length := by have := HUL.out; omega
        have hml := mixG_len cntR markR k xs j hj
        have hr := hin.2 j hju (by simp [hml, hlt])
        simp only [List.getElem_map, mixG_at _ _ _ _ _ hlt] at hr
        have hnx := mixG_next cntR markR k xs j hlt
        have hs0 := HSUM.out j
        have hs1 := HSUM.out (j + 1)
        have hss := rankSum_at hlt
        have hjz : j < (us.zip (mixG cntR markR k xs j)).length := by simp [hml]; omega
        have hcz : ∀ i, i < 2 → (ncs rcell (us.zip (mixG cntR markR k xs j)))[j * 2 + i]? = (rcell us[j] xs[j])[i]? := fun i hi => by
          have := flatm_get (fun p : Value × DRanking => rcell p.1 p.2) 2 (fun _ => rfl) (us.zip (mixG cntR markR k xs j)) j i hjz hi
          simpa [ncs, mixG_at _ _ _ _ _ hlt] using this
        have hcj : wr.cell? ⟨g, j * 2, none⟩ = some us[j] := by rw [hown.1.cellAt (j * 2) (by omega)]; simpa [rcell] using hcz 0 (by omega)
        obtain ⟨t, ht⟩ : ∃ t : Int, t = k + rankSum (xs.take j) := ⟨_, rfl⟩
        have ht0 : 0 ≤ t := by omega
        have ht1 : t + xs[j].order.length ≤ 9000000000000000000 := by omega
        have ht2 : t + xs[j].order.length + 1 ≤ 9000000000000000000 := by omega
        have hte : t + xs[j].order.length + 1 = k + rankSum (xs.take (j + 1)) := by omega
        have hnx2 : mixG cntR markR k xs (j + 1) = (mixG cntR markR k xs j).set j (markR t xs[j]) := by rw [hnx, ht]; rfl
        have hst0 : (ncs rcell (us.zip (mixG cntR markR k xs j))).set (j * 2 + 1) (.int .i64 (t + xs[j].order.length)) = ncs rcell (us.zip (mixG cntR markR k xs (j + 1))) := by
          rw [hnx2, zip_set _ _ _ (by have := HUL.out; omega) hju]
          exact flat_set (fun p : Value × DRanking => rcell p.1 p.2) 2 (fun _ => rfl) _ j 1 hjz (by omega) _ _ (by simp [mixG_at _ _ _ _ _ hlt, rcell, markR])
        have hmap : (mixG cntR markR k xs (j + 1)).map DRanking.order = ((mixG cntR markR k xs j).map DRanking.order).set j (upFrom t xs[j].order.length) := by rw [hnx2, List.map_set]; rfl
        rw [← ht]
        obtain ⟨au, ku, hu⟩ := hr.at_.form
        have HU := Lib.hid hu
        rw [hu] at hcj hr
        have HR := Lib.hid hr
        have HST := Lib.hid hst0; have HMAP := Lib.hid hmap; have HTE := Lib.hid hte; have HIN := Lib.hid hin
        clear hnx hnx2 hst0 hmap hte hml hin hs0 hs1 hss ht hu hr hcz hjz
        generalize xs[j] = r at *
        obtain ⟨T, hT⟩ : ∃ T, T = ncs rcell (us.zip (mixG cntR markR k xs (j + 1))) := ⟨_, rfl⟩
        have HST2 : Hid ((ncs rcell (us.zip (mixG cntR markR k xs j))).set (j * 2 + 1) (.int .i64 (t + r.order.length)) = T) := by rw [hT]; exact HST.out
        have HT := Lib.hid hT; clear hT
        go_wp2_with fail
        refine (markIntS_c lo _ r.order.length (ints r.order) _ _ HR.out.1 ht0 ht1).mono ?_
        rintro e w1 ⟨rfl, hv1, hg1⟩
        have ho1 : OutOf lo hi wr w1 := OutOf.of_grown hg1 fun b hb => ⟨(HR.out.1.lt b hb).1, HR.out.2.1 b hb⟩
        have hs1 := ho1.size
        have hd1 := HDV.out _ (List.getElem_mem hju)
        rw [HU.out] at hd1
        have hrow1 := hown.1.kept hg1 (by
          rcases hd1 with h0 | h0
          · rw [h0]; simp [Value.ownBlock]
          · exact .inr (fun e => h0 e.symm))
        have hin1 : Inn 3 w1 lo hi us ((mixG cntR markR k xs (j + 1)).map DRanking.order) := by
          rw [HMAP.out]
          refine Inn.mark HIN.out HAP.out hju (by rw [HU.out]; exact hg1) ?_
          rw [HU.out]
          exact ⟨by simpa using hv1, HR.out.2.1, Nat.le_trans HR.out.2.2 hs1⟩
        have hst := hrow1.stored (j * 2 + 1) (.int .i64 (t + r.order.length))
        rw [HST2.out] at hst
        have hgh : OutOf lo hi w1 (w1.setCell ⟨g, j * 2 + 1, none⟩ (.int .i64 (t + r.order.length))) := OutOf.of_grown hst.2 (fun b hb => by cases hb; exact ⟨hB, hgl⟩)
        have hin2 := hin1.grown hst.2 HDV.out
        have hown2 : OwnIn 44 2 lo hi (w1.setCell ⟨g, j * 2 + 1, none⟩ (.int .i64 (t + r.order.length))) (.slice (some ⟨g, 0, none⟩) xs.length cap) xs.length T := ⟨hst.1, hown.2.1, by have := hgh.size; have := hown.2.2; omega⟩
        have hf1 := hrow1.frozenAt (j * 2 + 1)
        obtain ⟨y1, hy1⟩ : ∃ y, w1.cell? ⟨g, j * 2 + 1, none⟩ = some y := by
          rw [hrow1.cellAt (j * 2 + 1) (by omega)]; exact ⟨_, List.getElem?_eq_getElem (by rw [hrow1.1]; omega)⟩
        have hot' := (hot.trans ho1).trans hgh
        have HI2 := Lib.hid hin2; clear hin1 hin2 hd1 hst
        go_wp2_with fail
        go_roundw
        case rel => exact ⟨j + 1, by omega, by go_num, by rw [HTE.out], by rw [← HT.out]; exact hown2, HI2.out, hot'⟩
        case measure => simp [intOf]; omega
      · obtain rfl : j = xs.length := by omega
        rw [mixG_done] at hown hin
        rw [List.take_length]
        have hf := HFIN.out _ hown hin
        clear hin hown
        go_wp2_with fail
        go_ret
        exact ⟨rfl, hf, hot⟩

theorem markRankingS_r (v : Value) (xs : List DRanking) (lo hi : Nat) (k : Int) (w : World) (h : OwnRN w lo hi v xs) (hk : 0 ≤ k ∧ k ≤ 1000) (hn : RanksLe xs) :
    Calls Try.prog 34 #[v, .int .i64 k] w fun e w' => e = .returned (.int .i64 (k + rankSum xs)) ∧ OwnRN w' lo hi v (mkRk k xs) ∧ OutOf lo hi w w' :=
  markRankingS_w v xs lo hi k w h hk.1 (by have := rankSum_take hn xs.length; rw [List.take_length] at this; omega)

end Go.Proofs.Ytgjgdephpliolaa
