/- Marks on slices of rankings within bounds. No conditions beyond sizes. -/
import Derived.Test.YtmhdclbhkhlocaaRankS
namespace Go.Proofs.Ytmhdclbhkhlocaa
open Go.RowKit
set_option linter.unusedVariables false
set_option linter.unusedSimpArgs false

def rankSum (xs : List DRanking) : Nat := (xs.map fun r => r.order.length + 1).sum
theorem rankSum_at {xs : List DRanking} {k : Nat} (h : k < xs.length) : rankSum (xs.take (k + 1)) = rankSum (xs.take k) + xs[k].order.length + 1 := by
  unfold rankSum
  rw [take_at h]
  simp only [List.map_append, List.sum_append, List.map_cons, List.map_nil, List.sum_cons, List.sum_nil]
  omega
theorem rankSum_le {xs : List DRanking} (h : ∀ r ∈ xs, r.order.length ≤ 1048576) : rankSum xs ≤ 1048577 * xs.length := by
  induction xs with
  | nil => simp [rankSum]
  | cons a r ih =>
    have h1 := h a (by simp)
    have h2 := ih (fun x hx => h x (by simp [hx]))
    simp only [rankSum, List.map_cons, List.sum_cons, List.length_cons] at *
    omega
theorem rankSum_take {xs : List DRanking} (h : RanksLe xs) (k : Nat) : rankSum (xs.take k) ≤ 1099512676352 := by
  have h1 := rankSum_le (xs := xs.take k) (fun r hr => h.2 r (List.mem_of_mem_take hr))
  have h2 := h.1
  have h3 : (xs.take k).length ≤ 1048576 := by simp; omega
  have := Nat.mul_le_mul_left 1048577 h3
  omega

def OwnRN (w : World) (lo hi : Nat) (v : Value) (xs : List DRanking) : Prop :=
  ∃ es : List (Value × DRanking), es.map Prod.snd = xs ∧ OwnIn 44 2 lo hi w v es.length (ncs rcell es) ∧ (∀ p ∈ es, OwnIn 3 1 lo hi w p.1 p.2.order.length (ints p.2.order)) ∧
    es.Pairwise (fun p q => p.1.ownBlock = none ∨ p.1.ownBlock ≠ q.1.ownBlock) ∧ ∀ p ∈ es, p.1.ownBlock = none ∨ p.1.ownBlock ≠ v.ownBlock
theorem OwnRN.keep {lo hi : Nat} {w w' : World} {v : Value} {xs : List DRanking} (h : OwnRN w lo hi v xs) (hs : SameIn lo hi w w') : OwnRN w' lo hi v xs := by
  obtain ⟨es, h1, h2, h3, h4⟩ := h
  exact ⟨es, h1, OwnIn.keep h2 hs, fun p hp => OwnIn.keep (h3 p hp) hs, h4⟩
theorem OwnRN.at_ {lo hi : Nat} {w : World} {v : Value} {xs : List DRanking} (h : OwnRN w lo hi v xs) : RanksAt w v xs := by
  obtain ⟨es, h1, h2, h3, _⟩ := h
  exact ⟨es, h1, OwnIn.at_ h2, fun p hp => OwnIn.at_ (h3 p hp)⟩
theorem OwnRanks.toR {B : Nat} {w : World} {v : Value} {xs : List DRanking} (h : OwnRanks w B v xs) : OwnRN w B w.heap.size v xs := by
  obtain ⟨es, h1, h2, h3, h4⟩ := h
  exact ⟨es, h1, OwnIn.of h2, fun p hp => OwnIn.of (h3 p hp), h4⟩
theorem OwnRN.hiLe {lo hi : Nat} {w : World} {v : Value} {xs : List DRanking} (h : OwnRN w lo hi v xs) : hi ≤ w.heap.size := by
  obtain ⟨es, _, h2, _⟩ := h
  exact h2.2.2

theorem blk_ne {α : Type} {es : List (Value × α)} (h : es.Pairwise (fun p q => p.1.ownBlock = none ∨ p.1.ownBlock ≠ q.1.ownBlock)) {i j : Nat} (hi : i < es.length) (hj : j < es.length) (hne : i ≠ j) :
    es[i].1.ownBlock = none ∨ es[i].1.ownBlock ≠ es[j].1.ownBlock := by
  rcases Nat.lt_or_ge i j with h1 | h1
  · exact List.pairwise_iff_getElem.1 h i j hi hj h1
  · have := List.pairwise_iff_getElem.1 h j i hj hi (by omega)
    rcases this with h2 | h2
    · rw [h2]; cases es[i].1.ownBlock <;> simp
    · exact .inr (fun e => h2 e.symm)

set_option maxHeartbeats 2000000 in
theorem markRankingS_r (v : Value) (xs : List DRanking) (lo hi : Nat) (k : Int) (w : World) (h : OwnRN w lo hi v xs) (hk : 0 ≤ k ∧ k ≤ 1000) (hn : RanksLe xs) :
    Calls Try.prog 42 #[v, .int .i64 k] w fun e w' => e = .returned (.int .i64 (k + rankSum xs)) ∧ True ∧ OutOf lo hi w w' := by
  have hsum := rankSum_take hn
  have HSUM := Lib.hid hsum; clear hsum
  have HNN := Lib.hid hn; clear hn
  obtain ⟨es, he, h2, h3, hpw, hdv⟩ := h
  obtain ⟨hown0, hblk, hhi⟩ := h2
  have hel : es.length = xs.length := by rw [← he]; simp
  rw [hel] at hown0
  rcases hown0.2 with ⟨rfl, hn0⟩ | ⟨g, cap, cur, rfl, hB, hh, hc1, hc2, hc3, hc4⟩
  · have hx0 : xs = [] := List.eq_nil_of_length_eq_zero hn0
    subst hx0
    clear h3 hpw hdv hown0 hblk he hel HSUM HNN
    go_enter Try.func42, Try.ntmps42
    go_wp2
    refine wp_loop_rounds 1 ?_; rw [rounds_succ]; go_wp2
    go_ret
    exact ⟨ret_int (by simp [rankSum]), trivial, OutOf.refl _ _ _⟩
  · have hgl := hblk g rfl
    unfold maxLen at hc2
    have hxe : ∀ i (h1 : i < es.length) (h2 : i < xs.length), xs[i] = es[i].2 := fun i h1 h2 => by subst he; simp
    have HXE := Lib.hid hxe
    have hrel0 : ∃ cs, OwnIn 44 2 lo hi w (.slice (some ⟨g, 0, none⟩) xs.length cap) xs.length cs ∧ (∀ i (h : i < es.length), cs[i * 2]? = some es[i].1) ∧
        (∀ i (h : i < es.length), ∃ ys : List Int, ys.length = es[i].2.order.length ∧ OwnIn 3 1 lo hi w es[i].1 ys.length (ints ys)) := by
      refine ⟨_, ⟨hown0, hblk, hhi⟩, fun i hi' => ?_, fun i hi' => ⟨_, rfl, h3 _ (List.getElem_mem hi')⟩⟩
      have := flatm_get (fun p : Value × DRanking => rcell p.1 p.2) 2 (fun _ => rfl) es i 0 hi' (by omega)
      simpa [ncs, rcell] using this
    have HEL := Lib.hid hel
    clear hxe h3 hown0 hblk he hel hh hc3 hc4
    have HPW := Lib.hid hpw; clear hpw
    have HDV := Lib.hid hdv; clear hdv
    go_enter Try.func42, Try.ntmps42
    go_wp2_with fail
    go_loopw [1, 5] (fun kk i wr => ∃ j : Nat, j ≤ xs.length ∧ i = .int .i64 j ∧ kk = .int .i64 (k + rankSum (xs.take j)) ∧ (∃ cs, OwnIn 44 2 lo hi wr (.slice (some ⟨g, 0, none⟩) xs.length cap) xs.length cs ∧ (∀ i (h : i < es.length), cs[i * 2]? = some es[i].1) ∧
        (∀ i (h : i < es.length), ∃ ys : List Int, ys.length = es[i].2.order.length ∧ OwnIn 3 1 lo hi wr es[i].1 ys.length (ints ys))) ∧ OutOf lo hi w wr) (fun _ i _ => xs.length - (intOf i).toNat)
    case atStart => exact ⟨0, by omega, rfl, by simp [rankSum], hrel0, OutOf.refl _ _ _⟩
    case round =>
      obtain ⟨j, hj, rfl, rfl, ⟨cs, hown, hcs, hin⟩, hot⟩ := hrel
      by_cases hlt : j < xs.length
      · have hje : j < es.length := by have := HEL.out; omega
        obtain ⟨ys, hyl, hyo⟩ := hin j hje
        have hlen : ys.length = xs[j].order.length := by rw [HXE.out j hje hlt]; exact hyl
        have hnj := HNN.out.2 _ (List.getElem_mem hlt)
        have hsj := HSUM.out j
        have hsj1 := HSUM.out (j + 1)
        have hss := rankSum_at hlt
        have hrow := hown.1
        have hcj : wr.cell? ⟨g, j * 2, none⟩ = some es[j].1 := by rw [hrow.cellAt (j * 2) (by omega)]; exact hcs j hje
        have hdj := HDV.out _ (List.getElem_mem hje)
        obtain ⟨au, ku, hu⟩ := hyo.at_.form
        have hblk := fun i (hi' : i < es.length) (hne : i ≠ j) => blk_ne HPW.out hi' hje hne
        have hdi := fun i (hi' : i < es.length) => HDV.out _ (List.getElem_mem hi')
        rw [hu] at hcj hyo hdj
        rw [hu] at hblk
        have HS := Lib.hid (And.intro hss hlen)
        obtain ⟨t, ht⟩ : ∃ t : Int, t = k + rankSum (xs.take j) := ⟨_, rfl⟩
        have ht0 : 0 ≤ t := by omega
        have ht1 : t + ys.length ≤ 9000000000000000000 := by omega
        have ht2 : t + ys.length + 1 ≤ 9000000000000000000 := by omega
        have hte : t + ys.length + 1 = k + rankSum (xs.take (j + 1)) := by omega
        rw [← ht]
        have HTE := Lib.hid hte
        have HYL := Lib.hid hyl; have HU := Lib.hid hu; have HCS := Lib.hid hcs; have HIN := Lib.hid hin; have HBLK := Lib.hid hblk; have HDI := Lib.hid hdi
        clear ht hte hss hlen hsj hsj1 hnj hyl hu hcs hin hblk hdi
        go_wp2_with fail
        refine (markIntS_c lo _ _ (ints ys) _ _ hyo.1 ht0 ht1).mono ?_
        rintro e w1 ⟨rfl, hv1, hg1⟩
        have ho1 : OutOf lo hi wr w1 := OutOf.of_grown hg1 fun b hb => ⟨(hyo.1.lt b hb).1, hyo.2.1 b hb⟩
        have hs1 := ho1.size
        have hrow1 := hrow.kept hg1 (by
          rcases hdj with h0 | h0
          · rw [h0]; simp [Value.ownBlock]
          · exact .inr (fun e => h0 e.symm))
        have hst := hrow1.stored (j * 2 + 1) (.int .i64 (t + ys.length))
        have hgh : OutOf lo hi w1 (w1.setCell ⟨g, j * 2 + 1, none⟩ (.int .i64 (t + ys.length))) := OutOf.of_grown hst.2 (fun b hb => by cases hb; exact ⟨hB, hgl⟩)
        have hf1 := hrow1.frozenAt (j * 2 + 1)
        obtain ⟨y1, hy1⟩ : ∃ y, w1.cell? ⟨g, j * 2 + 1, none⟩ = some y := by
          rw [hrow1.cellAt (j * 2 + 1) (by omega)]; exact ⟨_, List.getElem?_eq_getElem (by rw [hrow1.1]; omega)⟩
        have hnext : ∃ cs, OwnIn 44 2 lo hi (w1.setCell ⟨g, j * 2 + 1, none⟩ (.int .i64 (t + ys.length))) (.slice (some ⟨g, 0, none⟩) xs.length cap) xs.length cs ∧ (∀ i (h : i < es.length), cs[i * 2]? = some es[i].1) ∧
            (∀ i (h : i < es.length), ∃ zs : List Int, zs.length = es[i].2.order.length ∧ OwnIn 3 1 lo hi (w1.setCell ⟨g, j * 2 + 1, none⟩ (.int .i64 (t + ys.length))) es[i].1 zs.length (ints zs)) := by
          refine ⟨cs.set (j * 2 + 1) (.int .i64 (t + ys.length)), ⟨hst.1, hown.2.1, by have := hgh.size; have := hot.size; omega⟩, fun i hi' => ?_, fun i hi' => ?_⟩
          · rw [List.getElem?_set_ne (by omega)]; exact HCS.out i hi'
          · by_cases hij : i = j
            · subst hij
              refine ⟨upFrom t ys.length, by have := HYL.out; simpa using this, ?_⟩
              rw [HU.out]
              refine ⟨?_, hyo.2.1, by have := hgh.size; have := hot.size; omega⟩
              rw [upFrom_length]
              exact hv1.kept hst.2 hdj
            · obtain ⟨zs, hz, hzo⟩ := HIN.out i hi'
              exact ⟨zs, hz, ⟨(hzo.1.kept hg1 (HBLK.out i hi' hij)).kept hst.2 (HDI.out i hi'), hzo.2.1, by have := hgh.size; have := hot.size; omega⟩⟩
        have hot' := (hot.trans ho1).trans hgh
        have HNX := Lib.hid hnext
        clear hnext
        go_wp2_with fail
        go_roundw
        case rel => exact ⟨j + 1, by omega, by go_num, by rw [HTE.out], HNX.out, hot'⟩
        case measure => simp [intOf]; omega
      · obtain rfl : j = xs.length := by omega
        rw [List.take_length]
        go_wp2_with fail
        go_ret
        exact ⟨rfl, trivial, hot⟩

end Go.Proofs.Ytmhdclbhkhlocaa
