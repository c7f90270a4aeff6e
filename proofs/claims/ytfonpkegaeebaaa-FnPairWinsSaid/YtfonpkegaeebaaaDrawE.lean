/- Contracts: draws of elections. Condition: fewer than a thousand million choices. -/
import Derived.Test.YtfonpkegaeebaaaDrawV
import Derived.Test.YtfonpkegaeebaaaLoose
import Derived.Test.YtfonpkegaeebaaaPutW
import Derived.Test.YtfonpkegaeebaaaRankM
import Derived.Test.YtfonpkegaeebaaaRankN
namespace Go.Proofs.Ytfonpkegaeebaaa
open Go.RowKit
set_option linter.unusedVariables false
set_option linter.unusedSimpArgs false

abbrev LooseR (w : World) (B : Nat) (v : Value) (rs : List DRanking) : Prop := LooseN (fun u (r : DRanking) => [u, (.int .i64 r.weight : Value)]) DRanking.order 2 44 3 w B v rs
theorem LooseR.at_ {w : World} {B : Nat} {v : Value} {rs : List DRanking} (h : LooseR w B v rs) : RanksAt w v rs := LooseN.at_ h
/-- The rankings drawn are short. -/
def ShortR (k : Nat) (rs : List DRanking) : Prop := ∀ r ∈ rs, r.order.length ≤ k
theorem ShortR.wide {rs : List DRanking} (h : ShortR 5 rs) : ShortR 10 rs := fun r hr => by have := h r hr; omega
theorem ShortR.push {k : Nat} {rs : List DRanking} {r : DRanking} (h : ShortR k rs) (hr : r.order.length ≤ k) : ShortR k (rs ++ [r]) := by
  intro x hx
  rcases List.mem_append.1 hx with h1 | h1
  · exact h x h1
  · rw [List.mem_singleton.1 h1]; exact hr

set_option maxRecDepth 100000 in
set_option maxHeartbeats 8000000 in
theorem cur_election (W0 : World) (cv : Value) (bs : List Int) (b m : Nat) (w : World) (hv : BytesAt W0 cv bs) (hl : bs.length ≤ 65537) (h : CurAt W0 cv w b m) (hm : m ≤ 800000000) :
    Calls Try.prog 41 #[.pointer (some ⟨b, 0, none⟩)] w fun e w' => ∃ n u rs, e = .returned (.tuple #[.int .i64 n, u]) ∧ LooseR w' w.heap.size u rs ∧ rs.length ≤ 20 ∧ ShortR 10 rs ∧ 0 ≤ n ∧ n ≤ 10 ∧ CurAt W0 cv w' b (m + 1000) ∧ CurTo b w w' := by
  have hbw := h.lt
  have hbB : b + 1 ≤ w.heap.size := hbw
  have HV := Lib.hid hv; clear hv
  go_enter Try.func41, Try.ntmps41
  go_wp2_with fail
  refine (cur_pick W0 cv bs b m 5 _ HV.out hl h (by omega) (by omega)).mono ?_
  rintro e w1 ⟨x, rfl, x0, x1, x2, k1, t1⟩
  have x1' := x1 (by omega)
  obtain ⟨N, hN⟩ : ∃ N : Nat, (1 : Int) + x = (N : Int) := ⟨(1 + x).toNat, by omega⟩
  have hN1 : 1 ≤ N ∧ N ≤ 5 := by omega
  have hNw : wrap64 (1 + x) = (N : Int) := by rw [IntWalk.wrap64_in _ (by omega)]; exact hN
  clear x1
  go_wp2_with fail
  have hlit : LooseR (w1.alloc (.cells #[] 44)) w.heap.size (.slice (some ⟨w1.heap.size, 0, none⟩) 0 0) [] := (LooseN.lit _ _ w1).base t1.size
  refine (cur_pick W0 cv bs b _ 6 _ HV.out hl (k1.step (alQ _ _)) (by omega) (by omega)).mono ?_
  rintro e w2 ⟨y, rfl, y0, y1, y2, k2, t2⟩
  have y1' := y1 (by omega)
  obtain ⟨K, hK⟩ : ∃ K : Nat, (1 : Int) + y = (K : Int) := ⟨(1 + y).toNat, by omega⟩
  have hK1 : 1 ≤ K ∧ K ≤ 6 := by omega
  have hL2 := hlit.out t2 hbB
  have T2 : CurTo b w w2 := t1.trans ((curTo_of (alQ _ _)).trans t2)
  clear y1 t1 t2 k1 hlit
  go_wp2_with fail
  try simp only [hN, hK]
  clear hN hK hNw
  go_loopw [5, 6] (fun l i wr => ∃ (rs : List DRanking) (j : Nat), rs.length + j ≤ 6 ∧ 1 ≤ rs.length + j ∧ i = .int .i64 j ∧ LooseR wr w.heap.size l rs ∧ ShortR 5 rs ∧ CurAt W0 cv wr b (m + 4 + 20 * rs.length) ∧ CurTo b w wr) (fun _ i _ => (intOf i).toNat)
  case atStart => exact ⟨[], K, by simp; omega, by simp; omega, rfl, hL2, (fun r hr => by cases hr), k2.more (by omega), T2⟩
  case round =>
    rename World => wa
    clear hL2 k2 T2
    obtain ⟨rs, j, hj, hj1, rfl, hL, hS, hc, ht⟩ := hrel
    obtain ⟨al, kl, rfl⟩ := hL.form
    by_cases hj0 : 0 < j
    · have hjI : (0 : Int) < (j : Int) := by omega
      have hwb : w.heap.size ≤ wa.heap.size := ht.size
      have hlo := own_lit0 wa 3
      have hc0 := hc.step (alQ wa (.cells #[] 3))
      have tA : CurTo b wa (wa.alloc (.cells #[] 3)) := curTo_of (alQ _ _)
      go_wp2_with fail
      go_loopw [7, 8] (fun o i wr => ∃ (xs : List Int) (c : Nat), xs.length = c ∧ c ≤ N ∧ i = .int .i64 c ∧ OwnInts wr wa.heap.size o xs ∧ CurAt W0 cv wr b (m + 4 + 20 * rs.length + 2 * c) ∧ CurTo b wa wr) (fun _ i _ => N - (intOf i).toNat)
      case atStart => exact ⟨[], 0, rfl, by omega, rfl, hlo, hc0, tA⟩
      case round =>
        rename World => wb
        clear hlo hc0 tA
        obtain ⟨xs, c, hxc, hcN, rfl, ho, hcc, htt⟩ := hrel
        obtain ⟨ao, ko, rfl⟩ := (OwnI.at_ ho : IntsAt wb _ xs).form
        have HXC := Lib.hid hxc
        have hxl : xs.length ≤ 5 := by omega
        clear hxc
        by_cases hlt : c < N
        · have hltI : (c : Int) < (N : Int) := by omega
          have hxI : (xs.length : Int) + 1 ≤ 10 := by omega
          go_wp2_with fail
          refine (cur_pick W0 cv bs b _ ((xs.length : Int) + 1) _ HV.out hl hcc (by omega) (by omega)).mono ?_
          rintro e w3 ⟨z, rfl, z0, z1, z2, k3, t3⟩
          have z1' := z1 (by omega)
          obtain ⟨k, rfl⟩ : ∃ k : Nat, z = k := ⟨z.toNat, by omega⟩
          have ho3 : OwnInts w3 wa.heap.size (.slice ao xs.length ko) xs := own_outQ ho t3 (by omega)
          have T3 : CurTo b wa w3 := htt.trans t3
          have hI : Hid (IntsAt w3 (.slice ao xs.length ko) xs) := OwnI.at_ ho3
          obtain ⟨_, _, _, hsv, q1, q2, _⟩ := hI.out
          cases hsv
          unfold maxLen at q2
          have hk2 : k ≤ xs.length := by omega
          have hk0 : (0 : Int) ≤ (k : Int) := by omega
          have hkn : (k : Int) ≤ (xs.length : Int) := by omega
          have hkc : (k : Int) ≤ (ko : Int) := by omega
          have hnc : (xs.length : Int) ≤ (ko : Int) := by omega
          have hkw : IntKind.i64.wrap (k : Int) = (k : Int) := IntWalk.i64_in _ (by omega)
          have hb0 : Below w3.heap.size w3 w3 := Below.refl _ _
          have HP1 := fun u hu => ints_one xs u (List.mem_of_mem_take (i := k * 1) hu)
          have HP3 := fun u hu => ints_one xs u (List.mem_of_mem_drop (i := k * 1) hu)
          have HR1 : ∀ u ∈ (#[.int .i64 (c : Int)] : Array Value).toList, u.oneCell' = true := by simp [Value.oneCell']
          clear z1 ho t3
          go_wp2_with fail
          go_region_held3 (fun w' => Below w3.heap.size w3 w') (first | assumption | exact Below.refl _ _ | exact Below.alloc (by assumption) (Below.size (by assumption)) _ | exact Below.drew (Below.alloc (by assumption) (Below.size (by assumption)) _) | go_grown) (first
            | ((refine step_append_row (by rfl) (.tmp 35) (.tmp 38) _ (by rfl) w3.heap.size 3 _ 1 8 int_info Try.underlying27 (by rfl) (by omega) (by omega) (.slice (some ⟨w3.heap.size, 0, none⟩) 0 0) 0 [] (by rfl) ((own_emptyA w3 3 1).drew) _ k ((ints xs).take (k * 1)) (by rfl) (RowAt.head (RowAt.below hI.out (by assumption)) hk2) HP1 (by omega) (by omega) (Below.size (by assumption)) ?_); (intro v1 w1 o1 g1 a1); (have hb1 : Below w3.heap.size w3 w1 := Below.grown (by assumption) g1 (Below.size (by assumption)) (own_ge (by omega) 0 0)); (simp only [Nat.zero_add, List.nil_append] at o1))
            | ((refine step_append_row (by rfl) (.tmp 35) (.tmp 38) _ (by rfl) w3.heap.size 3 _ 1 8 int_info Try.underlying27 (by rfl) (by omega) (by omega) (.slice (some ⟨w3.heap.size, 0, none⟩) 0 0) 0 [] (by rfl) ((own_emptyB w3 3 1 _).drew) _ k ((ints xs).take (k * 1)) (by rfl) (RowAt.head (RowAt.below hI.out (by assumption)) hk2) HP1 (by omega) (by omega) (Below.size (by assumption)) ?_); (intro v1 w1 o1 g1 a1); (have hb1 : Below w3.heap.size w3 w1 := Below.grown (by assumption) g1 (Below.size (by assumption)) (own_ge (by omega) 0 0)); (simp only [Nat.zero_add, List.nil_append] at o1); (have hr1 := RowAt.grown (RowAt.drew (row_oneA w3 3 1 #[.int .i64 (c : Int)] (.cells #[] 3) rfl)) g1 (some_ne_own (by omega) 0 0)))
            | ((refine step_append_row (by rfl) (.tmp 35) (.tmp 38) _ (by rfl) w3.heap.size 3 _ 1 8 int_info Try.underlying27 (by rfl) (by omega) (by omega) (.slice (some ⟨w3.heap.size + 1, 0, none⟩) 0 0) 0 [] (by rfl) ((own_emptyC w3 3 1 _).drew) _ k ((ints xs).take (k * 1)) (by rfl) (RowAt.head (RowAt.below hI.out (by assumption)) hk2) HP1 (by omega) (by omega) (Below.size (by assumption)) ?_); (intro v1 w1 o1 g1 a1); (have hb1 : Below w3.heap.size w3 w1 := Below.grown (by assumption) g1 (Below.size (by assumption)) (own_ge (by omega) 0 0)); (simp only [Nat.zero_add, List.nil_append] at o1); (have hr1 := RowAt.grown (RowAt.drew (row_oneB w3 3 1 #[.int .i64 (c : Int)] (.cells #[] 3) rfl)) g1 (some_ne_own (by omega) 0 0)))
            | ((refine step_append_row (by rfl) (.tmp 39) (.tmp 41) _ (by rfl) w3.heap.size 3 _ 1 8 int_info Try.underlying27 (by rfl) (by omega) (by omega) v1 k ((ints xs).take (k * 1)) (by rfl) (o1) _ 1 #[.int .i64 (c : Int)].toList (by rfl) (hr1) HR1 (by omega) (by omega) (Below.size (by assumption)) ?_); (intro v2 w2 o2 g2 a2); (have hb2 : Below w3.heap.size w3 w2 := Below.grown (by assumption) g2 (Below.size (by assumption)) (fun b hb => (o1.lt b hb).1)))
            | ((refine step_append_row (by rfl) (.tmp 39) (.tmp 41) _ (by rfl) w3.heap.size 3 _ 1 8 int_info Try.underlying27 (by rfl) (by omega) (by omega) v1 k ((ints xs).take (k * 1)) (by rfl) (own_below o1 ((Below.refl _ _).alloc (Nat.le_refl _) _)) _ 1 #[.int .i64 (c : Int)].toList (by rfl) (row_oneN w1 3 1 #[.int .i64 (c : Int)] rfl) HR1 (by omega) (by omega) (Below.size (by assumption)) ?_); (intro v2 w2 o2 g2 a2); (have hb2 : Below w3.heap.size w3 w2 := Below.grown (by assumption) g2 (Below.size (by assumption)) (fun b hb => (o1.lt b hb).1)))
            | ((refine step_append_row (by rfl) (.tmp 42) (.tmp 45) _ (by rfl) w3.heap.size 3 _ 1 8 int_info Try.underlying27 (by rfl) (by omega) (by omega) v2 (k + 1) ((ints xs).take (k * 1) ++ (#[.int .i64 (c : Int)] : Array Value).toList) (by rfl) (o2) _ (xs.length - k) ((ints xs).drop (k * 1)) (by rfl) (RowAt.tail1 (RowAt.below hI.out (by assumption)) hk2) HP3 (by omega) (by omega) (Below.size (by assumption)) ?_); (intro v3 w4 o3 g3 a3); (have hb3 : Below w3.heap.size w3 w4 := Below.grown (by assumption) g3 (Below.size (by assumption)) (fun b hb => (o2.lt b hb).1)))
            | ((refine step_append_row (by rfl) (.tmp 42) (.tmp 45) _ (by rfl) w3.heap.size 3 _ 1 8 int_info Try.underlying27 (by rfl) (by omega) (by omega) v2 (k + 1) ((ints xs).take (k * 1) ++ (#[.int .i64 (c : Int)] : Array Value).toList) (by rfl) (o2) _ (xs.length - k) ((ints xs).drop (k * 1)) (by rfl) (RowAt.tail2 (RowAt.below hI.out (by assumption)) hk2) HP3 (by omega) (by omega) (Below.size (by assumption)) ?_); (intro v3 w4 o3 g3 a3); (have hb3 : Below w3.heap.size w3 w4 := Below.grown (by assumption) g3 (Below.size (by assumption)) (fun b hb => (o2.lt b hb).1))))
          all_goals go_wp2_with fail
          all_goals go_roundw
          all_goals first
            | (case rel =>
                obtain ⟨L, hL1, hL2⟩ : ∃ L : List Int, L.length = c + 1 ∧ ints L = ((ints xs).take (k * 1) ++ (#[.int .i64 (c : Int)] : Array Value).toList) ++ (ints xs).drop (k * 1) := ⟨xs.take k ++ [(c : Int)] ++ xs.drop k, by have := HXC.out; simp; omega, by simp [ints]⟩
                rw [← hL2] at o3
                have hll : k + 1 + (xs.length - k) = L.length := by have := HXC.out; omega
                rw [hll] at o3
                have hs3 := T3.size
                exact ⟨L, c + 1, hL1, by omega, by go_num, own_base o3 hs3, (k3.step hb3).more (by omega), curTo_below T3 (hb3.mono hs3)⟩)
            | (case measure => first | (simp [intOf]; done) | (simp [intOf]; omega))
        · obtain rfl : c = N := by omega
          have hL5 := hL.out htt hbB
          have T5 : CurTo b w wb := ht.trans htt
          have hlv : ∀ q, (Value.slice al rs.length kl).ownBlock = some q → q < wa.heap.size := fun q hq => (hL.blk hq).2
          have hx5 : xs.length ≤ 5 := by omega
          go_wp2_with (first
            | (go_at_call 56; refine (cur_among W0 cv bs b _ _ [1, 1, 1, 2, 3, 10, 100] _ HV.out hl (hcc.step (alQ _ _)) (by omega) (own_base (own_litL _ 3 [1, 1, 1, 2, 3, 10, 100] (by simp)) (by have := T5.size; omega)) (by simp) (by simp)).mono ?_; rintro e w6 ⟨wt, rfl, hwt, k6, t6⟩; have t6' := (curTo_of (alQ wb (.cells (ints [1, 1, 1, 2, 3, 10, 100]).toArray 3))).trans t6; have L6 := hL5.out t6' hbB; have ho6 : OwnInts w6 wa.heap.size (.slice ao xs.length ko) xs := own_outQ ho t6' (by omega); have T6 := T5.trans t6')
            | (at_builtin; refine wpList_push_loose (f := fun u (r : DRanking) => [u, (.int .i64 r.weight : Value)]) (ord := DRanking.order) (size := 2) rfl (.tmp 47) (.tmp 53) _ rfl (fun _ _ => rfl) w.heap.size 44 3 _ _ 32 rank_info Try.underlying24 rfl (by omega) (by omega) _ rs _ ⟨xs, wt⟩ _ rfl L6 (own_base ho6 hwb) (by cases hq : (Value.slice ao xs.length ko).ownBlock with
                | none => exact .inl rfl
                | some q => exact .inr fun hcq => by have := hlv q hcq.symm; have := (ho6.lt q hq).1; omega) rfl (by simp [Value.oneCell']) rfl T6.size (by omega) ?_; intro v7 w7 L7 g7 hb7))
          go_roundw
          case rel => exact ⟨rs ++ [⟨xs, wt⟩], j - 1, by simp; omega, by simp; omega, by congr 1; omega, L7, hS.push hx5, (k6.keep hb7 hbw).more (by simp; omega), curTo_below T6 hb7⟩
          case measure => simp [intOf]; omega
    · obtain rfl : j = 0 := by omega
      have hr1 : 1 ≤ rs.length := by omega
      go_wp2_with fail
      refine (cur_pick W0 cv bs b _ 24 _ HV.out hl hc (by omega) (by omega)).mono ?_
      rintro e w4 ⟨x, rfl, x0, x1, x2, k4, t4⟩
      have L4 := hL.out t4 hbB
      have T4 := ht.trans t4
      clear hc ht t4 hL
      have hN0 : (0 : Int) ≤ (N : Int) ∧ (N : Int) ≤ 10 := by omega
      by_cases c0 : x = 0
      · subst c0
        go_wp2_with fail
        go_ret2
        exact ⟨_, _, [], rfl, (LooseN.lit _ _ w4).base T4.size, by simp, (fun r hr => by cases hr), hN0.1, hN0.2, (k4.step (alQ _ _)).more (by omega), T4.trans (curTo_of (alQ _ _))⟩
      · by_cases c1 : x = 1
        · subst c1
          obtain ⟨g, cap, u0, x0', xr, hve, rfl, hgB, hgs, e0, e1, fg, ho0, hd0, L4'⟩ := loose_first L4 (by omega)
          cases hve
          obtain ⟨o0, wt0⟩ := x0'
          obtain ⟨au, ku, rfl⟩ := (OwnI.at_ ho0 : IntsAt w4 u0 o0).form
          dsimp only at e0 e1 ho0
          have hp0 : (0 : Int) < ((⟨o0, wt0⟩ :: xr : List DRanking).length : Int) := by simp
          have hT4s := T4.size
          have hbn : b ≠ w4.heap.size := by have := T4.size; omega
          have hbn' : w4.heap.size ≠ g := by omega
          have hbn2 : g ≠ w4.heap.size := by omega
          obtain ⟨W5, hW5⟩ : ∃ W5, W5 = w4.alloc (.cells #[.slice au o0.length ku, .int .i64 wt0] 44) := ⟨_, rfl⟩
          have B5 : BoxAt W5 w4.heap.size #[.slice au o0.length ku, .int .i64 wt0] := by rw [hW5]; exact BoxAt.new _ _ _
          have hb5 : Below w4.heap.size w4 W5 := by rw [hW5]; exact alQ _ _
          have hW5s : W5.heap.size = w4.heap.size + 1 := by rw [hW5]; simp
          have HW5 := Lib.hid hW5; clear hW5
          have HW5s := Lib.hid hW5s; clear hW5s
          go_wp2_with fail
          rw [← HW5.out, ← HW5s.out]
          refine (cur_among W0 cv bs b _ _ [0, 101] _ HV.out hl ((k4.step hb5).step (alQ _ _)) (by omega) (own_base (own_litL _ 3 [0, 101] (by simp)) (by have := T4.size; have := hb5.size; omega)) (by simp) (by simp)).mono ?_
          rintro e w6 ⟨wt1, rfl, hwt1, k6, t6⟩
          have t56 : CurTo b W5 w6 := (curTo_of (alQ _ _)).trans t6
          have t46 : CurTo b w4 w6 := (curTo_of hb5).trans t56
          have B6 := OutOf.box t56 B5 (.inr (by omega))
          have b6 := B6.cells; have f6 := B6.free
          have fg6 : ∀ i, w6.frozen? ⟨g, i, none⟩ = false := fun i => (World.frozen?_of_block (w := w4) (a := ⟨g, i, none⟩) (t46.block g hgs (by omega))).trans (fg i)
          have e06 : w6.cell? ⟨g, 0, none⟩ = some (.slice au o0.length ku) := (World.cell?_of_block (w := w4) (a := ⟨g, 0, none⟩) (t46.block g hgs (by omega))).trans e0
          have e16 : w6.cell? ⟨g, 1, none⟩ = some (.int .i64 wt0) := (World.cell?_of_block (w := w4) (a := ⟨g, 1, none⟩) (t46.block g hgs (by omega))).trans e1
          have T7 : CurTo b w4 (w6.setCell ⟨w4.heap.size, 1, none⟩ (.int .i64 wt1)) := curTo_below t46 ((Below.refl _ _).setCell (p := ⟨w4.heap.size, 1, none⟩) (Nat.le_refl _) _)
          have L8 := loose_put (α := DRanking) (ord := DRanking.order) (y := ⟨o0, wt1⟩) (L4'.out T7 hbB) (own_outQ ho0 T7 hbB) hd0
          have K7 := k6.keep (B := w4.heap.size) ((Below.refl _ _).setCell (p := ⟨w4.heap.size, 1, none⟩) (Nat.le_refl _) (.int .i64 wt1)) (by omega)
          clear e0 e1 t6
          go_wp2_with fail
          go_ret2
          have hb8 : Below w.heap.size (w6.setCell ⟨w4.heap.size, 1, none⟩ (.int .i64 wt1)) (((w6.setCell ⟨w4.heap.size, 1, none⟩ (.int .i64 wt1)).setCell ⟨g, 0, none⟩ (.slice au o0.length ku)).setCell ⟨g, 1, none⟩ (.int .i64 wt1)) := ((Below.refl _ _).setCell (p := ⟨g, 0, none⟩) hgB _).setCell (p := ⟨g, 1, none⟩) hgB _
          exact ⟨_, _, ⟨o0, wt1⟩ :: xr, rfl, L8, by simp at hj ⊢; omega, (fun r hr => by
            rcases List.mem_cons.1 hr with rfl | hr
            · exact hS.wide ⟨o0, wt0⟩ List.mem_cons_self
            · exact hS.wide r (List.mem_cons_of_mem _ hr)), hN0.1, hN0.2, (K7.keep hb8 hbw).more (by simp at hj ⊢; omega), curTo_below (T4.trans T7) hb8⟩
        · by_cases c2 : x = 2
          · subst c2
            obtain ⟨g, cap, u0, x0', xr, hve, rfl, hgB, hgs, e0, e1, fg, ho0, hd0, L4'⟩ := loose_first L4 (by omega)
            cases hve
            obtain ⟨o0, wt0⟩ := x0'
            obtain ⟨au, ku, rfl⟩ := (OwnI.at_ ho0 : IntsAt w4 u0 o0).form
            dsimp only at e0 e1 ho0
            have hp0 : (0 : Int) < ((⟨o0, wt0⟩ :: xr : List DRanking).length : Int) := by simp
            have hT4s := T4.size
            have hbn : b ≠ w4.heap.size := by have := T4.size; omega
            have hbn' : w4.heap.size ≠ g := by omega
            have hbn2 : g ≠ w4.heap.size := by omega
            have ho10 : o0.length ≤ 5 := hS ⟨o0, wt0⟩ List.mem_cons_self
            obtain ⟨W5, hW5⟩ : ∃ W5, W5 = w4.alloc (.cells #[.slice au o0.length ku, .int .i64 wt0] 44) := ⟨_, rfl⟩
            have B5 : BoxAt W5 w4.heap.size #[.slice au o0.length ku, .int .i64 wt0] := by rw [hW5]; exact BoxAt.new _ _ _
            have hb5 : Below w4.heap.size w4 W5 := by rw [hW5]; exact alQ _ _
            have HW5 := Lib.hid hW5; clear hW5
            have h5s := hb5.size
            have b5 := B5.cells
            go_wp2_with fail
            rw [← HW5.out]
            go_wp2_with fail
            refine (s_l1Own _ o0 _ (IntsAt.below (OwnI.at_ ho0) hb5) (by omega)).mono ?_
            rintro e w6 ⟨p6, rfl, ho6, hb6⟩
            obtain ⟨a6, q6, rfl⟩ := ho6.at_.form
            go_wp2_with fail
            refine (cur_pick W0 cv bs b _ 6 _ HV.out hl ((k4.step hb5).step hb6) (by omega) (by omega)).mono ?_
            rintro e w7 ⟨z, rfl, z0, z1, z2, k7, t7⟩
            have ho7 := own_outQ ho6 t7 (by have := T4.size; omega)
            have t57 : CurTo b W5 w7 := (curTo_of hb6).trans t7
            clear ho6
            go_wp2_with (at_builtin; refine wpList_push_int rfl (.tmp 79) (.tmp 82) _ rfl _ 3 _ int_info Try.underlying27 _ o0 z rfl ho7 rfl t57.size (by omega) ?_; intro u8 w8 ho8 hb8; obtain ⟨a8, c8, hu8⟩ := ho8.at_.form; rw [List.length_append, List.length_singleton] at hu8; subst hu8; have k8 := k7.keep hb8 (by have := T4.size; omega); have t58 := curTo_below t57 hb8; have B8 := OutOf.box t58 B5 (.inr (by omega)); have b8 := B8.cells; have f8 := B8.free; have fg8 : ∀ i, w8.frozen? ⟨g, i, none⟩ = false := fun i => (World.frozen?_of_block (w := w4) (a := ⟨g, i, none⟩) (((curTo_of (b := b) hb5).trans t58).block g hgs (by omega))).trans (fg i); have e08 : w8.cell? ⟨g, 0, none⟩ = some (.slice au o0.length ku) := (World.cell?_of_block (w := w4) (a := ⟨g, 0, none⟩) (((curTo_of (b := b) hb5).trans t58).block g hgs (by omega))).trans e0; have e18 : w8.cell? ⟨g, 1, none⟩ = some (.int .i64 wt0) := (World.cell?_of_block (w := w4) (a := ⟨g, 1, none⟩) (((curTo_of (b := b) hb5).trans t58).block g hgs (by omega))).trans e1)
            have t48 : CurTo b w4 w8 := (curTo_of hb5).trans t58
            have T9 : CurTo b w4 (w8.setCell ⟨w4.heap.size, 0, none⟩ (.slice a8 (o0.length + 1) c8)) := curTo_below t48 ((Below.refl _ _).setCell (p := ⟨w4.heap.size, 0, none⟩) (Nat.le_refl _) _)
            have ho9 : OwnInts (w8.setCell ⟨w4.heap.size, 0, none⟩ (.slice a8 (o0.length + 1) c8)) W5.heap.size (.slice a8 (o0.length + 1) c8) (o0 ++ [z]) := fin_own2 (lo := w4.heap.size) (b := w4.heap.size) ho8 (Below.refl _ _) ((OutOf.refl _ _ _).set _) (by have := B5.1; omega)
            have L10 := loose_put (α := DRanking) (ord := DRanking.order) (y := ⟨o0 ++ [z], wt0⟩) (L4'.out T9 hbB) (own_base ho9 (by have := T4.size; omega)) (by
              cases hq : (Value.slice a8 (o0.length + 1) c8).ownBlock with
              | none => exact .inl rfl
              | some q => exact .inr fun hcq => by cases hcq; have := (ho9.lt _ hq).1; omega)
            have K9 := k8.keep (B := w4.heap.size) ((Below.refl _ _).setCell (p := ⟨w4.heap.size, 0, none⟩) (Nat.le_refl _) (.slice a8 (o0.length + 1) c8)) (by omega)
            have hb10 : Below w.heap.size (w8.setCell ⟨w4.heap.size, 0, none⟩ (.slice a8 (o0.length + 1) c8)) (((w8.setCell ⟨w4.heap.size, 0, none⟩ (.slice a8 (o0.length + 1) c8)).setCell ⟨g, 0, none⟩ (.slice a8 (o0.length + 1) c8)).setCell ⟨g, 1, none⟩ (.int .i64 wt0)) := ((Below.refl _ _).setCell (p := ⟨g, 0, none⟩) hgB _).setCell (p := ⟨g, 1, none⟩) hgB _
            go_ret2
            exact ⟨_, _, ⟨o0 ++ [z], wt0⟩ :: xr, rfl, L10, by simp at hj ⊢; omega, (fun r hr => by
              rcases List.mem_cons.1 hr with rfl | hr
              · simp; omega
              · exact hS.wide r (List.mem_cons_of_mem _ hr)), hN0.1, hN0.2, (K9.keep hb10 hbw).more (by simp at hj ⊢; omega), curTo_below (T4.trans T9) hb10⟩
          · by_cases c3 : x = 3
            · subst c3
              go_wp2_with fail
              go_loopw [5, 12] (fun l i wr => ∃ (rs' : List DRanking) (k : Nat), 1 ≤ rs'.length ∧ rs'.length ≤ 6 + k ∧ k ≤ 10 ∧ i = .int .i64 k ∧ LooseR wr w.heap.size l rs' ∧ ShortR 5 rs' ∧ CurAt W0 cv wr b (m + 200 + 2 * k) ∧ CurTo b w wr) (fun _ i _ => 10 - (intOf i).toNat)
              case atStart => exact ⟨rs, 0, hr1, by omega, by omega, rfl, L4, hS, k4.more (by omega), T4⟩
              case round =>
                rename World => wb
                clear L4 k4 T4
                obtain ⟨rs', k, hr1', hr6, hk10, rfl, L5, hS5, k5, T5⟩ := hrel
                obtain ⟨a5, q5, rfl⟩ := L5.form
                go_wp2_with fail
                refine (cur_pick W0 cv bs b _ 2 _ HV.out hl k5 (by omega) (by omega)).mono ?_
                rintro e w6 ⟨z, rfl, z0, z1, z2, k6, t6⟩
                have z1' := z1 (by omega)
                have L6 := L5.out t6 hbB
                have T6 := T5.trans t6
                clear L5 k5 T5 t6 z1
                by_cases hlt : (rs'.length : Int) < 9 + z
                · by_cases hk : k < 10
                  · have hkI : (k : Int) < 10 := by omega
                    obtain ⟨g, cap, u0, x0', xr, hve, hxe, hgB, hgs, e0, e1, fg, ho0, hd0, L6'⟩ := loose_first L6 (by omega)
                    cases hve
                    obtain ⟨o0, wt0⟩ := x0'
                    obtain ⟨au, ku, rfl⟩ := (OwnI.at_ ho0 : IntsAt w6 u0 o0).form
                    dsimp only at e0 e1 ho0
                    have hp0 : (0 : Int) < (rs'.length : Int) := by omega
                    have ho10 : o0.length ≤ 5 := hS5 ⟨o0, wt0⟩ (by rw [hxe]; exact List.mem_cons_self)
                    clear hxe L6'
                    go_wp2_with (at_builtin; refine wpList_push_loose (f := fun u (r : DRanking) => [u, (.int .i64 r.weight : Value)]) (ord := DRanking.order) (size := 2) rfl (.tmp 102) (.tmp 106) _ rfl (fun _ _ => rfl) w.heap.size 44 3 _ _ 32 rank_info Try.underlying24 rfl (by omega) (by omega) _ rs' _ ⟨o0, wt0⟩ _ rfl L6 ho0 hd0 rfl (by simp [Value.oneCell']) rfl T6.size (by omega) ?_; intro v7 w7 L7 g7 hb7)
                    go_roundw
                    case rel => exact ⟨rs' ++ [⟨o0, wt0⟩], k + 1, by simp, by simp; omega, by omega, by go_num, L7, hS5.push ho10, (k6.keep hb7 hbw).more (by omega), curTo_below T6 hb7⟩
                    case measure => first | (simp [intOf]; done) | (simp [intOf]; omega)
                  · have hkI : ¬ (k : Int) < 10 := by omega
                    go_wp2_with fail
                    go_ret2
                    exact ⟨_, _, rs', rfl, L6, by omega, hS5.wide, hN0.1, hN0.2, k6.more (by omega), T6⟩
                · go_wp2_with fail
                  go_ret2
                  first | exact ⟨_, _, rs', rfl, L6, by omega, hS5.wide, hN0.1, hN0.2, k6.more (by omega), T6⟩ | exact ⟨_, _, rfl, rs', L6, by omega, hS5.wide, hN0.1, hN0.2, k6.more (by omega), T6⟩
            · by_cases c4 : x = 4
              · subst c4
                have hn1 : IntKind.i64.wrap ((N : Int) + 1) = (N : Int) + 1 := IntWalk.i64_in _ (by omega)
                go_wp2_with (go_at_call 56; refine (cur_among W0 cv bs b _ _ [0, 6, (N : Int) + 1] _ HV.out hl (k4.step (alQ _ _)) (by omega) (own_base (own_litL _ 3 [0, 6, (N : Int) + 1] (by simp)) (by have := T4.size; omega)) (by simp) (by simp)).mono ?_; rintro e w6 ⟨n', rfl, hn', k6, t6⟩; have t6' := (curTo_of (alQ w4 (.cells (ints [0, 6, (N : Int) + 1]).toArray 3))).trans t6; have L6 := L4.out t6' hbB)
                simp only [List.mem_cons, List.not_mem_nil, or_false] at hn'
                go_ret2
                exact ⟨_, _, rs, rfl, L6, by omega, hS.wide, by omega, by omega, k6.more (by omega), T4.trans t6'⟩
              · go_wp2_with fail
                go_ret2
                exact ⟨_, _, rs, rfl, L4, by omega, hS.wide, hN0.1, hN0.2, k4.more (by omega), T4⟩

end Go.Proofs.Ytfonpkegaeebaaa
