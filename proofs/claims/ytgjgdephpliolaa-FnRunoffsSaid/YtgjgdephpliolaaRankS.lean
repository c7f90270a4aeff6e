/- Contracts of the laws' helpers on slices of rankings: to, eq, sz. No conditions beyond sizes. -/
import Derived.Test.YtgjgdephpliolaaIntS
import Derived.Test.YtgjgdephpliolaaSmall
import Derived.Test.YtgjgdephpliolaaNest
import Derived.Test.YtgjgdephpliolaaInts2
import Derived.Test.YtgjgdephpliolaaBw
namespace Go.Proofs.Ytgjgdephpliolaa
open Go.RowKit
set_option linter.unusedVariables false
set_option linter.unusedSimpArgs false

structure DRanking where
  order : List Int
  weight : Int
deriving DecidableEq

abbrev vRank (u : Value) (r : DRanking) : Value := .agg #[u, .int .i64 r.weight]
def rcell (u : Value) (r : DRanking) : List Value := [u, .int .i64 r.weight]
abbrev RanksAt (w : World) (v : Value) (rs : List DRanking) : Prop := NestAt rcell DRanking.order 2 w v rs
theorem RanksAt.below {w w' : World} {v : Value} {xs : List DRanking} (h : RanksAt w v xs) (hb : Below w.heap.size w w') : RanksAt w' v xs := NestAt.below h hb
theorem RanksAt.form {w : World} {v : Value} {xs : List DRanking} (h : RanksAt w v xs) : ∃ ao cap, v = .slice ao xs.length cap := NestAt.form h
theorem RanksAt.get {w : World} {ao : Option Addr} {cap : Nat} {xs : List DRanking} (h : RanksAt w (.slice ao xs.length cap) xs) {k : Nat} (hk : k < xs.length) :
    ∃ b off u, ao = some ⟨b, off, none⟩ ∧ b < w.heap.size ∧ IntsAt w u xs[k].order ∧ w.cell? ⟨b, off + k * 2, none⟩ = some u ∧ w.cell? ⟨b, off + k * 2 + 1, none⟩ = some (.int .i64 xs[k].weight) := by
  obtain ⟨b, off, u, h1, h2, h3, h4⟩ := NestAt.get (f := rcell) (ord := DRanking.order) (size := 2) (fun _ _ => rfl) h hk
  exact ⟨b, off, u, h1, h2, h3, by simpa [rcell] using h4 0 (by omega), by simpa [rcell] using h4 1 (by omega)⟩
def RanksLe (rs : List DRanking) : Prop := rs.length ≤ 1048576 ∧ ∀ r ∈ rs, r.order.length ≤ 1048576

set_option maxHeartbeats 1000000 in
theorem toRanking_c (u : Value) (r : DRanking) (w : World) (h : IntsAt w u r.order) (hn : r.order.length ≤ 1048576) :
    Calls Try.prog 69 #[vRank u r] w fun e w' => ∃ p, e = .returned (vRank p r) ∧ OwnInts w' w.heap.size p r.order ∧ Below w.heap.size w w' := by
  obtain ⟨ao, cap, rfl⟩ := h.form
  obtain ⟨W, hW⟩ : ∃ W, W = ((w.alloc (.cells #[.slice ao r.order.length cap, .int .i64 r.weight] 74)).alloc (.cells #[.slice none 0 0, .int .i64 0] 44)).alloc (.cells #[.slice none 0 0, .int .i64 0] 44) := ⟨_, rfl⟩
  have bA : BoxAt W w.heap.size #[.slice ao r.order.length cap, .int .i64 r.weight] := by rw [hW]; exact ((BoxAt.new _ _ _).alloc _).alloc _
  have bR : BoxAt W (w.heap.size + 1) #[.slice none 0 0, .int .i64 0] := by rw [hW]; exact (BoxAt.new_at _ _ _ _ (by simp)).alloc _
  have bT : BoxAt W (w.heap.size + 2) #[.slice none 0 0, .int .i64 0] := by rw [hW]; exact BoxAt.new_at _ _ _ _ (by simp)
  have hWb : Below w.heap.size w W := by rw [hW]; go_grown
  have hWs : W.heap.size = w.heap.size + 3 := by rw [hW]; simp
  have hI := h.below hWb
  have HW := Lib.hid hW; clear hW
  have a0 := bA.cells
  go_enter Try.func69, Try.ntmps69
  go_wp2_with fail
  rw [← HW.out]
  go_wp2_with fail
  refine (toIntS_c _ r.order _ hI hn).mono ?_
  rintro e w1 ⟨p, rfl, ho, hb1⟩
  obtain ⟨ap, kp, rfl⟩ := ho.at_.form
  have R1 := bR.below hb1; have T1 := bT.below hb1
  have a1 := (bA.below hb1).cells; have t1 := T1.cells; have tf1 := T1.free
  have r1 := R1.cells; have rf1 := R1.free
  clear a0
  go_wp2_with fail
  have hs1 := hb1.size
  have hout : ∀ w3, OutOf w.heap.size (w.heap.size + 3) w1 w3 → OwnInts w3 w.heap.size (.slice ap r.order.length kp) r.order ∧ Below w.heap.size w w3 := by
    intro w3 ho3
    have h1 := ho.toR.keep (ho3.same (.inr (by omega)) (Nat.le_refl _))
    exact ⟨own_base h1.1 (by omega), (hWb.trans (hb1.mono (by omega))).trans (ho3.below (Nat.le_refl _) (by omega))⟩
  refine bodyPost_ret (v := vRank (.slice ap r.order.length kp) r) (by simp [results, Try.results69, go_sem, r1]) rfl ⟨_, rfl, hout _ ?_⟩
  repeat (first | with_reducible exact OutOf.refl _ _ _ | with_reducible refine OutOf.setIn ?_ ?_ ?_ _ | (simp; done) | omega)

theorem rank_info : (Try.prog.info? 44).map (fun i => (i.zero, i.size, i.bytes)) = some (some (.agg #[.slice none 0 0, .int .i64 0]), 2, 32) := by kernel_rfl
abbrev OwnRanks (w : World) (B : Nat) (v : Value) (xs : List DRanking) : Prop := OwnNest rcell DRanking.order 2 44 3 w B v xs
theorem OwnRanks.at_ {w : World} {B : Nat} {v : Value} {xs : List DRanking} (h : OwnRanks w B v xs) : RanksAt w v xs := OwnNest.at_ h

set_option maxHeartbeats 1000000 in
theorem toRankingS_c (v : Value) (xs : List DRanking) (w : World) (h : RanksAt w v xs) (hn : RanksLe xs) :
    Calls Try.prog 30 #[v] w fun e w' => ∃ u, e = .returned u ∧ OwnRanks w' w.heap.size u xs ∧ Below w.heap.size w w' := by
  obtain ⟨i0, hi, hz0, hz1, hz2⟩ := info_parts rank_info
  obtain ⟨hn1, hn2⟩ := hn
  have HN := Lib.hid hn2; clear hn2
  obtain ⟨ao, cap, rfl⟩ := h.form
  go_enter Try.func30, Try.ntmps30
  go_wp2_with (at_make; refine wpList_make_full _ rfl _ _ 24 rfl w.heap.size 44 i0 (.agg #[.slice none 0 0, .int .i64 0]) 2 Try.underlying24 hi hz0 hz1 _ _ _ _ xs.length rfl rfl rfl rfl ?c1 ?c2 ?c3 ?_)
  case c1 => rw [hz2]; omega
  case c2 => unfold maxLen; omega
  case c3 => omega
  intro w1 hown hg
  have hb : Below w.heap.size w w1 := (Below.refl _ _).grown hg (Nat.le_refl _) (by simp)
  obtain ⟨rest, hrest⟩ : ∃ rest, w1.ownsRow w.heap.size 44 2 (.slice (some ⟨w.heap.size, 0, none⟩) xs.length xs.length) xs.length rest := ⟨_, hown⟩
  clear hown
  have hrl := hrest.1
  go_wp2_with fail
  go_loopw [4] (fun i wr => ∃ (k : Nat) (es : List (Value × DRanking)), k ≤ xs.length ∧ i = .int .i64 k ∧ es.map Prod.snd = xs.take k ∧ wr.ownsRow w.heap.size 44 2 (.slice (some ⟨w.heap.size, 0, none⟩) xs.length xs.length) xs.length (ncs rcell es ++ rest.drop (k * 2)) ∧
    (∀ p ∈ es, OwnI 3 wr (w.heap.size + 1) p.1 p.2.order) ∧ es.Pairwise (fun p q => p.1.ownBlock = none ∨ p.1.ownBlock ≠ q.1.ownBlock) ∧ Below w.heap.size w wr) (fun i _ => xs.length - (intOf i).toNat)
  case atStart => exact ⟨0, [], by omega, rfl, by simp, by simpa [ncs] using hrest, by simp, List.Pairwise.nil, hb⟩
  case round =>
    obtain ⟨k, es, hk, rfl, hes, hown, hin, hpw, hb⟩ := hrel
    have hel : es.length = k := by have := congrArg List.length hes; simp at this; omega
    by_cases hlt : k < xs.length
    · obtain ⟨b, off, u0, rfl, h4, h5, c0, c1⟩ := (h.below hb).get hlt
      have hnk := HN.out _ (List.getElem_mem hlt)
      have htk := take_at hlt
      generalize xs[k] = r at *
      obtain ⟨a1, k1, rfl⟩ := h5.form
      have HES := Lib.hid hes; clear hes
      have HTK := Lib.hid htk; clear htk
      have HEL := Lib.hid hel; clear hel
      go_wp2_with fail
      refine (toRanking_c _ r _ h5 hnk).mono ?_
      rintro e w2 ⟨p, rfl, ho, hb2⟩
      obtain ⟨ap, kp, rfl⟩ := ho.at_.form
      have hown2 := own_below hown hb2
      have hb' := below_step hb hb2
      have hg2 := (hown.lt w.heap.size rfl).2
      have hst := own_nest_step (f := rcell) (ord := DRanking.order) (fun _ _ => rfl) HEL.out hlt hrl hown2 (fun p hp => (hin p hp).below hb2) (own_base ho (by omega)) hpw
        (fun p hp => by
          cases hpb : p.1.ownBlock with
          | none => exact .inl rfl
          | some bb =>
            refine .inr fun hc => ?_
            have e1 := ((hin p hp).lt bb hpb).2
            have e2 := (ho.lt bb hc.symm).1
            omega)
      obtain ⟨hst1, hst2, hst3⟩ := hst
      have hf : ∀ j, w2.frozen? ⟨w.heap.size, j, none⟩ = false := hown2.frozenAt
      have hex : ∀ j, j < 2 → ∃ y, w2.cell? ⟨w.heap.size, k * 2 + j, none⟩ = some y := fun j hj => by
        rw [hown2.cellAt (k * 2 + j) (by omega)]
        exact ⟨_, List.getElem?_eq_getElem (by rw [hown2.1]; omega)⟩
      obtain ⟨y0, e0⟩ := hex 0 (by omega)
      obtain ⟨y1, e1⟩ := hex 1 (by omega)
      simp only [World.setCells, rcell, Nat.add_assoc, Nat.reduceAdd, Nat.add_zero] at hst1 hst2 e0
      have HS3 := Lib.hid hst3
      clear c0 c1 hex hst3
      go_wp2_with fail
      go_roundw
      case rel => exact ⟨k + 1, es ++ [(.slice ap r.order.length kp, r)], by omega, by go_num, by rw [List.map_append, HES.out, HTK.out]; rfl, hst1, hst2, HS3.out, by go_grown⟩
      case measure => simp [intOf]; omega
    · obtain rfl : k = xs.length := by omega
      rw [List.take_length] at hes
      have hdone := own_nest_done (f := rcell) (ord := DRanking.order) hes hrl (by omega) hown hin hpw
      clear hes hel
      go_wp2_with fail
      go_ret
      exact ⟨_, rfl, hdone, hb⟩

theorem szRanking_c (u : Value) (r : DRanking) (left : Int) (w : World) (h : IntsAt w u r.order) (hl : 0 ≤ left) (hl2 : left ≤ 1048576) :
    Calls Try.prog 66 #[vRank u r, .int .i64 left] w fun e w' => e = .returned (.int .i64 (szSub left r.order.length)) ∧ Below w.heap.size w w' := by
  obtain ⟨ao, cap, rfl⟩ := h.form
  have hz : szSub left r.order.length < 0 ∧ szSub left r.order.length = -1 ∨ 0 ≤ szSub left r.order.length := by unfold szSub; split <;> omega
  go_enter Try.func66, Try.ntmps66
  go_wp2_with (go_at_call 88; refine (szIntS_c _ r.order _ _ (h.alloc _) hl hl2).mono ?_; rintro e w1 ⟨rfl, hb1⟩)
  all_goals go_ret
  all_goals exact ⟨ret_int (by omega), below_al hb1 (by simp)⟩

set_option maxHeartbeats 1000000 in
theorem szRankingS_c (v : Value) (xs : List DRanking) (left : Int) (w : World) (h : RanksAt w v xs) (hl : 0 ≤ left) (hl2 : left ≤ 1048576) :
    Calls Try.prog 28 #[v, .int .i64 left] w fun e w' => ∃ r : Int, e = .returned (.int .i64 r) ∧ (r < 0 ∨ (0 ≤ r ∧ r ≤ 1048576 ∧ RanksLe xs)) ∧ Below w.heap.size w w' := by
  have hL := h.len
  unfold maxLen at hL
  obtain ⟨ao, cap, rfl⟩ := h.form
  by_cases h0 : left - xs.length < 0
  · go_enter Try.func28, Try.ntmps28
    go_wp2_with fail
    go_ret
    exact ⟨-1, rfl, .inl (by omega), Below.refl _ _⟩
  · have h0' : 0 ≤ left - xs.length := by omega
    have hxl : xs.length ≤ 1048576 := by omega
    go_enter Try.func28, Try.ntmps28
    go_wp2_with fail
    go_loopw [1, 5] (fun l i wr => ∃ (k : Nat) (y : Int), k ≤ xs.length ∧ i = .int .i64 k ∧ l = .int .i64 y ∧ 0 ≤ y ∧ y ≤ 1048576 ∧ Hid (∀ r ∈ xs.take k, r.order.length ≤ 1048576) ∧ Below w.heap.size w wr) (fun _ i _ => xs.length - (intOf i).toNat)
    case atStart => exact ⟨0, left - xs.length, by omega, rfl, rfl, by omega, by omega, by simp [Hid], Below.refl _ _⟩
    case round =>
      obtain ⟨k, y, hk, rfl, rfl, hy0, hy1, hd, hb⟩ := hrel
      by_cases hlt : k < xs.length
      · obtain ⟨b, off, u0, rfl, h4, h5, c0, c1⟩ := (h.below hb).get hlt
        have htk := take_at hlt
        generalize xs[k] = r at *
        obtain ⟨a1, k1, rfl⟩ := h5.form
        have HTK := Lib.hid htk; clear htk
        go_wp2_with fail
        refine (szRanking_c _ r _ _ h5 hy0 hy1).mono ?_
        rintro e w2 ⟨rfl, hb2⟩
        by_cases hs : y - r.order.length < 0
        · have hz : szSub y r.order.length = -1 := by unfold szSub; rw [if_pos hs]
          rw [hz]
          go_wp2_with fail
          go_ret
          exact ⟨-1, rfl, .inl (by omega), below_step hb hb2⟩
        · have hz : szSub y r.order.length = y - r.order.length := by unfold szSub; rw [if_neg hs]
          rw [hz]
          have hr1 : r.order.length ≤ 1048576 := by omega
          obtain ⟨y2, hy2⟩ : ∃ y2 : Int, y2 = y - r.order.length := ⟨_, rfl⟩
          rw [← hy2]
          have q0 : 0 ≤ y2 := by omega
          have q1 : y2 ≤ 1048576 := by omega
          clear hy2 hz hs
          have HD : Hid (∀ r' ∈ xs.take (k + 1), r'.order.length ≤ 1048576) := by
            simp only [Hid]
            rw [HTK.out]
            intro r' hr'
            rcases List.mem_append.1 hr' with h1 | h1
            · exact hd.out r' h1
            · simp only [List.mem_singleton] at h1; subst h1; exact hr1
          go_wp2_with fail
          go_roundw
          case rel => exact ⟨k + 1, y2, by omega, by go_num, rfl, q0, q1, HD, below_step hb hb2⟩
          case measure => simp [intOf]; omega
      · obtain rfl : k = xs.length := by omega
        have HD : Hid (RanksLe xs) := ⟨hxl, by have := hd.out; rwa [List.take_length] at this⟩
        go_wp2_with fail
        go_ret
        exact ⟨y, rfl, .inr ⟨hy0, hy1, HD.out⟩, hb⟩

set_option maxHeartbeats 1000000 in
theorem eqRanking_c (u u' : Value) (r r' : DRanking) (w : World) (h : IntsAt w u r.order) (h' : IntsAt w u' r'.order) :
    Calls Try.prog 74 #[vRank u r, vRank u' r'] w fun e w' => e = .returned (.bool (decide (r = r'))) ∧ Below w.heap.size w w' := by
  have hdec : decide (r = r') = (decide (r.order = r'.order) && decide (r.weight = r'.weight)) := by
    cases r; cases r'; simp
  rw [hdec]; clear hdec
  obtain ⟨ao, cap, rfl⟩ := h.form
  obtain ⟨bo, dap, rfl⟩ := h'.form
  obtain ⟨W, hW⟩ : ∃ W, W = (w.alloc (.cells #[.slice ao r.order.length cap, .int .i64 r.weight] 44)).alloc (.cells #[.slice bo r'.order.length dap, .int .i64 r'.weight] 44) := ⟨_, rfl⟩
  have bA : BoxAt W w.heap.size #[.slice ao r.order.length cap, .int .i64 r.weight] := by rw [hW]; exact (BoxAt.new _ _ _).alloc _
  have bB : BoxAt W (w.heap.size + 1) #[.slice bo r'.order.length dap, .int .i64 r'.weight] := by rw [hW]; exact BoxAt.new_at _ _ _ _ (by simp)
  have hWb : Below w.heap.size w W := by rw [hW]; go_grown
  have hI := h.below hWb
  have hI' := h'.below hWb
  have HW := Lib.hid hW; clear hW
  have a0 := bA.cells; have b0 := bB.cells
  go_enter Try.func74, Try.ntmps74
  go_wp2_with fail
  rw [← HW.out]
  go_wp2_with fail
  refine (eqIntS_c _ _ r.order r'.order _ hI hI').mono ?_
  rintro e w1 ⟨rfl, hb1⟩
  have a1 := (bA.below hb1).cells; have b1 := (bB.below hb1).cells
  clear a0 b0
  cases hd : decide (r.order = r'.order) with
  | false =>
    go_wp2_with fail
    go_ret
    exact ⟨ret_bool (by first | rfl | (rw [hd]; rfl)), hWb.trans (hb1.mono hWb.size)⟩
  | true =>
    by_cases hx : r.weight = r'.weight
    · have hb2 : (r.weight != r'.weight) = false := by simp [hx]
      go_wp2_with fail
      go_ret
      exact ⟨ret_bool (by simp [hx, of_decide_eq_true hd]), hWb.trans (hb1.mono hWb.size)⟩
    · have hb2 : (r.weight != r'.weight) = true := by simp [hx]
      go_wp2_with fail
      go_ret
      exact ⟨ret_bool (by simp [hx, of_decide_eq_true hd]), hWb.trans (hb1.mono hWb.size)⟩

set_option maxHeartbeats 1000000 in
theorem eqRankingS_c (v u : Value) (xs ys : List DRanking) (w : World) (h : RanksAt w v xs) (g : RanksAt w u ys) :
    Calls Try.prog 33 #[v, u] w fun e w' => e = .returned (.bool (decide (xs = ys))) ∧ Below w.heap.size w w' := by
  have hL := h.len; have gL := g.len
  unfold maxLen at hL gL
  obtain ⟨ao, cap, rfl⟩ := h.form
  obtain ⟨ao', cap', rfl⟩ := g.form
  by_cases hl : xs.length = ys.length
  · have hlb : (((xs.length : Nat) : Int) != ((ys.length : Nat) : Int)) = false := by simp [hl]
    have HL := Lib.hid hl; clear hl
    go_enter Try.func33, Try.ntmps33
    go_wp2_with fail
    go_loopw [5] (fun i wr => ∃ k : Nat, k ≤ xs.length ∧ i = .int .i64 k ∧ Hid (decide (xs = ys) = decide (xs.drop k = ys.drop k)) ∧ Below w.heap.size w wr) (fun i _ => xs.length - (intOf i).toNat)
    case atStart => exact ⟨0, by omega, rfl, by simp [Hid], Below.refl _ _⟩
    case round =>
      obtain ⟨k, hk, rfl, hd, hb⟩ := hrel
      by_cases hlt : k < xs.length
      · have hlt' : k < ys.length := by have := HL.out; omega
        obtain ⟨b, off, u0, rfl, h4, h5, c0, c1⟩ := (h.below hb).get hlt
        obtain ⟨b', off', u1, rfl, g4, g5, d0, d1⟩ := (g.below hb).get hlt'
        have hd' := hd.out
        rw [drop_at hlt, drop_at hlt'] at hd'
        simp only [List.cons.injEq] at hd'
        have hq := fun x : BW wr => eqRanking_c u0 u1 xs[k] ys[k] x.w (h5.below x.h) (g5.below x.h)
        have r0 := BW.cell h4 c0; have r1 := BW.cell h4 c1
        have s0 := BW.cell g4 d0; have s1 := BW.cell g4 d1
        by_cases hxy : xs[k] = ys[k]
        · have HD : Hid (decide (xs = ys) = decide (xs.drop (k + 1) = ys.drop (k + 1))) := by simpa [Hid, hxy] using hd'
          have HX : decide (xs[k] = ys[k]) = true := by simp [hxy]
          simp only [HX] at hq
          have HQ := Lib.hid hq
          clear hd hd' hxy HX hq
          generalize xs[k] = p at *
          generalize ys[k] = q at *
          go_wp2_with fail
          refine wp_region_bw (by kernel_rfl) (by kernel_rfl) ?_
          repeat (first
            | go_big_quiet_skip
            | (go_big_quiet_want; go_big_quiet_op; first | go_big_quiet_on | (apply Exists.intro; refine ⟨fun _ => ?_, ?_⟩; ((go_at_call 74; exact BW.call (HQ.out _))); go_big_quiet_on)))
          refine wpQuiet_nil ?_
          rintro _ ⟨xq, rfl⟩
          go_wp2_with fail
          go_roundw
          case rel => exact ⟨k + 1, by omega, by go_num, HD, below_step hb xq.h⟩
          case measure => simp [intOf]; omega
        · have HD : Hid (decide (xs = ys) = false) := by simpa [Hid, hxy] using hd'
          have HX : decide (xs[k] = ys[k]) = false := by simp [hxy]
          simp only [HX] at hq
          have HQ := Lib.hid hq
          clear hd hd' hxy HX hq
          generalize xs[k] = p at *
          generalize ys[k] = q at *
          go_wp2_with fail
          refine wp_region_bw (by kernel_rfl) (by kernel_rfl) ?_
          repeat (first
            | go_big_quiet_skip
            | (go_big_quiet_want; go_big_quiet_op; first | go_big_quiet_on | (apply Exists.intro; refine ⟨fun _ => ?_, ?_⟩; ((go_at_call 74; exact BW.call (HQ.out _))); go_big_quiet_on)))
          refine wpQuiet_nil ?_
          rintro _ ⟨xq, rfl⟩
          go_wp2_with fail
          go_ret
          exact ⟨ret_bool HD.out.symm, below_step hb xq.h⟩
      · have HD : Hid (decide (xs = ys) = true) := by
          have hd' := hd.out
          rw [List.drop_of_length_le (by omega), List.drop_of_length_le (by have := HL.out; omega)] at hd'
          simpa [Hid] using hd'
        clear hd
        go_wp2_with fail
        go_ret
        exact ⟨ret_bool HD.out.symm, hb⟩
  · have hlb : (((xs.length : Nat) : Int) != ((ys.length : Nat) : Int)) = true := by rw [bne_iff_ne]; omega
    have HD : Hid (decide (xs = ys) = false) := by
      simp only [Hid, decide_eq_false_iff_not]; rintro rfl; exact hl rfl
    have HL := Lib.hid hl; clear hl
    go_enter Try.func33, Try.ntmps33
    go_wp2_with fail
    go_ret
    exact ⟨ret_bool HD.out.symm, Below.refl _ _⟩

end Go.Proofs.Ytgjgdephpliolaa
