/- Contracts: seats by quotients (halves, odds), the last seat. No conditions beyond sizes. -/
import Derived.Test.YtokjamdikenkoaaShare
import Derived.Test.YtokjamdikenkoaaMem
namespace Go.Proofs.Ytokjamdikenkoaa
open Go.RowKit
set_option linter.unusedVariables false
set_option linter.unusedSimpArgs false

/-- Group i has a greater quotient than group b. -/
def qMore (st : Int) (vs hs : List Int) (b i : Nat) : Bool := decide (vs.getD b 0 * (st * hs.getD i 0 + 1) < vs.getD i 0 * (st * hs.getD b 0 + 1))
/-- The group with the greatest quotient, of the first k. -/
def qBest (st : Int) (vs hs : List Int) : Nat → Nat
  | 0 => 0
  | k + 1 => if qMore st vs hs (qBest st vs hs k) k then k else qBest st vs hs k
theorem qBest_one' (st : Int) (vs hs : List Int) : (if qMore st vs hs (qBest st vs hs 0) 0 then 0 else qBest st vs hs 0) = 0 := by cases qMore st vs hs (qBest st vs hs 0) 0 <;> rfl
theorem qBest_lt (st : Int) (vs hs : List Int) (k : Nat) (h : 0 < k) : qBest st vs hs k < k := by
  induction k with
  | zero => omega
  | succ k ih =>
    simp only [qBest]
    rcases Nat.eq_zero_or_pos k with h0 | h0
    · subst h0; rw [qBest_one' st vs hs]; omega
    · have := ih h0; split <;> omega
theorem qBest_one (st : Int) (vs hs : List Int) : qBest st vs hs 1 = 0 := qBest_one' st vs hs

/-- The seats after s of them, and the group of the last one. -/
def qSeats (st : Int) (vs : List Int) : Nat → List Int × Nat
  | 0 => (List.replicate vs.length 0, 0)
  | s + 1 => ((qSeats st vs s).1.set (qBest st vs (qSeats st vs s).1 vs.length) ((qSeats st vs s).1.getD (qBest st vs (qSeats st vs s).1 vs.length) 0 + 1), qBest st vs (qSeats st vs s).1 vs.length)
theorem qSeats_len (st : Int) (vs : List Int) (s : Nat) : (qSeats st vs s).1.length = vs.length := by
  induction s with
  | zero => simp [qSeats]
  | succ s ih => simp [qSeats, ih]
theorem qSeats_bd (st : Int) (vs : List Int) (s : Nat) : ∀ x ∈ (qSeats st vs s).1, 0 ≤ x ∧ x ≤ s := by
  induction s with
  | zero =>
    intro x hx
    have hx' : x ∈ List.replicate vs.length (0 : Int) := hx
    have := List.eq_of_mem_replicate hx'
    omega
  | succ s ih =>
    intro x hx
    rcases List.mem_or_eq_of_mem_set (by simpa [qSeats] using hx) with h | h
    · have := ih x h; omega
    · subst h
      generalize qBest st vs (qSeats st vs s).1 vs.length = b
      by_cases hb : b < (qSeats st vs s).1.length
      · have := ih _ (List.getElem_mem hb)
        rw [List.getElem?_eq_getElem hb]
        simp only [Option.getD_some]; omega
      · rw [List.getElem?_eq_none (by omega)]
        simp only [Option.getD_none]; omega

/-- What a step of the search reckons. -/
theorem q_facts {st x y hx hb : Int} (hst : 1 ≤ st ∧ st ≤ 2) (h1 : 0 ≤ x ∧ x ≤ 10000) (h2 : 0 ≤ y ∧ y ≤ 10000) (h3 : 0 ≤ hx ∧ hx ≤ 50) (h4 : 0 ≤ hb ∧ hb ≤ 50) :
    ∃ m1 m2 n1 n2 P Q : Int, wrap64 (st * hb) = m1 ∧ wrap64 (m1 + 1) = m2 ∧ wrap64 (x * m2) = P ∧ wrap64 (st * hx) = n1 ∧ wrap64 (n1 + 1) = n2 ∧ wrap64 (y * n2) = Q ∧
      (decide (Q < P) = decide (y * (st * hx + 1) < x * (st * hb + 1))) := by
  have a1 := mul_bd (a := st) (b := hb) (c := 2) (d := 50) (by omega) hst.2 h4.1 h4.2
  have a2 := mul_bd (a := st) (b := hx) (c := 2) (d := 50) (by omega) hst.2 h3.1 h3.2
  have a3 := mul_bd (a := x) (b := st * hb + 1) (c := 10000) (d := 101) h1.1 h1.2 (by omega) (by omega)
  have a4 := mul_bd (a := y) (b := st * hx + 1) (c := 10000) (d := 101) h2.1 h2.2 (by omega) (by omega)
  refine ⟨st * hb, st * hb + 1, st * hx, st * hx + 1, x * (st * hb + 1), y * (st * hx + 1), ?_, ?_, ?_, ?_, ?_, ?_, rfl⟩ <;> exact IntWalk.wrap64_in _ (by omega)

theorem getD_at {xs : List Int} {k : Nat} (h : k < xs.length) : xs.getD k 0 = xs[k] := by simp [List.getD, List.getElem?_eq_getElem h]
theorem ints_getD {xs : List Int} {k : Nat} (h : k < xs.length) : (ints xs)[k]? = some (.int .i64 (xs.getD k 0)) := by
  rw [getD_at h, List.getElem?_eq_getElem (by simpa using h), ints_get _ _ h]
theorem CellsAt.intD {w : World} {b off k : Nat} {xs : List Int} (h : CellsAt w b off (ints xs)) (hk : k < xs.length) : w.cell? ⟨b, off + k, none⟩ = some (.int .i64 (xs.getD k 0)) := by
  rw [h.int hk, getD_at hk]
theorem mem_getD {xs : List Int} {k : Nat} (h : k < xs.length) : xs.getD k 0 ∈ xs := by rw [getD_at h]; exact List.getElem_mem h
theorem ints_set (xs : List Int) (k : Nat) (x : Int) : (ints xs).set k (.int .i64 x) = ints (xs.set k x) := by simp [ints, List.map_set]

set_option maxHeartbeats 1000000 in
theorem s_l14Next (v u : Value) (vs hs : List Int) (st : Int) (w : World) (h : IntsAt w v vs) (g : IntsAt w u hs) (hl : hs.length = vs.length) (hn : 0 < vs.length)
    (hv : ∀ x ∈ vs, 0 ≤ x ∧ x ≤ 10000) (hh : ∀ x ∈ hs, 0 ≤ x ∧ x ≤ 50) (hst : 1 ≤ st ∧ st ≤ 2) :
    Calls Try.prog 67 #[v, u, .int .i64 st] w fun e w' => e = .returned (.int .i64 (qBest st vs hs vs.length : Nat)) ∧ Below w.heap.size w w' := by
  obtain ⟨_, ao, cap, rfl, h1, h2, h3⟩ := h
  obtain ⟨_, ao', cap', rfl, g1, g2, g3⟩ := g
  obtain ⟨b1, off1, rfl, h4, h5⟩ := h3 hn
  obtain ⟨b2, off2, rfl, g4, g5⟩ := g3 (by omega)
  unfold maxLen at h2 g2
  have HV := Lib.hid hv; clear hv
  have HH := Lib.hid hh; clear hh
  have hn2 : 0 < hs.length := by omega
  have HL := Lib.hid hl; clear hl
  clear h3 g3
  go_enter Try.func67, Try.ntmps67
  go_wp2
  go_loopw [7, 8] (fun bv i wr => ∃ k b : Nat, 1 ≤ k ∧ k ≤ vs.length ∧ i = .int .i64 k ∧ bv = .int .i64 b ∧ b < k ∧ Hid (b = qBest st vs hs k) ∧ Below w.heap.size w wr) (fun _ i _ => vs.length - (intOf i).toNat)
  case atStart => exact ⟨1, 0, by omega, by omega, rfl, rfl, by omega, (qBest_one _ _ _).symm, Below.refl _ _⟩
  case round =>
    obtain ⟨k, b, hk1, hk, rfl, rfl, hbk, hq, hb⟩ := hrel
    by_cases hlt : k < vs.length
    · have c1 : wr.cell? ⟨b1, off1 + k, none⟩ = some (.int .i64 (vs.getD k 0)) := by rw [hb.cell (p := ⟨b1, off1 + k, none⟩) h4, h5.intD hlt]
      have c2 : wr.cell? ⟨b1, off1 + b, none⟩ = some (.int .i64 (vs.getD b 0)) := by rw [hb.cell (p := ⟨b1, off1 + b, none⟩) h4, h5.intD (by omega)]
      have hlen2 : k < hs.length := by have := HL.out; omega
      have hlen3 : b < hs.length := by have := HL.out; omega
      have hlen4 : b < vs.length := by omega
      have c3 : wr.cell? ⟨b2, off2 + k, none⟩ = some (.int .i64 (hs.getD k 0)) := by rw [hb.cell (p := ⟨b2, off2 + k, none⟩) g4, g5.intD (by omega)]
      have c4 : wr.cell? ⟨b2, off2 + b, none⟩ = some (.int .i64 (hs.getD b 0)) := by rw [hb.cell (p := ⟨b2, off2 + b, none⟩) g4, g5.intD (by omega)]
      obtain ⟨m1, m2, n1, n2, P, Q, e1, e2, e3, e4, e5, e6, e7⟩ := q_facts hst (HV.out _ (mem_getD hlt)) (HV.out _ (mem_getD (k := b) (by omega))) (HH.out _ (mem_getD (k := k) (by omega))) (HH.out _ (mem_getD (k := b) (by omega)))
      have e7' : Hid (decide (Q < P) = qMore st vs hs b k) := e7
      clear e7
      generalize vs.getD k 0 = x1 at *
      generalize vs.getD b 0 = x2 at *
      generalize hs.getD k 0 = x3 at *
      generalize hs.getD b 0 = x4 at *
      by_cases hQ : Q < P
      · have HQ : Hid (k = qBest st vs hs (k + 1)) := by
          simp only [Hid, qBest, ← hq.out, ← e7'.out, hQ, decide_true, if_true]
        clear hq e7'
        go_wp2_with fail
        go_quiet (fail)
        go_wp2_with fail
        go_roundw
        case rel => exact ⟨k + 1, k, by omega, by omega, by go_num, rfl, by omega, HQ, Below.drewN' hb _⟩
        case measure => simp [intOf]; omega
      · have HQ : Hid (b = qBest st vs hs (k + 1)) := by
          simp only [Hid, qBest, ← hq.out, ← e7'.out, hQ, decide_false, Bool.false_eq_true, if_false]
        clear hq e7'
        go_wp2_with fail
        go_quiet (fail)
        go_wp2_with fail
        go_roundw
        case rel => exact ⟨k + 1, b, by omega, by omega, by go_num, rfl, by omega, HQ, Below.drewN' hb _⟩
        case measure => simp [intOf]; omega
    · have hkn : k = vs.length := by omega
      have HQ : Hid (b = qBest st vs hs vs.length) := by rw [← hkn]; exact hq
      clear hq hkn
      go_wp2_with fail
      go_ret
      exact ⟨ret_int (by rw [← HQ.out]), hb⟩

set_option maxHeartbeats 1000000 in
theorem s_l14Divisors (v : Value) (vs : List Int) (s : Nat) (st : Int) (w : World) (h : IntsAt w v vs) (hn : 0 < vs.length) (hn8 : vs.length ≤ 8)
    (hv : ∀ x ∈ vs, 0 ≤ x ∧ x ≤ 10000) (hs : s ≤ 50) (hst : 1 ≤ st ∧ st ≤ 2) :
    Calls Try.prog 44 #[v, .int .i64 s, .int .i64 st] w fun e w' => ∃ u, e = .returned (.tuple #[u, .int .i64 ((qSeats st vs s).2 : Nat)]) ∧ OwnInts w' w.heap.size u (qSeats st vs s).1 ∧ Below w.heap.size w w' := by
  obtain ⟨i0, hi, hz0, hz1, hz2⟩ := info_parts int_info
  have hI := h
  obtain ⟨hlen, ao, cap, rfl, h1, h2, h3⟩ := h
  have HV := Lib.hid hv; clear hv
  go_enter Try.func44, Try.ntmps44
  go_wp2_with (at_make; refine wpList_make_full _ rfl _ _ 22 rfl w.heap.size 3 i0 (.int .i64 0) 1 Try.underlying22 hi hz0 hz1 _ _ _ _ vs.length rfl rfl rfl rfl ?c1 ?c2 ?c3 ?_)
  case c1 => rw [hz2]; omega
  case c2 => omega
  case c3 => omega
  intro w1 hown hg
  simp only [toList_madeCells_one, Nat.mul_one] at hown
  have hb : Below w.heap.size w w1 := (Below.refl _ _).grown hg (Nat.le_refl _) (by simp)
  go_wp2_with fail
  go_loopw [9, 10] (fun l i wr => ∃ k : Nat, k ≤ s ∧ i = .int .i64 k ∧ l = .int .i64 ((qSeats st vs k).2 : Nat) ∧ wr.ownsRow w.heap.size 3 1 (.slice (some ⟨w.heap.size, 0, none⟩) vs.length vs.length) vs.length (ints (qSeats st vs k).1) ∧ Below w.heap.size w wr) (fun _ i _ => s - (intOf i).toNat)
  case atStart => exact ⟨0, by omega, rfl, rfl, by simpa [ints, qSeats] using hown, hb⟩
  case round =>
    obtain ⟨k, hk, rfl, rfl, hown, hb⟩ := hrel
    by_cases hlt : k < s
    · have hql := qSeats_len st vs k
      have hbd : ∀ x ∈ (qSeats st vs k).1, 0 ≤ x ∧ x ≤ 50 := fun x hx => by have := qSeats_bd st vs k x hx; omega
      have hu : IntsAt wr (.slice (some ⟨w.heap.size, 0, none⟩) vs.length vs.length) (qSeats st vs k).1 := by have := rowAt_of_own hown; unfold IntsAt; rw [hql]; exact this
      have hst2 := (s_l14Next _ _ vs (qSeats st vs k).1 st wr (hI.below hb) hu hql hn HV.out hbd hst)
      have HS := Lib.hid hst2; clear hst2
      have hlt2 := qBest_lt st vs (qSeats st vs k).1 vs.length hn
      have hmem := hbd _ (mem_getD (k := qBest st vs (qSeats st vs k).1 vs.length) (by omega))
      have HE : Hid ((qSeats st vs k).1.set (qBest st vs (qSeats st vs k).1 vs.length) ((qSeats st vs k).1.getD (qBest st vs (qSeats st vs k).1 vs.length) 0 + 1) = (qSeats st vs (k + 1)).1 ∧ qBest st vs (qSeats st vs k).1 vs.length = (qSeats st vs (k + 1)).2) := ⟨rfl, rfl⟩
      clear hbd hu
      generalize (qSeats st vs k).1 = hs at *
      go_wp2_with fail
      refine HS.out.mono ?_
      rintro e w2 ⟨rfl, hb2⟩
      have hown2 := own_below hown hb2
      have hb' := below_step hb hb2
      generalize qBest st vs hs vs.length = b at *
      have hc : w2.cell? ⟨w.heap.size, b, none⟩ = some (.int .i64 (hs.getD b 0)) := by rw [hown2.cellAt b (by omega), ints_getD (by omega)]
      have hf2 := hown2.frozenAt b
      have hst := (hown2.stored b (.int .i64 (hs.getD b 0 + 1))).1
      rw [ints_set, HE.out.1] at hst
      have HE2 := Lib.hid HE.out.2
      clear HE
      generalize hs.getD b 0 = x at *
      go_wp2_with fail
      go_roundw
      case rel => exact ⟨k + 1, by omega, by go_num, by rw [← HE2.out], hst, hb'.setCell (by simp) _⟩
      case measure => simp [intOf]; omega
    · have hks : k = s := by omega
      subst hks
      have ho : OwnInts wr w.heap.size (.slice (some ⟨w.heap.size, 0, none⟩) vs.length vs.length) (qSeats st vs k).1 := by unfold OwnInts OwnI; rw [qSeats_len]; exact hown
      go_wp2_with fail
      go_ret2
      exact ⟨_, rfl, ho, hb⟩

set_option maxHeartbeats 1000000 in
theorem i_byQuotients (v : Value) (vs : List Int) (s : Nat) (st : Int) (w : World) (h : IntsAt w v vs) (hn : 0 < vs.length) (hn8 : vs.length ≤ 8)
    (hv : ∀ x ∈ vs, 0 ≤ x ∧ x ≤ 10000) (hs : s ≤ 50) (hst : 1 ≤ st ∧ st ≤ 2) :
    Calls Try.prog 43 #[v, .int .i64 s, .int .i64 st] w fun e w' => ∃ u, e = .returned (.tuple #[u, .int .i64 ((qSeats st vs s).2 : Nat)]) ∧ OwnInts w' w.heap.size u (qSeats st vs s).1 ∧ Below w.heap.size w w' := by
  obtain ⟨i0, hi, hz0, hz1, hz2⟩ := info_parts int_info
  obtain ⟨hlen, ao, cap, rfl, h1, h2, h3⟩ := h
  obtain ⟨b1, off1, rfl, h4, h5⟩ := h3 hn
  clear h3
  unfold maxLen at h2
  have HV := Lib.hid hv; clear hv
  go_enter Try.func43, Try.ntmps43
  go_wp2_with (at_make; refine wpList_make_full _ rfl _ _ 22 rfl w.heap.size 3 i0 (.int .i64 0) 1 Try.underlying22 hi hz0 hz1 _ _ _ _ vs.length rfl rfl rfl rfl ?c1 ?c2 ?c3 ?_)
  case c1 => rw [hz2]; omega
  case c2 => unfold maxLen; omega
  case c3 => omega
  intro w1 hown hg
  simp only [toList_madeCells_one, Nat.mul_one] at hown
  have hb : Below w.heap.size w w1 := (Below.refl _ _).grown hg (Nat.le_refl _) (by simp)
  go_wp2_with fail
  go_loopw [9, 16] (fun l i wr => ∃ k : Nat, k ≤ s ∧ i = .int .i64 k ∧ l = .int .i64 ((qSeats st vs k).2 : Nat) ∧ wr.ownsRow w.heap.size 3 1 (.slice (some ⟨w.heap.size, 0, none⟩) vs.length vs.length) vs.length (ints (qSeats st vs k).1) ∧ Below w.heap.size w wr) (fun _ i _ => s - (intOf i).toNat)
  case atStart => exact ⟨0, by omega, rfl, rfl, by simpa [ints, qSeats] using hown, hb⟩
  case round =>
    obtain ⟨k, hk, rfl, rfl, hown, hb⟩ := hrel
    by_cases hlt : k < s
    · have hql := qSeats_len st vs k
      have hbd : ∀ x ∈ (qSeats st vs k).1, 0 ≤ x ∧ x ≤ 50 := fun x hx => by have := qSeats_bd st vs k x hx; omega
      have hlt2 := qBest_lt st vs (qSeats st vs k).1 vs.length hn
      have hmem := hbd _ (mem_getD (k := qBest st vs (qSeats st vs k).1 vs.length) (by omega))
      have HE : Hid ((qSeats st vs k).1.set (qBest st vs (qSeats st vs k).1 vs.length) ((qSeats st vs k).1.getD (qBest st vs (qSeats st vs k).1 vs.length) 0 + 1) = (qSeats st vs (k + 1)).1 ∧ qBest st vs (qSeats st vs k).1 vs.length = (qSeats st vs (k + 1)).2) := ⟨rfl, rfl⟩
      have HB := Lib.hid hbd; clear hbd
      generalize (qSeats st vs k).1 = hs at *
      go_wp2_with fail
      go_loopw [9, 20] (fun bv i w2 => ∃ j b : Nat, j ≤ vs.length ∧ i = .int .i64 j ∧ bv = .int .i64 b ∧ b < vs.length ∧ Hid (b = qBest st vs hs j) ∧ Below wr.heap.size wr w2) (fun _ i _ => vs.length - (intOf i).toNat)
      case atStart => exact ⟨0, 0, by omega, rfl, rfl, by omega, rfl, Below.refl _ _⟩
      case round =>
        obtain ⟨j, b, hj, rfl, rfl, hbn, hq, hb2⟩ := hrel
        have hb' := below_step hb hb2
        have own2 := own_below hown hb2
        clear hb
        by_cases hj2 : j < vs.length
        · have hlen2 : j < hs.length := by omega
          have hlen3 : b < hs.length := by omega
          have c1 : wr.cell? ⟨b1, off1 + j, none⟩ = some (.int .i64 (vs.getD j 0)) := by rw [hb'.cell (p := ⟨b1, off1 + j, none⟩) h4, h5.intD hj2]
          have c2 : wr.cell? ⟨b1, off1 + b, none⟩ = some (.int .i64 (vs.getD b 0)) := by rw [hb'.cell (p := ⟨b1, off1 + b, none⟩) h4, h5.intD (by omega)]
          have c3 : wr.cell? ⟨w.heap.size, j, none⟩ = some (.int .i64 (hs.getD j 0)) := by rw [own2.cellAt j (by omega), ints_getD hlen2]
          have c4 : wr.cell? ⟨w.heap.size, b, none⟩ = some (.int .i64 (hs.getD b 0)) := by rw [own2.cellAt b (by omega), ints_getD hlen3]
          obtain ⟨m1, m2, n1, n2, P, Q, e1, e2, e3, e4, e5, e6, e7⟩ := q_facts hst (HV.out _ (mem_getD hj2)) (HV.out _ (mem_getD (k := b) hbn)) (HB.out _ (mem_getD (k := j) hlen2)) (HB.out _ (mem_getD (k := b) hlen3))
          have e7' : Hid (decide (Q < P) = qMore st vs hs b j) := e7
          have HQL := Lib.hid hql
          clear e7 hql hmem hown own2
          generalize vs.getD j 0 = x1 at *
          generalize vs.getD b 0 = x2 at *
          generalize hs.getD j 0 = x3 at *
          generalize hs.getD b 0 = x4 at *
          by_cases hQ : Q < P
          · have HQ : Hid (j = qBest st vs hs (j + 1)) := by
              simp only [Hid, qBest, ← hq.out, ← e7'.out, hQ, decide_true, if_true]
            clear hq e7'
            go_wp2_with fail
            go_quiet (fail)
            go_wp2_with fail
            go_roundw
            case rel => exact ⟨j + 1, j, by omega, by go_num, rfl, hj2, HQ, Below.drewN' hb2 _⟩
            case measure => simp [intOf]; omega
          · have HQ : Hid (b = qBest st vs hs (j + 1)) := by
              simp only [Hid, qBest, ← hq.out, ← e7'.out, hQ, decide_false, Bool.false_eq_true, if_false]
            clear hq e7'
            go_wp2_with fail
            go_quiet (fail)
            go_wp2_with fail
            go_roundw
            case rel => exact ⟨j + 1, b, by omega, by go_num, rfl, hbn, HQ, Below.drewN' hb2 _⟩
            case measure => simp [intOf]; omega
        · have hjn : j = vs.length := by omega
          have hbq : b = qBest st vs hs vs.length := by rw [← hjn]; exact hq.out
          clear hq
          rw [← hbq] at HE hmem
          clear hbq hjn
          have hc : wr.cell? ⟨w.heap.size, b, none⟩ = some (.int .i64 (hs.getD b 0)) := by rw [own2.cellAt b (by omega), ints_getD (by omega)]
          have hf2 := own2.frozenAt b
          have hst := (own2.stored b (.int .i64 (hs.getD b 0 + 1))).1
          rw [ints_set, HE.out.1] at hst
          have HE2 := Lib.hid HE.out.2
          have HQL := Lib.hid hql
          clear HE hql
          generalize hs.getD b 0 = x at *
          go_wp2_with fail
          go_roundw
          case rel => exact ⟨k + 1, by omega, by go_num, by rw [← HE2.out], hst, hb'.setCell (by simp) _⟩
          case measure => simp [intOf]; omega
    · have hks : k = s := by omega
      subst hks
      have ho : OwnInts wr w.heap.size (.slice (some ⟨w.heap.size, 0, none⟩) vs.length vs.length) (qSeats st vs k).1 := by unfold OwnInts OwnI; rw [qSeats_len]; exact hown
      go_wp2_with fail
      go_ret2
      exact ⟨_, rfl, ho, hb⟩

/-- What SeatsByHalves (st = 1) and SeatsByOdds (st = 2) return. -/
def seatsV (st : Int) (vs : List Int) (s : Int) : List Int × Bool := if seatsOk vs s then ((qSeats st vs s.toNat).1, true) else ([], false)
theorem seatsV_len (st : Int) (vs : List Int) (s : Int) (h : vs.length ≤ 1048576) : (seatsV st vs s).1.length ≤ 4000000 := by
  unfold seatsV; split
  · rw [qSeats_len]; omega
  · simp
/-- What LastSeat returns. -/
def lastV (vs : List Int) (s : Int) : Int × Bool := if seatsOk vs s && !(s == 0) then (((qSeats 1 vs s.toNat).2 : Nat), true) else (0, false)

end Go.Proofs.Ytokjamdikenkoaa
