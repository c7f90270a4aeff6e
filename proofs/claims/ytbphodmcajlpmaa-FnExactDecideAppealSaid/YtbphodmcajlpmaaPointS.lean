/- Contracts of the laws' helpers on slices of points: to, eq, sz, mark, held. No conditions beyond sizes. -/
import Derived.Test.YtbphodmcajlpmaaIntS
import Derived.Test.YtbphodmcajlpmaaSmall
import Derived.Test.YtbphodmcajlpmaaMem
namespace Go.Proofs.Ytbphodmcajlpmaa
open Go.RowKit
set_option linter.unusedVariables false
set_option linter.unusedSimpArgs false

structure DPoint where
  ra : Int
  st : Int
  tk : Bool
  ap : Int
  ye : Int
  no : Int
  ab : Int
deriving DecidableEq

abbrev vPoint (p : DPoint) : Value := .agg #[.int .i64 p.ra, .int .i64 p.st, .bool p.tk, .int .i64 p.ap, .int .i64 p.ye, .int .i64 p.no, .int .i64 p.ab]
def DPoint.cs (p : DPoint) : List Value := [.int .i64 p.ra, .int .i64 p.st, .bool p.tk, .int .i64 p.ap, .int .i64 p.ye, .int .i64 p.no, .int .i64 p.ab]
def pcs (xs : List DPoint) : List Value := xs.flatMap DPoint.cs
theorem pcs_length (xs : List DPoint) : (pcs xs).length = xs.length * 7 := by
  induction xs with
  | nil => rfl
  | cons a r ih => simp only [pcs, List.flatMap_cons, List.length_append] at *; rw [ih]; simp [DPoint.cs]; omega
theorem pcs_get (xs : List DPoint) (k j : Nat) (hk : k < xs.length) (hj : j < 7) : (pcs xs)[k * 7 + j]? = xs[k].cs[j]? := by
  induction xs generalizing k with
  | nil => simp at hk
  | cons a r ih =>
    have hl : a.cs.length = 7 := rfl
    simp only [pcs, List.flatMap_cons]
    cases k with
    | zero => rw [List.getElem?_append_left (by omega)]; simp
    | succ k =>
      rw [List.getElem?_append_right (by omega)]
      have e : (k + 1) * 7 + j - a.cs.length = k * 7 + j := by omega
      rw [e]
      simpa [pcs] using ih k (by simpa using hk)

def PointsAt (w : World) (v : Value) (xs : List DPoint) : Prop := RowAt w v xs.length 7 (pcs xs)
theorem PointsAt.below {w w' : World} {v : Value} {xs : List DPoint} (h : PointsAt w v xs) (hb : Below w.heap.size w w') : PointsAt w' v xs := RowAt.below h hb
theorem PointsAt.form {w : World} {v : Value} {xs : List DPoint} (h : PointsAt w v xs) : ∃ ao cap, v = .slice ao xs.length cap := RowAt.form h

/-- The cells of one point. -/
theorem CellsAt.point {w : World} {b off k : Nat} {xs : List DPoint} (h : CellsAt w b off (pcs xs)) (hk : k < xs.length) :
    w.cell? ⟨b, off + k * 7, none⟩ = some (.int .i64 xs[k].ra) ∧ w.cell? ⟨b, off + k * 7 + 1, none⟩ = some (.int .i64 xs[k].st) ∧ w.cell? ⟨b, off + k * 7 + 2, none⟩ = some (.bool xs[k].tk) ∧
    w.cell? ⟨b, off + k * 7 + 3, none⟩ = some (.int .i64 xs[k].ap) ∧ w.cell? ⟨b, off + k * 7 + 4, none⟩ = some (.int .i64 xs[k].ye) ∧ w.cell? ⟨b, off + k * 7 + 5, none⟩ = some (.int .i64 xs[k].no) ∧ w.cell? ⟨b, off + k * 7 + 6, none⟩ = some (.int .i64 xs[k].ab) := by
  have H : ∀ j, j < 7 → w.cell? ⟨b, off + k * 7 + j, none⟩ = xs[k].cs[j]? := by
    intro j hj
    have hl : k * 7 + j < (pcs xs).length := by rw [pcs_length]; omega
    rw [← pcs_get xs k j hk hj, List.getElem?_eq_getElem hl, ← h _ hl]
    congr 2; omega
  exact ⟨by simpa [DPoint.cs] using H 0 (by omega), by simpa [DPoint.cs] using H 1 (by omega), by simpa [DPoint.cs] using H 2 (by omega), by simpa [DPoint.cs] using H 3 (by omega), by simpa [DPoint.cs] using H 4 (by omega), by simpa [DPoint.cs] using H 5 (by omega), by simpa [DPoint.cs] using H 6 (by omega)⟩

theorem toPoint_c (p : DPoint) (w : World) :
    Calls Try.prog 53 #[vPoint p] w fun e w' => e = .returned (vPoint p) ∧ Below w.heap.size w w' := by
  obtain ⟨ra, st, tk, ap, ye, no, ab⟩ := p
  go_enter Try.func53, Try.ntmps53
  go_wp2
  go_returns
  exact ⟨rfl, by go_grown⟩

/-- Some cells in a row are written into an owned slice. -/
theorem own_setCellsN {e base size g cap N : Nat} (news : List Value) : ∀ (w : World) (i : Nat) (cs : List Value), w.ownsRow base e size (.slice (some ⟨g, 0, none⟩) N cap) N cs → i + news.length ≤ N * size →
    (w.setCells g i news).ownsRow base e size (.slice (some ⟨g, 0, none⟩) N cap) N (cs.take i ++ news ++ cs.drop (i + news.length)) ∧ w.grownBy (w.setCells g i news) (some g) := by
  induction news with
  | nil => intro w i cs h hi; exact ⟨by simpa [World.setCells] using h, World.grownBy.refl _ _⟩
  | cons v r ih =>
    intro w i cs h hi
    simp only [List.length_cons] at hi
    have h1 := h.stored i v
    have h2 := ih _ (i + 1) _ h1.1 (by omega)
    have hl : cs.length = N * size := h.1
    refine ⟨?_, h1.2.trans h2.2⟩
    have e1 : (cs.set i v).take (i + 1) ++ r ++ (cs.set i v).drop (i + 1 + r.length) = cs.take i ++ v :: r ++ cs.drop (i + (r.length + 1)) := by
      have hd : (cs.set i v).drop (i + 1 + r.length) = cs.drop (i + (r.length + 1)) := by
        rw [List.drop_set, if_pos (by omega)]
        congr 1; omega
      have ht : (cs.set i v).take (i + 1) = cs.take i ++ [v] := by
        rw [List.take_set, take_at (by omega : i < cs.length), set_mid _ _ _ [] _ (by simp; omega)]
      rw [hd, ht]
      simp
    have e2 : i + (v :: r).length = i + (r.length + 1) := by simp
    rw [e2, ← e1]
    exact h2.1

theorem pcs_take (xs : List DPoint) (k : Nat) (h : k < xs.length) : pcs (xs.take (k + 1)) = pcs (xs.take k) ++ xs[k].cs := by
  rw [take_at h]; unfold pcs; rw [List.flatMap_append]; simp

/-- One more point is written. -/
theorem own_point {e base g cap : Nat} {w : World} {xs : List DPoint} {rest : List Value} {k : Nat} (hk : k < xs.length) (h : w.ownsRow base e 7 (.slice (some ⟨g, 0, none⟩) xs.length cap) xs.length (pcs (xs.take k) ++ rest.drop (k * 7))) :
    (w.setCells g (k * 7) xs[k].cs).ownsRow base e 7 (.slice (some ⟨g, 0, none⟩) xs.length cap) xs.length (pcs (xs.take (k + 1)) ++ rest.drop ((k + 1) * 7)) ∧ w.grownBy (w.setCells g (k * 7) xs[k].cs) (some g) := by
  have hc : xs[k].cs.length = 7 := rfl
  have h1 := own_setCellsN xs[k].cs w (k * 7) _ h (by rw [hc]; omega)
  have hA : (pcs (xs.take k)).length = k * 7 := by rw [pcs_length, List.length_take]; omega
  refine ⟨?_, h1.2⟩
  have e1 : (pcs (xs.take k) ++ rest.drop (k * 7)).take (k * 7) ++ xs[k].cs ++ (pcs (xs.take k) ++ rest.drop (k * 7)).drop (k * 7 + xs[k].cs.length) = pcs (xs.take (k + 1)) ++ rest.drop ((k + 1) * 7) := by
    rw [pcs_take xs k hk, List.take_append_of_le_length (by omega), List.take_of_length_le (by omega), hc, List.drop_append, List.drop_of_length_le (by omega : (pcs (xs.take k)).length ≤ k * 7 + 7), hA, List.drop_drop]
    simp only [List.nil_append]
    congr 2
    omega
  rw [← e1]
  exact h1.1

theorem point_info : (Try.prog.info? 73).map (fun i => (i.zero, i.size, i.bytes)) = some (some (vPoint ⟨0, 0, false, 0, 0, 0, 0⟩), 7, 56) := by kernel_rfl
abbrev OwnPoints (w : World) (B : Nat) (v : Value) (xs : List DPoint) : Prop := w.ownsRow B 73 7 v xs.length (pcs xs)
theorem OwnPoints.at_ {w : World} {B : Nat} {v : Value} {xs : List DPoint} (h : OwnPoints w B v xs) : PointsAt w v xs := rowAt_of_own h

set_option maxHeartbeats 1000000 in
theorem toPointS_c (v : Value) (xs : List DPoint) (w : World) (h : PointsAt w v xs) (hn : xs.length ≤ 1048576) :
    Calls Try.prog 10 #[v] w fun e w' => ∃ u, e = .returned u ∧ OwnPoints w' w.heap.size u xs ∧ Below w.heap.size w w' := by
  obtain ⟨i0, hi, hz0, hz1, hz2⟩ := info_parts point_info
  obtain ⟨hlen, ao, cap, rfl, h1, h2, h3⟩ := h
  go_enter Try.func10, Try.ntmps10
  go_wp2_with (at_make; refine wpList_make_full _ rfl _ _ 26 rfl w.heap.size 73 i0 (vPoint ⟨0, 0, false, 0, 0, 0, 0⟩) 7 Try.underlying26 hi hz0 hz1 _ _ _ _ xs.length rfl rfl rfl rfl ?c1 ?c2 ?c3 ?_)
  case c1 => rw [hz2]; omega
  case c2 => omega
  case c3 => omega
  intro w1 hown hg
  have hb : Below w.heap.size w w1 := (Below.refl _ _).grown hg (Nat.le_refl _) (by simp)
  obtain ⟨rest, hrest⟩ : ∃ rest, w1.ownsRow w.heap.size 73 7 (.slice (some ⟨w.heap.size, 0, none⟩) xs.length xs.length) xs.length rest := ⟨_, hown⟩
  clear hown
  go_wp2_with fail
  go_loopw [4] (fun i wr => ∃ k : Nat, k ≤ xs.length ∧ i = .int .i64 k ∧ wr.ownsRow w.heap.size 73 7 (.slice (some ⟨w.heap.size, 0, none⟩) xs.length xs.length) xs.length (pcs (xs.take k) ++ rest.drop (k * 7)) ∧ Below w.heap.size w wr) (fun i _ => xs.length - (intOf i).toNat)
  case atStart => exact ⟨0, by omega, rfl, by simpa [pcs] using hrest, hb⟩
  case round =>
    obtain ⟨k, hk, rfl, hown, hb⟩ := hrel
    by_cases hlt : k < xs.length
    · obtain ⟨b, off, rfl, h4, h5⟩ := h3 (by omega)
      have hcc := (CellsAt.below h5 hb h4).point hlt
      have hput : ∀ w2 : World, w2.ownsRow w.heap.size 73 7 (.slice (some ⟨w.heap.size, 0, none⟩) xs.length xs.length) xs.length (pcs (xs.take k) ++ rest.drop (k * 7)) → (w2.setCells w.heap.size (k * 7) xs[k].cs).ownsRow w.heap.size 73 7 (.slice (some ⟨w.heap.size, 0, none⟩) xs.length xs.length) xs.length (pcs (xs.take (k + 1)) ++ rest.drop ((k + 1) * 7)) := fun w2 h => (own_point hlt h).1
      have HPUT := Lib.hid hput; clear hput
      generalize xs[k] = p at *
      obtain ⟨ra, st, tk, ap, ye, no, ab⟩ := p
      obtain ⟨c0, c1, c2, c3, c4, c5, c6⟩ := hcc
      go_wp2_with fail
      refine (toPoint_c ⟨ra, st, tk, ap, ye, no, ab⟩ _).mono ?_
      rintro e w2 ⟨rfl, hb2⟩
      have hown2 := own_below hown hb2
      have hb' := below_step hb hb2
      have hf : ∀ j, w2.frozen? ⟨w.heap.size, j, none⟩ = false := hown2.frozenAt
      have hex : ∀ j, j < 7 → ∃ y, w2.cell? ⟨w.heap.size, k * 7 + j, none⟩ = some y := fun j hj => by
        rw [hown2.cellAt (k * 7 + j) (by omega)]
        exact ⟨_, List.getElem?_eq_getElem (by rw [hown2.1]; omega)⟩
      obtain ⟨y0, e0⟩ := hex 0 (by omega)
      obtain ⟨y1, e1⟩ := hex 1 (by omega)
      obtain ⟨y2, e2⟩ := hex 2 (by omega)
      obtain ⟨y3, e3⟩ := hex 3 (by omega)
      obtain ⟨y4, e4⟩ := hex 4 (by omega)
      obtain ⟨y5, e5⟩ := hex 5 (by omega)
      obtain ⟨y6, e6⟩ := hex 6 (by omega)
      have hst := HPUT.out w2 hown2
      simp only [World.setCells, DPoint.cs, Nat.add_assoc, Nat.reduceAdd, Nat.add_zero] at hst e0
      clear c0 c1 c2 c3 c4 c5 c6 hex HPUT
      go_wp2_with fail
      go_roundw
      case rel => exact ⟨k + 1, by omega, by go_num, hst, by go_grown⟩
      case measure => simp [intOf]; omega
    · have hkn : k = xs.length := by omega
      have hown' : OwnPoints wr w.heap.size (.slice (some ⟨w.heap.size, 0, none⟩) xs.length xs.length) xs := by
        have hd : rest.drop (k * 7) = [] := List.drop_of_length_le (by rw [hrest.1]; omega)
        rw [hd, hkn, List.take_length, List.append_nil] at hown
        exact hown
      clear hkn
      go_wp2_with fail
      go_ret
      exact ⟨_, rfl, hown', hb⟩

set_option maxHeartbeats 1000000 in
theorem eqPoint_c (p q : DPoint) (w : World) :
    Calls Try.prog 58 #[vPoint p, vPoint q] w fun e w' => e = .returned (.bool (decide (p = q))) ∧ Below w.heap.size w w' := by
  obtain ⟨ra, st, tk, ap, ye, no, ab⟩ := p
  obtain ⟨ra', st', tk', ap', ye', no', ab'⟩ := q
  go_enter Try.func58, Try.ntmps58
  go_wp2
  all_goals go_ret
  all_goals refine ⟨ret_bool ?_, by go_grown⟩
  all_goals simp_all

theorem szPointS_e (v : Value) (xs : List DPoint) (left : Int) (w : World) (h : PointsAt w v xs) (hl : 0 ≤ left) (hl2 : left ≤ 1048576) :
    Calls Try.prog 8 #[v, .int .i64 left] w fun e w' => e = .returned (.int .i64 (szSub left xs.length)) ∧ Below w.heap.size w w' := by
  obtain ⟨_, ao, cap, rfl, h1, h2, h3⟩ := h
  unfold maxLen at h2
  go_enter Try.func8, Try.ntmps8
  go_wp2
  all_goals go_ret
  all_goals (refine ⟨ret_int ?_, Below.refl _ _⟩; first | rfl | (unfold szSub; rw [if_pos (by omega)]; done) | (unfold szSub; rw [if_neg (by omega)]; done))

theorem szPointS_c (v : Value) (xs : List DPoint) (left : Int) (w : World) (h : PointsAt w v xs) (hl : 0 ≤ left) (hl2 : left ≤ 1048576) :
    Calls Try.prog 8 #[v, .int .i64 left] w fun e w' => ∃ r : Int, e = .returned (.int .i64 r) ∧ (r < 0 ∨ (0 ≤ r ∧ r ≤ 1048576 ∧ xs.length ≤ 1048576)) ∧ Below w.heap.size w w' :=
  (szPointS_e v xs left w h hl hl2).mono fun e w' ⟨he, hb⟩ => ⟨_, he, by unfold szSub; split <;> omega, hb⟩

set_option maxHeartbeats 1000000 in
theorem eqPointS_c (v u : Value) (xs ys : List DPoint) (w : World) (h : PointsAt w v xs) (g : PointsAt w u ys) :
    Calls Try.prog 13 #[v, u] w fun e w' => e = .returned (.bool (decide (xs = ys))) ∧ Below w.heap.size w w' := by
  obtain ⟨_, ao, cap, rfl, h1, h2, h3⟩ := h
  obtain ⟨_, ao', cap', rfl, g1, g2, g3⟩ := g
  unfold maxLen at h2 g2
  by_cases hl : xs.length = ys.length
  · have hlb : (((xs.length : Nat) : Int) != ((ys.length : Nat) : Int)) = false := by simp [hl]
    have HL := Lib.hid hl; clear hl
    go_enter Try.func13, Try.ntmps13
    go_wp2_with fail
    go_loopw [5] (fun i wr => ∃ k : Nat, k ≤ xs.length ∧ i = .int .i64 k ∧ Hid (decide (xs = ys) = decide (xs.drop k = ys.drop k)) ∧ Below w.heap.size w wr) (fun i _ => xs.length - (intOf i).toNat)
    case atStart => exact ⟨0, by omega, rfl, by simp [Hid], Below.refl _ _⟩
    case round =>
      obtain ⟨k, hk, rfl, hd, hb⟩ := hrel
      by_cases hlt : k < xs.length
      · have hlt' : k < ys.length := by have := HL.out; omega
        obtain ⟨b, off, rfl, h4, h5⟩ := h3 (by omega)
        obtain ⟨b', off', rfl, g4, g5⟩ := g3 (by omega)
        have hcc := (CellsAt.below h5 hb h4).point hlt
        have hcd := (CellsAt.below g5 hb g4).point hlt'
        have hd' := hd.out
        rw [drop_at hlt, drop_at hlt'] at hd'
        simp only [List.cons.injEq] at hd'
        by_cases hxy : xs[k] = ys[k]
        · have HD : Hid (decide (xs = ys) = decide (xs.drop (k + 1) = ys.drop (k + 1))) := by simpa [Hid, hxy] using hd'
          have HX : Hid (decide (xs[k] = ys[k]) = true) := by simp [Hid, hxy]
          clear hd hd' hxy
          generalize xs[k] = p at *
          generalize ys[k] = q at *
          have HQ := eqPoint_c p q
          rw [HX.out] at HQ
          obtain ⟨ra, st, tk, ap, ye, no, ab⟩ := p
          obtain ⟨ra', st', tk', ap', ye', no', ab'⟩ := q
          obtain ⟨c0, c1, c2, c3, c4, c5, c6⟩ := hcc
          obtain ⟨d0, d1, d2, d3, d4, d5, d6⟩ := hcd
          have HQ' := Lib.hid HQ; clear HQ HX
          have hbw : b < wr.heap.size := by have := hb.size; omega
          have hbw' : b' < wr.heap.size := by have := hb.size; omega
          have r0 := below_cell hbw c0; have r1 := below_cell hbw c1; have r2 := below_cell hbw c2; have r3 := below_cell hbw c3; have r4 := below_cell hbw c4; have r5 := below_cell hbw c5; have r6 := below_cell hbw c6
          have s0 := below_cell hbw' d0; have s1 := below_cell hbw' d1; have s2 := below_cell hbw' d2; have s3 := below_cell hbw' d3; have s4 := below_cell hbw' d4; have s5 := below_cell hbw' d5; have s6 := below_cell hbw' d6
          go_wp2_with fail
          go_region_held3 (fun w' => Below wr.heap.size wr w') (first | assumption | (exact Below.drew (Below.refl _ _)))
            (first
              | (go_at_call 58; refine (HQ'.out _).mono ?_; rintro e w2 ⟨rfl, hb2⟩; have hbn := below_step (W := wr) (by assumption) hb2))
          go_wp2_with fail
          go_roundw
          case rel => exact ⟨k + 1, by omega, by go_num, HD, below_step hb hbn⟩
          case measure => simp [intOf]; omega
        · have HD : Hid (decide (xs = ys) = false) := by simpa [Hid, hxy] using hd'
          have HX : Hid (decide (xs[k] = ys[k]) = false) := by simp [Hid, hxy]
          clear hd hd' hxy
          generalize xs[k] = p at *
          generalize ys[k] = q at *
          have HQ := eqPoint_c p q
          rw [HX.out] at HQ
          obtain ⟨ra, st, tk, ap, ye, no, ab⟩ := p
          obtain ⟨ra', st', tk', ap', ye', no', ab'⟩ := q
          obtain ⟨c0, c1, c2, c3, c4, c5, c6⟩ := hcc
          obtain ⟨d0, d1, d2, d3, d4, d5, d6⟩ := hcd
          have HQ' := Lib.hid HQ; clear HQ HX
          have hbw : b < wr.heap.size := by have := hb.size; omega
          have hbw' : b' < wr.heap.size := by have := hb.size; omega
          have r0 := below_cell hbw c0; have r1 := below_cell hbw c1; have r2 := below_cell hbw c2; have r3 := below_cell hbw c3; have r4 := below_cell hbw c4; have r5 := below_cell hbw c5; have r6 := below_cell hbw c6
          have s0 := below_cell hbw' d0; have s1 := below_cell hbw' d1; have s2 := below_cell hbw' d2; have s3 := below_cell hbw' d3; have s4 := below_cell hbw' d4; have s5 := below_cell hbw' d5; have s6 := below_cell hbw' d6
          go_wp2_with fail
          go_region_held3 (fun w' => Below wr.heap.size wr w') (first | assumption | (exact Below.drew (Below.refl _ _)))
            (first
              | (go_at_call 58; refine (HQ'.out _).mono ?_; rintro e w2 ⟨rfl, hb2⟩; have hbn := below_step (W := wr) (by assumption) hb2))
          go_wp2_with fail
          go_ret
          exact ⟨ret_bool HD.out.symm, below_step hb hbn⟩
      · have HD : Hid (decide (xs = ys) = true) := by
          have hd' := hd.out
          rw [List.drop_of_length_le (by omega), List.drop_of_length_le (by have := HL.out; omega)] at hd'
          simpa [Hid] using hd'
        clear hd
        go_wp2_with fail
        go_ret
        exact ⟨ret_bool HD.out.symm, hb⟩
  · have hlb : (((xs.length : Nat) : Int) != ((ys.length : Nat) : Int)) = true := by simp; omega
    have HD : Hid (decide (xs = ys) = false) := by
      simp only [Hid, decide_eq_false_iff_not]; rintro rfl; exact hl rfl
    have HL := Lib.hid hl; clear hl
    go_enter Try.func13, Try.ntmps13
    go_wp2_with fail
    go_ret
    exact ⟨ret_bool HD.out.symm, Below.refl _ _⟩

end Go.Proofs.Ytbphodmcajlpmaa
