/- Contracts: DecideAppeal, the reference's and the program's. No conditions. -/
import Derived.Test.YtbphodmcajlpmaaPointN
import Derived.Test.YtbphodmcajlpmaaStep
namespace Go.Proofs.Ytbphodmcajlpmaa
open Go.RowKit
set_option linter.unusedVariables false
set_option linter.unusedSimpArgs false

def lastB (xs : List DPoint) (st : Int) : Bool := match xs.getLast? with | some p => p.st == st | none => false
theorem lastB_nil {xs : List DPoint} {st : Int} (h : xs.length = 0) : lastB xs st = false := by
  have := List.eq_nil_of_length_eq_zero h
  subst this; rfl
theorem last_at {xs : List DPoint} {k : Nat} (hk : k < xs.length) (h : k + 1 = xs.length) : xs.getLast? = some xs[k] := by
  rw [List.getLast?_eq_getElem?]
  have : xs.length - 1 = k := by omega
  rw [this, List.getElem?_eq_getElem hk]
theorem lastB_at {xs : List DPoint} {st : Int} {k : Nat} (hk : k < xs.length) (h : k + 1 = xs.length) : lastB xs st = (xs[k].st == st) := by
  simp [lastB, last_at hk h]
def decided (p : DPoint) (y n a : Int) : DPoint := ⟨p.ra, 4, p.tk, p.ap, y, n, a⟩
def decP (xs : List DPoint) (y n a : Int) : List DPoint × Bool :=
  if pointsOk xs && lastB xs 3 && tallyOk y n a then (match xs.getLast? with | some p => (xs.take (xs.length - 1) ++ [decided p y n a], true) | none => ([], false)) else ([], false)
theorem decP_at {xs : List DPoint} {y n a : Int} {k : Nat} (hk : k < xs.length) (h : k + 1 = xs.length) (h1 : pointsOk xs = true) (h2 : lastB xs 3 = true) (h3 : tallyOk y n a = true) : decP xs y n a = (xs.take k ++ [decided xs[k] y n a], true) := by
  have : xs.length - 1 = k := by omega
  simp [decP, h1, h2, h3, last_at hk h, this]
theorem decP_len (xs : List DPoint) (y n a : Int) : (decP xs y n a).1.length ≤ 4000000 := by
  unfold decP
  split
  · rename_i h
    simp only [Bool.and_eq_true] at h
    have := pointsOk_len h.1.1
    split <;> simp <;> omega
  · simp

theorem pcs_snoc (xs : List DPoint) (k : Nat) (p : DPoint) (hk : k ≤ xs.length) : (xs.take k ++ [p]).length = k + 1 ∧ pcs (xs.take k ++ [p]) = (pcs xs).take (k * 7) ++ p.cs := by
  refine ⟨by simp; omega, ?_⟩
  have h1 : pcs xs = pcs (xs.take k) ++ pcs (xs.drop k) := by
    unfold pcs
    rw [← List.flatMap_append, List.take_append_drop]
  have h2 : (pcs (xs.take k)).length = k * 7 := by rw [pcs_length]; simp; omega
  have h3 : (pcs xs).take (k * 7) = pcs (xs.take k) := by rw [h1]; exact List.take_left' h2
  rw [h3]
  simp [pcs]

theorem decided_cells (xs : List DPoint) (k : Nat) (y n a : Int) (hk : k < xs.length) (h : k + 1 = xs.length) : (xs.take k ++ [decided xs[k] y n a]).length = xs.length ∧
    ((((pcs xs).set (k * 7 + 1) (.int .i64 4)).set (k * 7 + 4) (.int .i64 y)).set (k * 7 + 5) (.int .i64 n)).set (k * 7 + 6) (.int .i64 a) = pcs (xs.take k ++ [decided xs[k] y n a]) := by
  refine ⟨by simp; omega, ?_⟩
  have hl : (pcs (xs.take k)).length = k * 7 := by rw [pcs_length]; simp; omega
  have h1 : pcs xs = pcs (xs.take k) ++ xs[k].cs := by
    rw [← pcs_take xs k hk, List.take_of_length_le (by omega)]
  have h2 : pcs (xs.take k ++ [decided xs[k] y n a]) = pcs (xs.take k) ++ (decided xs[k] y n a).cs := by simp [pcs]
  have hs : ∀ (j : Nat) (l : List Value) (v : Value), (pcs (xs.take k) ++ l).set (k * 7 + j) v = pcs (xs.take k) ++ l.set j v := fun j l v => by
    rw [List.set_append_right _ _ (by omega)]
    congr 2; omega
  rw [h1, h2, hs, hs, hs, hs]
  rfl

set_option maxHeartbeats 1000000 in
theorem s_l17State (v : Value) (xs : List DPoint) (st : Int) (w : World) (h : PointsAt w v xs) :
    Calls Try.prog 50 #[v, .int .i64 st] w fun e w' => e = .returned (.bool (pointsOk xs && lastB xs st)) ∧ Below w.heap.size w w' := by
  have HQ := s_l17Good v xs _ h
  obtain ⟨_, ao, cap, rfl, h1, h2, h3⟩ := h
  unfold maxLen at h2
  cases hok : pointsOk xs with
  | false =>
    rw [hok] at HQ
    have HQ' := Lib.hid HQ; clear HQ hok
    go_enter Try.func50, Try.ntmps50
    go_wp2_with (go_at_call 94; refine HQ'.out.mono ?_; rintro e w1 ⟨rfl, hb1⟩)
    go_ret
    exact ⟨rfl, hb1⟩
  | true =>
    rw [hok] at HQ
    have HQ' := Lib.hid HQ; clear HQ hok
    by_cases hz : xs.length = 0
    · have hl := Lib.hid (lastB_nil (st := st) hz)
      have hz0 : ¬ (0 : Int) < (xs.length : Nat) := by omega
      rw [hl.out]
      clear hz
      go_enter Try.func50, Try.ntmps50
      go_wp2_with (go_at_call 94; refine HQ'.out.mono ?_; rintro e w1 ⟨rfl, hb1⟩)
      go_ret
      exact ⟨rfl, hb1⟩
    · obtain ⟨k, hk⟩ : ∃ k, k + 1 = xs.length := ⟨xs.length - 1, by omega⟩
      have hkl : k < xs.length := by omega
      have hc := lastB_at (st := st) hkl hk
      have hz0 : (0 : Int) < (xs.length : Nat) := by omega
      have hkz : ((xs.length : Nat) : Int) - 1 = (k : Int) := by omega
      obtain ⟨b, off, rfl, h4, h5⟩ := h3 (by omega)
      obtain ⟨_, c1, _⟩ := h5.point hkl
      rw [hc]
      have HK := Lib.hid hk
      generalize xs[k].st = x at *
      clear hc hk hz h3 h5
      go_enter Try.func50, Try.ntmps50
      go_wp2_with (go_at_call 94; refine HQ'.out.mono ?_; rintro e w1 ⟨rfl, hb1⟩; have d1 := below_cell h4 c1 _ hb1)
      all_goals go_ret
      all_goals exact ⟨rfl, hb1⟩

set_option maxHeartbeats 1000000 in
theorem i_lastIn (v : Value) (xs : List DPoint) (st : Int) (w : World) (h : PointsAt w v xs) :
    Calls Try.prog 54 #[v, .int .i64 st] w fun e w' => e = .returned (.bool (pointsOk xs && lastB xs st)) ∧ Below w.heap.size w w' := by
  have HQ := i_ArePoints v xs _ h
  obtain ⟨_, ao, cap, rfl, h1, h2, h3⟩ := h
  unfold maxLen at h2
  cases hok : pointsOk xs with
  | false =>
    rw [hok] at HQ
    have HQ' := Lib.hid HQ; clear HQ hok
    go_enter Try.func54, Try.ntmps54
    go_wp2_with (go_at_call 96; refine HQ'.out.mono ?_; rintro e w1 ⟨rfl, hb1⟩)
    go_ret
    exact ⟨rfl, hb1⟩
  | true =>
    rw [hok] at HQ
    have HQ' := Lib.hid HQ; clear HQ hok
    by_cases hz : xs.length = 0
    · have hl := Lib.hid (lastB_nil (st := st) hz)
      have hz0 : ¬ (0 : Int) < (xs.length : Nat) := by omega
      rw [hl.out]
      clear hz
      go_enter Try.func54, Try.ntmps54
      go_wp2_with (go_at_call 96; refine HQ'.out.mono ?_; rintro e w1 ⟨rfl, hb1⟩)
      go_ret
      exact ⟨rfl, hb1⟩
    · obtain ⟨k, hk⟩ : ∃ k, k + 1 = xs.length := ⟨xs.length - 1, by omega⟩
      have hkl : k < xs.length := by omega
      have hc := lastB_at (st := st) hkl hk
      have hz0 : (0 : Int) < (xs.length : Nat) := by omega
      have hkz : ((xs.length : Nat) : Int) - 1 = (k : Int) := by omega
      obtain ⟨b, off, rfl, h4, h5⟩ := h3 (by omega)
      obtain ⟨_, c1, _⟩ := h5.point hkl
      rw [hc]
      have HK := Lib.hid hk
      generalize xs[k].st = x at *
      clear hc hk hz h3 h5
      go_enter Try.func54, Try.ntmps54
      go_wp2_with (go_at_call 96; refine HQ'.out.mono ?_; rintro e w1 ⟨rfl, hb1⟩; have d1 := below_cell h4 c1 _ hb1)
      all_goals go_ret
      all_goals exact ⟨rfl, hb1⟩

set_option maxHeartbeats 1000000 in
theorem i_dec1 (g k B cap n base : Nat) (cs : List Value) (y no ab : Int) (w : World) (hown : w.ownsRow base 73 7 (.slice (some ⟨g, 0, none⟩) n cap) n cs) (hk : k < n) (hB : BoxAt w B #[.int .i64 y, .int .i64 no, .int .i64 ab]) (hBg : B ≠ g) :
    Calls Try.prog 57 #[.pointer (some ⟨g, k * 7, none⟩), .pointer (some ⟨B, 0, none⟩)] w fun e w' => e = .returned (.tuple #[]) ∧ w'.ownsRow base 73 7 (.slice (some ⟨g, 0, none⟩) n cap) n ((((cs.set (k * 7 + 1) (.int .i64 4)).set (k * 7 + 4) (.int .i64 y)).set (k * 7 + 5) (.int .i64 no)).set (k * 7 + 6) (.int .i64 ab)) ∧ w.grownBy w' (some g) := by
  have hf : ∀ j, w.frozen? ⟨g, j, none⟩ = false := hown.frozenAt
  have hex : ∀ i, i < 7 → ∃ y, w.cell? ⟨g, k * 7 + i, none⟩ = some y := fun i hi => by
    rw [hown.cellAt (k * 7 + i) (by omega)]
    exact ⟨_, List.getElem?_eq_getElem (by rw [hown.1]; omega)⟩
  obtain ⟨y1, e1⟩ := hex 1 (by omega)
  obtain ⟨y4, e4⟩ := hex 4 (by omega)
  obtain ⟨y5, e5⟩ := hex 5 (by omega)
  obtain ⟨y6, e6⟩ := hex 6 (by omega)
  have b0 : w.cell? ⟨B, 0, none⟩ = some (.int .i64 y) := by simpa using hB.cells 0
  have b1 : w.cell? ⟨B, 1, none⟩ = some (.int .i64 no) := by simpa using hB.cells 1
  have b2 : w.cell? ⟨B, 2, none⟩ = some (.int .i64 ab) := by simpa using hB.cells 2
  have HO := Lib.hid hown
  clear hex
  go_enter Try.func57, Try.ntmps57
  go_wp2
  go_region
  all_goals go_end0
  have h1 := HO.out.stored (k * 7 + 1) (.int .i64 4)
  have h2 := h1.1.stored (k * 7 + 4) (.int .i64 y)
  have h3 := h2.1.stored (k * 7 + 5) (.int .i64 no)
  have h4 := h3.1.stored (k * 7 + 6) (.int .i64 ab)
  have hg := ((h1.2.trans h2.2).trans h3.2).trans h4.2
  exact ⟨rfl, h4.1.drew, ⟨hg.os, hg.tape, hg.output, hg.size, hg.block⟩⟩

set_option maxHeartbeats 1000000 in
theorem s_l17Last (v : Value) (xs : List DPoint) (k : Nat) (p : DPoint) (w : World) (h : PointsAt w v xs) (hk : k + 1 = xs.length) (h6 : xs.length ≤ 6) :
    Calls Try.prog 52 #[v, vPoint p] w fun e w' => ∃ u, e = .returned u ∧ OwnPoints w' w.heap.size u (xs.take k ++ [p]) ∧ Below w.heap.size w w' := by
  obtain ⟨ao, cap, rfl⟩ := h.form
  obtain ⟨ra, st, tk, ap, ye, no, ab⟩ := p
  obtain ⟨W, hW⟩ : ∃ W, W = w.alloc (.cells #[.int .i64 ra, .int .i64 st, .bool tk, .int .i64 ap, .int .i64 ye, .int .i64 no, .int .i64 ab] 73) := ⟨_, rfl⟩
  have bP : BoxAt W w.heap.size #[.int .i64 ra, .int .i64 st, .bool tk, .int .i64 ap, .int .i64 ye, .int .i64 no, .int .i64 ab] := by rw [hW]; exact BoxAt.new _ _ _
  have hWb : Below w.heap.size w W := by rw [hW]; exact (Below.refl _ _).alloc (Nat.le_refl _) _
  have hI : PointsAt W (.slice ao xs.length cap) xs := h.below hWb
  have hcap : (k : Int) ≤ (cap : Int) := by
    obtain ⟨_, _, _, hv, g1, _⟩ := h
    cases hv; omega
  have HW := Lib.hid hW; clear hW
  have hkz : ((xs.length : Nat) : Int) - 1 = (k : Int) := by omega
  have hk0 : (0 : Int) ≤ (k : Int) := by omega
  have hkw : IntKind.i64.wrap (k : Int) = (k : Int) := IntWalk.i64_in _ (by omega)
  have HK := Lib.hid hk; clear hk
  have rP := bP.rule
  have HI := Lib.hid hI; clear hI h
  go_enter Try.func52, Try.ntmps52
  go_wp2
  rw [← HW.out]
  have HP1 := fun u hu => pcs_one xs u (List.mem_of_mem_take (i := k * 7) hu)
  have HR1 : ∀ u ∈ (#[.int .i64 ra, .int .i64 st, .bool tk, .int .i64 ap, .int .i64 ye, .int .i64 no, .int .i64 ab] : Array Value).toList, u.oneCell' = true := by simp [Value.oneCell']
  go_region_held3 (fun w' => Below W.heap.size W w') (first | assumption | exact Below.alloc (by assumption) (Below.size (by assumption)) _ | exact Below.drew (Below.alloc (by assumption) (Below.size (by assumption)) _) | go_grown) (first
    | ((refine step_append_row (by rfl) (.tmp 5) (.tmp 10) _ (by rfl) W.heap.size 73 _ 7 56 point_info Try.underlying26 (by rfl) (by omega) (by omega) (.slice (some ⟨W.heap.size, 0, none⟩) 0 0) 0 [] (by rfl) ((own_emptyA W 73 7).drew) _ k ((pcs xs).take (k * 7)) (by rfl) (RowAt.head (RowAt.below HI.out (by assumption)) (by have := HK.out; omega)) HP1 (by omega) (by omega) (Below.size (by assumption)) ?_); (intro v1 w1 o1 g1 a1); (have hb1 : Below W.heap.size W w1 := Below.grown (by assumption) g1 (Below.size (by assumption)) (own_ge (by omega) 0 0)); (simp only [Nat.zero_add, List.nil_append] at o1))
    | ((refine step_append_row (by rfl) (.tmp 5) (.tmp 10) _ (by rfl) W.heap.size 73 _ 7 56 point_info Try.underlying26 (by rfl) (by omega) (by omega) (.slice (some ⟨W.heap.size, 0, none⟩) 0 0) 0 [] (by rfl) ((own_emptyB W 73 7 _).drew) _ k ((pcs xs).take (k * 7)) (by rfl) (RowAt.head (RowAt.below HI.out (by assumption)) (by have := HK.out; omega)) HP1 (by omega) (by omega) (Below.size (by assumption)) ?_); (intro v1 w1 o1 g1 a1); (have hb1 : Below W.heap.size W w1 := Below.grown (by assumption) g1 (Below.size (by assumption)) (own_ge (by omega) 0 0)); (simp only [Nat.zero_add, List.nil_append] at o1); (have hr1 := RowAt.grown (RowAt.drew (row_oneA W 73 7 #[.int .i64 ra, .int .i64 st, .bool tk, .int .i64 ap, .int .i64 ye, .int .i64 no, .int .i64 ab] (.cells #[] 73) rfl)) g1 (some_ne_own (by omega) 0 0)))
    | ((refine step_append_row (by rfl) (.tmp 5) (.tmp 10) _ (by rfl) W.heap.size 73 _ 7 56 point_info Try.underlying26 (by rfl) (by omega) (by omega) (.slice (some ⟨W.heap.size + 1, 0, none⟩) 0 0) 0 [] (by rfl) ((own_emptyC W 73 7 _).drew) _ k ((pcs xs).take (k * 7)) (by rfl) (RowAt.head (RowAt.below HI.out (by assumption)) (by have := HK.out; omega)) HP1 (by omega) (by omega) (Below.size (by assumption)) ?_); (intro v1 w1 o1 g1 a1); (have hb1 : Below W.heap.size W w1 := Below.grown (by assumption) g1 (Below.size (by assumption)) (own_ge (by omega) 0 0)); (simp only [Nat.zero_add, List.nil_append] at o1); (have hr1 := RowAt.grown (RowAt.drew (row_oneB W 73 7 #[.int .i64 ra, .int .i64 st, .bool tk, .int .i64 ap, .int .i64 ye, .int .i64 no, .int .i64 ab] (.cells #[] 73) rfl)) g1 (some_ne_own (by omega) 0 0)))
    | ((refine step_append_row (by rfl) (.tmp 11) (.tmp 13) _ (by rfl) W.heap.size 73 _ 7 56 point_info Try.underlying26 (by rfl) (by omega) (by omega) v1 k ((pcs xs).take (k * 7)) (by rfl) (o1) _ 1 #[.int .i64 ra, .int .i64 st, .bool tk, .int .i64 ap, .int .i64 ye, .int .i64 no, .int .i64 ab].toList (by rfl) (hr1) HR1 (by omega) (by omega) (Below.size (by assumption)) ?_); (intro v2 w2 o2 g2 a2); (have hb2 : Below W.heap.size W w2 := Below.grown (by assumption) g2 (Below.size (by assumption)) (fun b hb => (o1.lt b hb).1)))
    | ((refine step_append_row (by rfl) (.tmp 11) (.tmp 13) _ (by rfl) W.heap.size 73 _ 7 56 point_info Try.underlying26 (by rfl) (by omega) (by omega) v1 k ((pcs xs).take (k * 7)) (by rfl) (own_below o1 ((Below.refl _ _).alloc (Nat.le_refl _) _)) _ 1 #[.int .i64 ra, .int .i64 st, .bool tk, .int .i64 ap, .int .i64 ye, .int .i64 no, .int .i64 ab].toList (by rfl) (row_oneN w1 73 7 #[.int .i64 ra, .int .i64 st, .bool tk, .int .i64 ap, .int .i64 ye, .int .i64 no, .int .i64 ab] rfl) HR1 (by omega) (by omega) (Below.size (by assumption)) ?_); (intro v2 w2 o2 g2 a2); (have hb2 : Below W.heap.size W w2 := Below.grown (by assumption) g2 (Below.size (by assumption)) (fun b hb => (o1.lt b hb).1))))
  all_goals go_wp2
  all_goals go_ret
  all_goals (refine ⟨v2, rfl, ?_, hWb.trans (hb2.mono hWb.size)⟩)
  all_goals (have he := pcs_snoc xs k ⟨ra, st, tk, ap, ye, no, ab⟩ (by have := HK.out; omega))
  all_goals (unfold OwnPoints; rw [he.1, he.2]; exact own_base o2 hWb.size)

set_option maxHeartbeats 1000000 in
theorem s_DecideAppeal (v : Value) (xs : List DPoint) (y n a : Int) (w : World) (h : PointsAt w v xs) :
    Calls Try.prog 9 #[v, vTally y n a] w fun e w' => ∃ u, e = .returned (.tuple #[u, .bool (decP xs y n a).2]) ∧ OwnPoints w' w.heap.size u (decP xs y n a).1 ∧ Below w.heap.size w w' := by
  obtain ⟨W, hW⟩ : ∃ W, W = w.alloc (.cells #[.int .i64 y, .int .i64 n, .int .i64 a] 30) := ⟨_, rfl⟩
  have bT : BoxAt W w.heap.size #[.int .i64 y, .int .i64 n, .int .i64 a] := by rw [hW]; exact BoxAt.new _ _ _
  have hWb : Below w.heap.size w W := by rw [hW]; exact (Below.refl _ _).alloc (Nat.le_refl _) _
  have hI := h.below hWb
  have HQ := s_l17State v xs 3 _ hI
  have HW := Lib.hid hW; clear hW
  obtain ⟨ao, cap, rfl⟩ := h.form
  have fin0 : ∀ w1, Below W.heap.size W w1 → OwnPoints (w1.alloc (.cells #[] 73)) w.heap.size (.slice (some ⟨w1.heap.size, 0, none⟩) 0 0) [] ∧ Below w.heap.size w (w1.alloc (.cells #[] 73)) := fun w1 hb => ⟨own_base (own_empty w1 _ 7) (Nat.le_trans hWb.size hb.size), (hWb.trans (hb.mono hWb.size)).alloc (Nat.le_trans hWb.size hb.size) _⟩
  cases hok : pointsOk xs && lastB xs 3 with
  | false =>
    have HR : decP xs y n a = ([], false) := by simp only [decP, hok]; simp
    rw [hok] at HQ
    rw [HR]
    have HQ' := Lib.hid HQ; clear HQ hok HR
    go_enter Try.func9, Try.ntmps9
    go_wp2_with fail
    rw [← HW.out]
    refine HQ'.out.mono ?_
    rintro e w1 ⟨rfl, hb1⟩
    go_wp2_with fail
    go_ret2
    exact ⟨_, rfl, fin0 _ hb1⟩
  | true =>
    rw [hok] at HQ
    have HQ' := Lib.hid HQ; clear HQ
    simp only [Bool.and_eq_true] at hok
    obtain ⟨hok1, hok2⟩ := hok
    have hL := pointsOk_len hok1
    have r0 := bT.cells
    cases ht : tallyOk y n a with
    | false =>
      have HR : decP xs y n a = ([], false) := by simp [decP, ht]
      rw [HR]
      have HT := Lib.hid ht; clear ht HR hok1 hok2
      go_enter Try.func9, Try.ntmps9
      go_wp2_with fail
      rw [← HW.out]
      refine HQ'.out.mono ?_
      rintro e w1 ⟨rfl, hb1⟩
      have r1 := (bT.below hb1).cells
      clear r0
      go_wp2_with (go_at_call 51; refine (s_l11Good _ _ _ _).mono ?_; rw [HT.out]; rintro e w2 ⟨rfl, hb2⟩)
      go_ret2
      exact ⟨_, rfl, fin0 _ (below_step hb1 hb2)⟩
    | true =>
      have hz : xs.length ≠ 0 := fun hz => by rw [lastB_nil hz] at hok2; cases hok2
      obtain ⟨k, hk⟩ : ∃ k, k + 1 = xs.length := ⟨xs.length - 1, by omega⟩
      have hkl : k < xs.length := by omega
      have HR := decP_at (y := y) (n := n) (a := a) hkl hk hok1 hok2 ht
      rw [HR]
      have hz0 : (0 : Int) < (xs.length : Nat) := by omega
      have hkz : ((xs.length : Nat) : Int) - 1 = (k : Int) := by omega
      have hI' := hI
      obtain ⟨_, _, _, hv, h1, h2, h3⟩ := hI'
      cases hv
      unfold maxLen at h2
      obtain ⟨b, off, rfl, h4, h5⟩ := h3 (by omega)
      have hcc := h5.point hkl
      have HT := Lib.hid ht; have HK := Lib.hid hk; have HI := Lib.hid hI
      clear ht hk hI HR hok1 hok2 h3 h5 hz h
      generalize xs[k] = p at *
      obtain ⟨ra, st, tk, ap, ye, no, ab⟩ := p
      obtain ⟨c0, c1, c2, c3, c4, c5, c6⟩ := hcc
      go_enter Try.func9, Try.ntmps9
      go_wp2_with fail
      rw [← HW.out]
      refine HQ'.out.mono ?_
      rintro e w1 ⟨rfl, hb1⟩
      have r1 := (bT.below hb1).cells
      clear r0
      go_wp2_with (go_at_call 51; refine (s_l11Good _ _ _ _).mono ?_; rw [HT.out]; rintro e w2 ⟨rfl, hb2⟩; have hb12 := below_step hb1 hb2; have r2 := (bT.below hb12).cells; have z2 : w.heap.size < w2.heap.size := (bT.below hb12).1; have d0 := below_cell h4 c0 _ hb12; have d1 := below_cell h4 c1 _ hb12; have d2 := below_cell h4 c2 _ hb12; have d3 := below_cell h4 c3 _ hb12; have d4 := below_cell h4 c4 _ hb12; have d5 := below_cell h4 c5 _ hb12; have d6 := below_cell h4 c6 _ hb12; clear r1)
      refine (s_l17Last _ xs k ⟨ra, 4, tk, ap, y, n, a⟩ _ ((HI.out.below hb12).alloc _) HK.out hL).mono ?_
      rintro e w3 ⟨u, rfl, ho3, hb3⟩
      obtain ⟨a3, k3, hu⟩ := ho3.at_.form
      rw [(pcs_snoc xs k ⟨ra, 4, tk, ap, y, n, a⟩ (by omega)).1] at hu
      subst hu
      go_wp2_with fail
      go_ret2
      exact ⟨_, rfl, own_base ho3 (by have := hWb.size; have := hb12.size; simp; omega), hWb.trans ((below_step hb12 (below_al hb3 (by simp))).mono hWb.size)⟩

set_option maxHeartbeats 1000000 in
theorem i_withLast4 (v : Value) (xs : List DPoint) (k B : Nat) (y n a : Int) (w : World) (h : PointsAt w v xs) (hk : k + 1 = xs.length) (h6 : xs.length ≤ 6) (hB : BoxAt w B #[.int .i64 y, .int .i64 n, .int .i64 a]) (q : DPoint) (hq : ∀ hkl : k < xs.length, decided xs[k] y n a = q) :
    Calls Try.prog 56 #[v, .func (.func 57) #[] #[.pointer (some ⟨B, 0, none⟩)]] w fun e w' => ∃ u, e = .returned u ∧ OwnPoints w' w.heap.size u (xs.take k ++ [q]) ∧ Below w.heap.size w w' := by
  have hI := h
  have hkl : k < xs.length := by omega
  obtain ⟨ao, cap, rfl⟩ := h.form
  have hkz : ((xs.length : Nat) : Int) - 1 = (k : Int) := by omega
  have hk0 : (0 : Int) ≤ (k : Int) := by omega
  have hkn : (k : Int) < (xs.length : Int) := by omega
  have hcf := (enters_of Try.func57 (by kernel_rfl) (by kernel_rfl) : Enters Try.prog 57).out
  have hdc := decided_cells xs k y n a hkl hk
  rw [hq hkl] at hdc
  have HP := Lib.hid hdc; clear hdc hq
  have HK := Lib.hid hk; clear hk
  go_enter Try.func56, Try.ntmps56
  go_wp2_with (at_builtin; refine wpList_copy_flat rfl (.tmp 6) (.tmp 7) _ rfl 73 _ 7 56 point_info Try.underlying26 rfl (by omega) (by omega) _ xs.length (pcs xs) rfl rfl hI (pcs_one xs) (by omega) ?_; intro u2 w2 ho2 hb2; obtain ⟨g, c2, rfl, hg0, hg1⟩ := World.ownsRow.form ho2 (by omega))
  refine (i_dec1 g k B c2 xs.length w.heap.size (pcs xs) y n a _ ho2 hkl (hB.below hb2) (by have := hB.1; omega)).mono ?_
  rintro e w3 ⟨rfl, ho3, hg3⟩
  rw [HP.out.2] at ho3
  go_wp2_with fail
  go_ret
  refine ⟨_, rfl, ?_, hb2.trans (Below.grown (Below.refl _ _) hg3 hb2.size (by intro b hb; cases hb; exact hg0))⟩
  unfold OwnPoints
  rw [HP.out.1]
  exact ho3

set_option maxHeartbeats 1000000 in
theorem i_DecideAppeal (v : Value) (xs : List DPoint) (y n a : Int) (w : World) (h : PointsAt w v xs) :
    Calls Try.prog 12 #[v, vTally y n a] w fun e w' => ∃ u, e = .returned (.tuple #[u, .bool (decP xs y n a).2]) ∧ OwnPoints w' w.heap.size u (decP xs y n a).1 ∧ Below w.heap.size w w' := by
  obtain ⟨W, hW⟩ : ∃ W, W = w.alloc (.cells #[.int .i64 y, .int .i64 n, .int .i64 a] 30) := ⟨_, rfl⟩
  have bT : BoxAt W w.heap.size #[.int .i64 y, .int .i64 n, .int .i64 a] := by rw [hW]; exact BoxAt.new _ _ _
  have hWb : Below w.heap.size w W := by rw [hW]; exact (Below.refl _ _).alloc (Nat.le_refl _) _
  have hI := h.below hWb
  have HQ := i_lastIn v xs 3 _ hI
  have HW := Lib.hid hW; clear hW
  obtain ⟨ao, cap, rfl⟩ := h.form
  have fin0 : ∀ w1, Below W.heap.size W w1 → OwnPoints w1 w.heap.size (.slice none 0 0) [] ∧ Below w.heap.size w w1 := fun w1 hb => ⟨World.ownsRow_nil _ _ 73 7, hWb.trans (hb.mono hWb.size)⟩
  cases hok : pointsOk xs && lastB xs 3 with
  | false =>
    have HR : decP xs y n a = ([], false) := by simp only [decP, hok]; simp
    rw [hok] at HQ
    rw [HR]
    have HQ' := Lib.hid HQ; clear HQ hok HR
    go_enter Try.func12, Try.ntmps12
    go_wp2_with fail
    rw [← HW.out]
    refine HQ'.out.mono ?_
    rintro e w1 ⟨rfl, hb1⟩
    go_wp2_with fail
    go_ret2
    exact ⟨_, rfl, fin0 _ hb1⟩
  | true =>
    rw [hok] at HQ
    have HQ' := Lib.hid HQ; clear HQ
    simp only [Bool.and_eq_true] at hok
    obtain ⟨hok1, hok2⟩ := hok
    have hL := pointsOk_len hok1
    have r0 := bT.cells
    cases ht : tallyOk y n a with
    | false =>
      have HR : decP xs y n a = ([], false) := by simp [decP, ht]
      rw [HR]
      have HT := Lib.hid ht; clear ht HR hok1 hok2
      go_enter Try.func12, Try.ntmps12
      go_wp2_with fail
      rw [← HW.out]
      refine HQ'.out.mono ?_
      rintro e w1 ⟨rfl, hb1⟩
      have r1 := (bT.below hb1).cells
      clear r0
      go_wp2_with (go_at_call 55; refine (i_IsValidTally _ _ _ _).mono ?_; rw [HT.out]; rintro e w2 ⟨rfl, hb2⟩)
      go_ret2
      exact ⟨_, rfl, fin0 _ (below_step hb1 hb2)⟩
    | true =>
      have hz : xs.length ≠ 0 := fun hz => by rw [lastB_nil hz] at hok2; cases hok2
      obtain ⟨k, hk⟩ : ∃ k, k + 1 = xs.length := ⟨xs.length - 1, by omega⟩
      have hkl : k < xs.length := by omega
      have HR := decP_at (y := y) (n := n) (a := a) hkl hk hok1 hok2 ht
      rw [HR]
      have HT := Lib.hid ht; have HK := Lib.hid hk; have HI := Lib.hid hI
      obtain ⟨q, hq⟩ : ∃ q, decided xs[k] y n a = q := ⟨_, rfl⟩
      have HC := Lib.hid (fun w' (hb : Below W.heap.size W w') => i_withLast4 _ xs k w.heap.size y n a w' (hI.below hb) hk hL (bT.below hb) q (fun _ => hq))
      have HS := Lib.hid (pcs_snoc xs k q (by omega)).1
      rw [hq]
      clear ht hI HR hok1 hok2 hz h hq
      clear hk hkl
      go_enter Try.func12, Try.ntmps12
      go_wp2_with fail
      rw [← HW.out]
      refine HQ'.out.mono ?_
      rintro e w1 ⟨rfl, hb1⟩
      have r1 := (bT.below hb1).cells
      clear r0
      go_wp2_with (go_at_call 55; refine (i_IsValidTally _ _ _ _).mono ?_; rw [HT.out]; rintro e w2 ⟨rfl, hb2⟩; have hb12 := below_step hb1 hb2; have r2 := (bT.below hb12).cells; clear r1)
      refine (HC.out _ hb12).mono ?_
      rintro e w3 ⟨u, rfl, ho3, hb3⟩
      obtain ⟨a3, k3, hu⟩ := ho3.at_.form
      rw [HS.out] at hu
      subst hu
      go_wp2_with fail
      go_ret2
      exact ⟨_, rfl, own_base ho3 (by have := hWb.size; have := hb12.size; omega), hWb.trans ((below_step hb12 hb3).mono hWb.size)⟩

end Go.Proofs.Ytbphodmcajlpmaa
