/- Contracts: RaisePoint, ReversedPoints, the reference's and the program's. No conditions. -/
import Derived.Test.YtgdagejchgkopaaPointQ
import Derived.Test.YtgdagejchgkopaaPointR
import Derived.Test.YtgdagejchgkopaaInts2
import Derived.Test.YtgdagejchgkopaaPush
namespace Go.Proofs.Ytgdagejchgkopaa
open Go.RowKit
set_option linter.unusedVariables false
set_option linter.unusedSimpArgs false

theorem pcs_one (xs : List DPoint) : ∀ u ∈ pcs xs, u.oneCell' = true := by
  intro u hu
  simp only [pcs, List.mem_flatMap] at hu
  obtain ⟨p, _, hp⟩ := hu
  simp only [DPoint.cs, List.mem_cons, List.not_mem_nil, or_false] at hp
  rcases hp with rfl | rfl | rfl | rfl | rfl | rfl | rfl <;> rfl
theorem pointsOk_len {xs : List DPoint} (h : pointsOk xs = true) : xs.length ≤ 6 := by
  simp only [pointsOk, Bool.and_eq_true, decide_eq_true_eq] at h; exact h.1

/-- The places of the reversed points among the first k. -/
def revL (xs : List DPoint) : Nat → List Int
  | 0 => []
  | k + 1 => revL xs k ++ (match xs[k]? with | some p => if revd p then [(k : Int)] else [] | none => [])
theorem revL_len (xs : List DPoint) (k : Nat) : (revL xs k).length ≤ k := by
  induction k with
  | zero => simp [revL]
  | succ k ih =>
    simp only [revL, List.length_append]
    have : (match xs[k]? with | some p => if revd p then [(k : Int)] else [] | none => [] : List Int).length ≤ 1 := by split <;> (try split) <;> simp
    omega
theorem revL_on {xs : List DPoint} {k : Nat} (hk : k < xs.length) (h : revd xs[k] = true) : revL xs (k + 1) = revL xs k ++ [(k : Int)] := by simp [revL, List.getElem?_eq_getElem hk, h]
theorem revL_off {xs : List DPoint} {k : Nat} (hk : k < xs.length) (h : revd xs[k] = false) : revL xs (k + 1) = revL xs k := by simp [revL, List.getElem?_eq_getElem hk, h]
def revP (xs : List DPoint) : List Int × Bool := if pointsOk xs then (revL xs xs.length, true) else ([], false)
theorem revP_len (xs : List DPoint) : (revP xs).1.length ≤ 4000000 := by
  unfold revP
  split
  · rename_i h; have := revL_len xs xs.length; have := pointsOk_len h; simp; omega
  · simp

set_option maxHeartbeats 1000000 in
theorem s_ReversedPoints (v : Value) (xs : List DPoint) (w : World) (h : PointsAt w v xs) :
    Calls Try.prog 22 #[v] w fun e w' => ∃ u, e = .returned (.tuple #[u, .bool (revP xs).2]) ∧ OwnInts w' w.heap.size u (revP xs).1 ∧ Below w.heap.size w w' := by
  have hal0 : ∀ o : Obj, Below w.heap.size w (w.alloc o) := fun o => (Below.refl _ _).alloc (Nat.le_refl _) o
  have HQ := s_l17Good v xs _ (h.below (hal0 (.cells #[] 3)))
  obtain ⟨_, ao, cap, rfl, h1, h2, h3⟩ := h
  unfold maxLen at h2
  have hlit := own_lit0 w 3
  have hbl := hal0 (.cells #[] 3)
  cases hok : pointsOk xs with
  | false =>
    have HR : revP xs = ([], false) := by simp [revP, hok]
    rw [hok] at HQ
    rw [HR]
    have HQ' := Lib.hid HQ; clear HQ hok HR
    go_enter Try.func22, Try.ntmps22
    go_wp2_with (go_at_call 30; refine HQ'.out.mono ?_; rintro e w1 ⟨rfl, hb1⟩)
    go_ret2
    exact ⟨_, rfl, OwnI.below hlit hb1, below_step hbl hb1⟩
  | true =>
    have HR : revP xs = (revL xs xs.length, true) := by simp [revP, hok]
    have hL := pointsOk_len hok
    rw [hok] at HQ
    rw [HR]
    have HQ' := Lib.hid HQ; clear HQ hok HR
    go_enter Try.func22, Try.ntmps22
    go_wp2_with (go_at_call 30; refine HQ'.out.mono ?_; rintro e w1 ⟨rfl, hb1⟩; have ho1 := OwnI.below hlit hb1; have hb1' := below_step hbl hb1)
    go_loopw [4, 5] (fun o i wr => ∃ k : Nat, k ≤ xs.length ∧ i = .int .i64 k ∧ OwnInts wr w.heap.size o (revL xs k) ∧ Below w.heap.size w wr) (fun _ i _ => xs.length - (intOf i).toNat)
    case atStart => exact ⟨0, by omega, rfl, ho1, hb1'⟩
    case round =>
      obtain ⟨k, hk, rfl, ho, hb⟩ := hrel
      by_cases hlt : k < xs.length
      · obtain ⟨b, off, rfl, h4, h5⟩ := h3 (by omega)
        have hcc := (CellsAt.below h5 hb h4).point hlt
        have hlen := revL_len xs k
        have HV := s_l17Reversed xs[k]
        cases hr : revd xs[k] with
        | false =>
          have HL := Lib.hid (revL_off hlt hr)
          rw [hr] at HV
          have HV' := Lib.hid HV; clear HV hr
          generalize xs[k] = p at *
          obtain ⟨ra, st, tk, ap, ye, no, ab⟩ := p
          obtain ⟨c0, c1, c2, c3, c4, c5, c6⟩ := hcc
          go_wp2_with (go_at_call 38; refine (HV'.out _).mono ?_; rintro e w2 ⟨rfl, hb2⟩)
          go_roundw
          case rel => exact ⟨k + 1, by omega, by go_num, by rw [HL.out]; exact OwnI.below ho hb2, below_step hb hb2⟩
          case measure => simp [intOf]; omega
        | true =>
          have HL := Lib.hid (revL_on hlt hr)
          rw [hr] at HV
          have HV' := Lib.hid HV; clear HV hr
          generalize xs[k] = p at *
          obtain ⟨ra, st, tk, ap, ye, no, ab⟩ := p
          obtain ⟨c0, c1, c2, c3, c4, c5, c6⟩ := hcc
          go_wp2_with (first | (go_at_call 38; refine (HV'.out _).mono ?_; rintro e w2 ⟨rfl, hb2⟩; have ho2 := OwnI.below ho hb2; have hb2' := below_step hb hb2) | (at_builtin; refine wpList_push_int rfl (.tmp 22) (.tmp 24) _ rfl _ 3 _ int_info Try.underlying36 _ _ (k : Int) rfl ho2 rfl hb2'.size (by omega) ?_; intro u' w3 ho3 hb3))
          go_roundw
          case rel => exact ⟨k + 1, by omega, by go_num, by rw [HL.out]; exact ho3, hb2'.trans hb3⟩
          case measure => simp [intOf]; omega
      · obtain rfl : k = xs.length := by omega
        go_wp2_with fail
        go_ret2
        exact ⟨_, rfl, ho, hb⟩

set_option maxHeartbeats 1000000 in
theorem i_ReversedPoints (v : Value) (xs : List DPoint) (w : World) (h : PointsAt w v xs) :
    Calls Try.prog 23 #[v] w fun e w' => ∃ u, e = .returned (.tuple #[u, .bool (revP xs).2]) ∧ OwnInts w' w.heap.size u (revP xs).1 ∧ Below w.heap.size w w' := by
  have HQ := i_ArePoints v xs _ h
  obtain ⟨_, ao, cap, rfl, h1, h2, h3⟩ := h
  unfold maxLen at h2
  cases hok : pointsOk xs with
  | false =>
    have HR : revP xs = ([], false) := by simp [revP, hok]
    rw [hok] at HQ
    rw [HR]
    have HQ' := Lib.hid HQ; clear HQ hok HR
    go_enter Try.func23, Try.ntmps23
    go_wp2_with (go_at_call 12; refine HQ'.out.mono ?_; rintro e w1 ⟨rfl, hb1⟩)
    go_ret2
    exact ⟨_, rfl, World.ownsRow_nil _ _ 3 1, hb1⟩
  | true =>
    have HR : revP xs = (revL xs xs.length, true) := by simp [revP, hok]
    have hL := pointsOk_len hok
    rw [hok] at HQ
    rw [HR]
    have HQ' := Lib.hid HQ; clear HQ hok HR
    go_enter Try.func23, Try.ntmps23
    go_wp2_with (go_at_call 12; refine HQ'.out.mono ?_; rintro e w1 ⟨rfl, hb1⟩; have ho1 : OwnInts (w1.alloc (.cells #[] 3)) w.heap.size _ [] := own_base (own_lit0 w1 3) hb1.size; have hb1' : Below w.heap.size w (w1.alloc (.cells #[] 3)) := hb1.alloc hb1.size _)
    go_loopw [4, 13] (fun o i wr => ∃ k : Nat, k ≤ xs.length ∧ i = .int .i64 k ∧ OwnInts wr w.heap.size o (revL xs k) ∧ Below w.heap.size w wr) (fun _ i _ => xs.length - (intOf i).toNat)
    case atStart => exact ⟨0, by omega, rfl, ho1, hb1'⟩
    case round =>
      obtain ⟨k, hk, rfl, ho, hb⟩ := hrel
      by_cases hlt : k < xs.length
      · obtain ⟨b, off, rfl, h4, h5⟩ := h3 (by omega)
        have hcc := (CellsAt.below h5 hb h4).point hlt
        have hlen := revL_len xs k
        have hal : ∀ (o : Obj), Below wr.heap.size wr (wr.alloc o) := fun o => (Below.refl _ _).alloc (Nat.le_refl _) o
        have HAL := Lib.hid hal; clear hal
        have HV := i_isReversed xs[k]
        cases hr : revd xs[k] with
        | false =>
          have HL := Lib.hid (revL_off hlt hr)
          rw [hr] at HV
          have HV' := Lib.hid HV; clear HV hr
          generalize xs[k] = p at *
          obtain ⟨ra, st, tk, ap, ye, no, ab⟩ := p
          obtain ⟨c0, c1, c2, c3, c4, c5, c6⟩ := hcc
          go_wp2_with (go_at_call 40; refine (HV'.out _).mono ?_; rintro e w2 ⟨rfl, hb2⟩; have hb2' := below_step (HAL.out _) hb2)
          go_roundw
          case rel => exact ⟨k + 1, by omega, by go_num, by rw [HL.out]; exact OwnI.below ho hb2', below_step hb hb2'⟩
          case measure => simp [intOf]; omega
        | true =>
          have HL := Lib.hid (revL_on hlt hr)
          rw [hr] at HV
          have HV' := Lib.hid HV; clear HV hr
          generalize xs[k] = p at *
          obtain ⟨ra, st, tk, ap, ye, no, ab⟩ := p
          obtain ⟨c0, c1, c2, c3, c4, c5, c6⟩ := hcc
          go_wp2_with (first | (go_at_call 40; refine (HV'.out _).mono ?_; rintro e w2 ⟨rfl, hb2⟩; have hb3' := below_step (HAL.out _) hb2; have ho2 := OwnI.below ho hb3'; have hb2' := below_step hb hb3') | (at_builtin; refine wpList_push_int rfl (.tmp 20) (.tmp 22) _ rfl _ 3 _ int_info Try.underlying36 _ _ (k : Int) rfl ho2 rfl hb2'.size (by omega) ?_; intro u' w3 ho3 hb3))
          go_roundw
          case rel => exact ⟨k + 1, by omega, by go_num, by rw [HL.out]; exact ho3, hb2'.trans hb3⟩
          case measure => simp [intOf]; omega
      · obtain rfl : k = xs.length := by omega
        go_wp2_with fail
        go_ret2
        exact ⟨_, rfl, ho, hb⟩

/-- RaisePoint. -/
def raiseP (xs : List DPoint) (m : Int) : List DPoint × Bool :=
  if pointsOk xs && memB m && (xs.length != 6) && calm xs then (xs ++ [⟨m, 1, false, 0, 0, 0, 0⟩], true) else ([], false)
theorem raiseP_len (xs : List DPoint) (m : Int) : (raiseP xs m).1.length ≤ 4000000 := by
  unfold raiseP
  split
  · rename_i h
    simp only [Bool.and_eq_true] at h
    have := pointsOk_len h.1.1.1
    simp; omega
  · simp

set_option maxHeartbeats 1000000 in
theorem s_RaisePoint (v : Value) (xs : List DPoint) (m : Int) (w : World) (h : PointsAt w v xs) :
    Calls Try.prog 18 #[v, .int .i64 m] w fun e w' => ∃ u, e = .returned (.tuple #[u, .bool (raiseP xs m).2]) ∧ OwnPoints w' w.heap.size u (raiseP xs m).1 ∧ Below w.heap.size w w' := by
  have HQ := s_l17Good v xs _ h
  have hI := h
  obtain ⟨_, ao, cap, rfl, h1, h2, h3⟩ := h
  unfold maxLen at h2
  have fin0 : ∀ w1, Below w.heap.size w w1 → OwnPoints (w1.alloc (.cells #[] 48)) w.heap.size (.slice (some ⟨w1.heap.size, 0, none⟩) 0 0) [] ∧ Below w.heap.size w (w1.alloc (.cells #[] 48)) := fun w1 hb => ⟨own_base (own_empty w1 _ 7) hb.size, hb.alloc hb.size _⟩
  cases hok : pointsOk xs with
  | false =>
    have HR : raiseP xs m = ([], false) := by simp [raiseP, hok]
    rw [hok] at HQ
    rw [HR]
    have HQ' := Lib.hid HQ; clear HQ hok HR
    go_enter Try.func18, Try.ntmps18
    go_wp2_with (go_at_call 30; refine HQ'.out.mono ?_; rintro e w1 ⟨rfl, hb1⟩)
    go_ret2
    exact ⟨_, rfl, fin0 _ hb1⟩
  | true =>
    have hL := pointsOk_len hok
    rw [hok] at HQ
    have HQ' := Lib.hid HQ; clear HQ
    cases hm : memB m with
    | false =>
      have HR : raiseP xs m = ([], false) := by simp [raiseP, hm]
      rw [HR]
      have HM := Lib.hid hm; clear hm hok HR
      go_enter Try.func18, Try.ntmps18
      go_wp2_with (first | (go_at_call 30; refine HQ'.out.mono ?_; rintro e w1 ⟨rfl, hb1⟩) | (go_at_call 41; refine (s_l7Member _ _).mono ?_; rw [HM.out]; rintro e w' ⟨rfl, rfl⟩))
      go_ret2
      exact ⟨_, rfl, fin0 _ hb1⟩
    | true =>
      by_cases h6 : xs.length = 6
      · have HR : raiseP xs m = ([], false) := by simp [raiseP, h6]
        rw [HR]
        have h6b : (((xs.length : Nat) : Int) == 6) = true := by simp [h6]
        have HM := Lib.hid hm; have H6 := Lib.hid h6; clear hm hok HR h6
        go_enter Try.func18, Try.ntmps18
        go_wp2_with (first | (go_at_call 30; refine HQ'.out.mono ?_; rintro e w1 ⟨rfl, hb1⟩) | (go_at_call 41; refine (s_l7Member _ _).mono ?_; rw [HM.out]; rintro e w' ⟨rfl, rfl⟩))
        go_ret2
        exact ⟨_, rfl, fin0 _ hb1⟩
      · have h6b : (((xs.length : Nat) : Int) == 6) = false := by rw [beq_eq_false_iff_ne]; omega
        by_cases hz : xs.length = 0
        · have HR : raiseP xs m = ([⟨m, 1, false, 0, 0, 0, 0⟩], true) := by
            have := List.eq_nil_of_length_eq_zero hz
            subst this
            simp [raiseP, hok, hm, calm]
          rw [HR]
          have hz0 : ¬ (0 : Int) < (xs.length : Nat) := by omega
          have hxs : xs = [] := List.eq_nil_of_length_eq_zero hz
          have HX := Lib.hid hxs
          have HM := Lib.hid hm; have H6 := Lib.hid h6; have HZ := Lib.hid hz; clear hm hok HR h6 hz hxs
          go_enter Try.func18, Try.ntmps18
          go_wp2_with (first | (go_at_call 30; refine HQ'.out.mono ?_; rintro e w1 ⟨rfl, hb1⟩; have hI1 := hI.below hb1) | (go_at_call 41; refine (s_l7Member _ _).mono ?_; rw [HM.out]; rintro e w' ⟨rfl, rfl⟩) | (at_builtin; refine wpList_copy_flat rfl (.tmp 34) (.tmp 35) _ rfl 48 _ 7 56 point_info Try.underlying25 rfl (by omega) (by omega) _ xs.length (pcs xs) rfl rfl hI1 (pcs_one xs) (by omega) ?_; intro u2 w2 ho2 hb2; have hbb2 := below_step hb1 hb2) | (at_builtin; refine wpList_push_flat rfl (.tmp 36) (.tmp 39) _ rfl _ 48 _ _ 7 56 point_info Try.underlying25 rfl (by omega) (by omega) _ _ _ _ rfl (own_base ho2 hb1.size) rfl (by simp [Value.oneCell']) rfl hbb2.size (by omega) ?_; intro u3 w3 ho3 hb3))
          go_ret2
          refine ⟨_, rfl, ?_, hbb2.trans hb3⟩
          have hx := HX.out
          subst hx
          exact ho3
        · obtain ⟨k, hk⟩ : ∃ k, k + 1 = xs.length := ⟨xs.length - 1, by omega⟩
          have hkl : k < xs.length := by omega
          have hc := calm_last hkl hk
          have hz0 : (0 : Int) < (xs.length : Nat) := by omega
          have hkz : ((xs.length : Nat) : Int) - 1 = (k : Int) := by omega
          obtain ⟨b, off, rfl, h4, h5⟩ := h3 (by omega)
          have hcc := h5.point hkl
          have HO' := s_l17Open xs[k]
          cases hop : opened xs[k] with
          | true =>
            have HR : raiseP xs m = ([], false) := by simp [raiseP, hc, hop]
            rw [HR]
            rw [hop] at HO'
            have HO := Lib.hid HO'; clear HO' hop hc HR
            generalize xs[k] = p at *
            have HK := Lib.hid hk
            have HM := Lib.hid hm; have H6 := Lib.hid h6; clear hm hok h6 hk hz
            obtain ⟨ra, st, tk, ap, ye, no, ab⟩ := p
            obtain ⟨c0, c1, c2, c3, c4, c5, c6⟩ := hcc
            go_enter Try.func18, Try.ntmps18
            go_wp2_with (first | (go_at_call 30; refine HQ'.out.mono ?_; rintro e w1 ⟨rfl, hb1⟩; have d0 := below_cell h4 c0 _ hb1; have d1 := below_cell h4 c1 _ hb1; have d2 := below_cell h4 c2 _ hb1; have d3 := below_cell h4 c3 _ hb1; have d4 := below_cell h4 c4 _ hb1; have d5 := below_cell h4 c5 _ hb1; have d6 := below_cell h4 c6 _ hb1) | (go_at_call 41; refine (s_l7Member _ _).mono ?_; rw [HM.out]; rintro e w' ⟨rfl, rfl⟩) | (go_at_call 35; refine (HO.out _).mono ?_; rintro e w3 ⟨rfl, hb3⟩))
            go_ret2
            exact ⟨_, rfl, fin0 _ (below_step hb1 hb3)⟩
          | false =>
            have HR : raiseP xs m = (xs ++ [⟨m, 1, false, 0, 0, 0, 0⟩], true) := by simp [raiseP, hc, hop, hok, hm, h6]
            rw [HR]
            rw [hop] at HO'
            have HO := Lib.hid HO'; clear HO' hop hc HR
            generalize xs[k] = p at *
            have HK := Lib.hid hk
            have HM := Lib.hid hm; have H6 := Lib.hid h6; clear hm hok h6 hk hz
            obtain ⟨ra, st, tk, ap, ye, no, ab⟩ := p
            obtain ⟨c0, c1, c2, c3, c4, c5, c6⟩ := hcc
            go_enter Try.func18, Try.ntmps18
            go_wp2_with (first | (go_at_call 30; refine HQ'.out.mono ?_; rintro e w1 ⟨rfl, hb1⟩; have d0 := below_cell h4 c0 _ hb1; have d1 := below_cell h4 c1 _ hb1; have d2 := below_cell h4 c2 _ hb1; have d3 := below_cell h4 c3 _ hb1; have d4 := below_cell h4 c4 _ hb1; have d5 := below_cell h4 c5 _ hb1; have d6 := below_cell h4 c6 _ hb1) | (go_at_call 41; refine (s_l7Member _ _).mono ?_; rw [HM.out]; rintro e w' ⟨rfl, rfl⟩) | (go_at_call 35; refine (HO.out _).mono ?_; rintro e w4 ⟨rfl, hb4⟩; have hbb4 := below_step hb1 hb4; have hI1 := hI.below hbb4) | (at_builtin; refine wpList_copy_flat rfl (.tmp 34) (.tmp 35) _ rfl 48 _ 7 56 point_info Try.underlying25 rfl (by omega) (by omega) _ xs.length (pcs xs) rfl rfl hI1 (pcs_one xs) (by omega) ?_; intro u2 w2 ho2 hb2; have hbb2 := below_step hbb4 hb2) | (at_builtin; refine wpList_push_flat rfl (.tmp 36) (.tmp 39) _ rfl _ 48 _ _ 7 56 point_info Try.underlying25 rfl (by omega) (by omega) _ _ _ _ rfl (own_base ho2 hbb4.size) rfl (by simp [Value.oneCell']) rfl hbb2.size (by omega) ?_; intro u3 w3 ho3 hb3))
            go_ret2
            refine ⟨_, rfl, ?_, hbb2.trans hb3⟩
            simpa [OwnPoints, pcs, DPoint.cs] using ho3

set_option maxHeartbeats 1000000 in
theorem i_RaisePoint (v : Value) (xs : List DPoint) (m : Int) (w : World) (h : PointsAt w v xs) :
    Calls Try.prog 19 #[v, .int .i64 m] w fun e w' => ∃ u, e = .returned (.tuple #[u, .bool (raiseP xs m).2]) ∧ OwnPoints w' w.heap.size u (raiseP xs m).1 ∧ Below w.heap.size w w' := by
  have HQ := i_ArePoints v xs _ h
  have hI := h
  obtain ⟨_, ao, cap, rfl, h1, h2, h3⟩ := h
  unfold maxLen at h2
  have fin0 : ∀ w1, Below w.heap.size w w1 → OwnPoints w1 w.heap.size (.slice none 0 0) [] ∧ Below w.heap.size w w1 := fun w1 hb => ⟨World.ownsRow_nil _ _ 48 7, hb⟩
  cases hok : pointsOk xs with
  | false =>
    have HR : raiseP xs m = ([], false) := by simp [raiseP, hok]
    rw [hok] at HQ
    rw [HR]
    have HQ' := Lib.hid HQ; clear HQ hok HR
    go_enter Try.func19, Try.ntmps19
    go_wp2_with (go_at_call 12; refine HQ'.out.mono ?_; rintro e w1 ⟨rfl, hb1⟩)
    go_ret2
    exact ⟨_, rfl, fin0 _ hb1⟩
  | true =>
    have hL := pointsOk_len hok
    rw [hok] at HQ
    have HQ' := Lib.hid HQ; clear HQ
    cases hm : memB m with
    | false =>
      have HR : raiseP xs m = ([], false) := by simp [raiseP, hm]
      rw [HR]
      have HM := Lib.hid hm; clear hm hok HR
      go_enter Try.func19, Try.ntmps19
      go_wp2_with (first | (go_at_call 12; refine HQ'.out.mono ?_; rintro e w1 ⟨rfl, hb1⟩) | (go_at_call 42; refine (i_isMember _ _).mono ?_; rw [HM.out]; rintro e w' ⟨rfl, rfl⟩))
      go_ret2
      exact ⟨_, rfl, fin0 _ hb1⟩
    | true =>
      cases hc : calm xs with
      | false =>
        have HR : raiseP xs m = ([], false) := by simp [raiseP, hc]
        rw [HR]
        have HM := Lib.hid hm; have HC := Lib.hid hc; clear hm hok HR hc
        go_enter Try.func19, Try.ntmps19
        go_wp2_with (first | (go_at_call 12; refine HQ'.out.mono ?_; rintro e w1 ⟨rfl, hb1⟩) | (go_at_call 42; refine (i_isMember _ _).mono ?_; rw [HM.out]; rintro e w' ⟨rfl, rfl⟩) | (go_at_call 36; refine (i_isInOrder _ xs _ (hI.below hb1)).mono ?_; rw [HC.out]; rintro e w2 ⟨rfl, hb2⟩))
        go_ret2
        exact ⟨_, rfl, fin0 _ (below_step hb1 hb2)⟩
      | true =>
        by_cases h6 : xs.length = 6
        · have HR : raiseP xs m = ([], false) := by simp [raiseP, h6]
          rw [HR]
          have h6b : (((xs.length : Nat) : Int) == 6) = true := by simp [h6]
          have HM := Lib.hid hm; have HC := Lib.hid hc; have H6 := Lib.hid h6; clear hm hok HR hc h6
          go_enter Try.func19, Try.ntmps19
          go_wp2_with (first | (go_at_call 12; refine HQ'.out.mono ?_; rintro e w1 ⟨rfl, hb1⟩) | (go_at_call 42; refine (i_isMember _ _).mono ?_; rw [HM.out]; rintro e w' ⟨rfl, rfl⟩) | (go_at_call 36; refine (i_isInOrder _ xs _ (hI.below hb1)).mono ?_; rw [HC.out]; rintro e w2 ⟨rfl, hb2⟩))
          go_ret2
          exact ⟨_, rfl, fin0 _ (below_step hb1 hb2)⟩
        · have HR : raiseP xs m = (xs ++ [⟨m, 1, false, 0, 0, 0, 0⟩], true) := by simp [raiseP, hc, hok, hm, h6]
          rw [HR]
          have h6b : (((xs.length : Nat) : Int) == 6) = false := by rw [beq_eq_false_iff_ne]; omega
          have HM := Lib.hid hm; have HC := Lib.hid hc; have H6 := Lib.hid h6; clear hm hok HR hc h6
          go_enter Try.func19, Try.ntmps19
          go_wp2_with (first | (go_at_call 12; refine HQ'.out.mono ?_; rintro e w1 ⟨rfl, hb1⟩) | (go_at_call 42; refine (i_isMember _ _).mono ?_; rw [HM.out]; rintro e w' ⟨rfl, rfl⟩) | (go_at_call 36; refine (i_isInOrder _ xs _ (hI.below hb1)).mono ?_; rw [HC.out]; rintro e w4 ⟨rfl, hb4⟩; have hbb4 := below_step hb1 hb4; have hI1 := hI.below hbb4) | (at_builtin; refine wpList_copy_flat rfl (.tmp 24) (.tmp 25) _ rfl 48 _ 7 56 point_info Try.underlying25 rfl (by omega) (by omega) _ xs.length (pcs xs) rfl rfl hI1 (pcs_one xs) (by omega) ?_; intro u2 w2 ho2 hb2; have hbb2 := below_step hbb4 hb2) | (at_builtin; refine wpList_push_flat rfl (.tmp 26) (.tmp 29) _ rfl _ 48 _ _ 7 56 point_info Try.underlying25 rfl (by omega) (by omega) _ _ _ _ rfl (own_base ho2 hbb4.size) rfl (by simp [Value.oneCell']) rfl hbb2.size (by omega) ?_; intro u3 w3 ho3 hb3))
          go_ret2
          refine ⟨_, rfl, ?_, hbb2.trans hb3⟩
          simpa [OwnPoints, pcs, DPoint.cs] using ho3

end Go.Proofs.Ytgdagejchgkopaa
