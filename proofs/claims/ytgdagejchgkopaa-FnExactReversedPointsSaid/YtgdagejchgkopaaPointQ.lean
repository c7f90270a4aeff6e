/- Contracts: IsInOrder, OutcomeOf, the reference's and the program's. No conditions. -/
import Derived.Test.YtgdagejchgkopaaPointL
namespace Go.Proofs.Ytgdagejchgkopaa
open Go.RowKit
set_option linter.unusedVariables false
set_option linter.unusedSimpArgs false

/-- Whether nothing is to be done with points. -/
def calm (xs : List DPoint) : Bool := match xs.getLast? with | some p => !opened p | none => true
theorem calm_nil {xs : List DPoint} (h : xs.length = 0) : calm xs = true := by
  obtain rfl := List.eq_nil_of_length_eq_zero h; rfl
theorem calm_last {xs : List DPoint} {k : Nat} (hk : k < xs.length) (h : k + 1 = xs.length) : calm xs = !opened xs[k] := by
  have : xs.getLast? = some xs[k] := by
    rw [List.getLast?_eq_getElem?, ← h]; simp
  simp [calm, this]
/-- The outcome of a point, and whether there is one. -/
def outP (xs : List DPoint) (i : Int) : Bool × Bool :=
  if pointsOk xs && inB i 0 ((xs.length : Int) - 1) then (match xs[i.toNat]? with | some p => if opened p then (false, false) else (p.tk != revd p, true) | none => (false, false)) else (false, false)
theorem outP_at {xs : List DPoint} {k : Nat} (hk : k < xs.length) (hok : pointsOk xs = true) (hi : inB (k : Int) 0 ((xs.length : Int) - 1) = true) : outP xs k = if opened xs[k] then (false, false) else (xs[k].tk != revd xs[k], true) := by
  simp [outP, hok, hi, List.getElem?_eq_getElem hk]

set_option maxHeartbeats 1000000 in
theorem s_OutcomeOf (v : Value) (xs : List DPoint) (i : Int) (w : World) (h : PointsAt w v xs) :
    Calls Try.prog 16 #[v, .int .i64 i] w fun e w' => e = .returned (.tuple #[.bool (outP xs i).1, .bool (outP xs i).2]) ∧ Below w.heap.size w w' := by
  have hL : xs.length ≤ maxLen := by obtain ⟨_, _, _, _, h1, h2, _⟩ := h; omega
  unfold maxLen at hL
  have HQ := s_l17Good v xs w h
  have HH := h
  obtain ⟨ao, cap, rfl⟩ := h.form
  cases hok : pointsOk xs with
  | false =>
    have HR : Hid (outP xs i = (false, false)) := by simp [Hid, outP, hok]
    rw [hok] at HQ
    have HQ' := Lib.hid HQ; clear HQ hok
    go_enter Try.func16, Try.ntmps16
    go_wp2_with (go_at_call 30; refine HQ'.out.mono ?_; rintro e w1 ⟨rfl, hb1⟩)
    go_ret2
    exact ⟨ret_bb (by rw [HR.out]) (by rw [HR.out]), hb1⟩
  | true =>
    rw [hok] at HQ
    have HQ' := Lib.hid HQ; clear HQ
    cases hi : inB i 0 ((xs.length : Int) - 1) with
    | false =>
      have HR : Hid (outP xs i = (false, false)) := by simp [Hid, outP, hi]
      have HI := Lib.hid hi; clear hi hok
      go_enter Try.func16, Try.ntmps16
      go_wp2_with (first | (go_at_call 30; refine HQ'.out.mono ?_; rintro e w1 ⟨rfl, hb1⟩) | (go_at_call 37; refine (s_l1In _ _ _ _).mono ?_; rw [HI.out]; rintro e w' ⟨rfl, rfl⟩))
      go_ret2
      exact ⟨ret_bb (by rw [HR.out]) (by rw [HR.out]), hb1⟩
    | true =>
      obtain ⟨hi1, hi2⟩ := inB_iff.1 hi
      obtain ⟨k, rfl⟩ : ∃ k : Nat, i = k := ⟨i.toNat, by omega⟩
      have hk : k < xs.length := by omega
      have hv := outP_at hk hok hi
      have HI := Lib.hid hi; clear hi hok
      obtain ⟨_, ao', cap', hsl, h1, h2, h3⟩ := HH
      obtain ⟨b, off, rfl, h4, h5⟩ := h3 (by omega)
      simp only [Value.slice.injEq, true_and] at hsl
      obtain ⟨rfl, rfl⟩ := hsl
      have hcc := h5.point hk
      generalize xs[k] = p at *
      have HO' := s_l17Open p
      have HV' := s_l17Reversed p
      cases ho : opened p with
      | true =>
        have HR : Hid (outP xs k = (false, false)) := by simpa [Hid, ho] using hv
        rw [ho] at HO'
        have HO := Lib.hid HO'; clear HO' ho hv HV'
        obtain ⟨ra, st, tk, ap, ye, no, ab⟩ := p
        obtain ⟨c0, c1, c2, c3, c4, c5, c6⟩ := hcc
        go_enter Try.func16, Try.ntmps16
        go_wp2_with (first | (go_at_call 30; refine HQ'.out.mono ?_; rintro e w1 ⟨rfl, hb1⟩; have d0 := below_cell h4 c0 _ hb1; have d1 := below_cell h4 c1 _ hb1; have d2 := below_cell h4 c2 _ hb1; have d3 := below_cell h4 c3 _ hb1; have d4 := below_cell h4 c4 _ hb1; have d5 := below_cell h4 c5 _ hb1; have d6 := below_cell h4 c6 _ hb1) | (go_at_call 37; refine (s_l1In _ _ _ _).mono ?_; rw [HI.out]; rintro e w' ⟨rfl, rfl⟩) | (go_at_call 35; refine (HO.out _).mono ?_; rintro e w3 ⟨rfl, hb3⟩))
        go_ret2
        exact ⟨ret_bb (by rw [HR.out]) (by rw [HR.out]), below_step hb1 hb3⟩
      | false =>
        have HR : Hid (outP xs k = (p.tk != revd p, true)) := by simpa [Hid, ho] using hv
        rw [ho] at HO'
        have HO := Lib.hid HO'; clear HO' ho hv
        have HV := Lib.hid HV'; clear HV'
        generalize revd p = rv at *
        obtain ⟨ra, st, tk, ap, ye, no, ab⟩ := p
        obtain ⟨c0, c1, c2, c3, c4, c5, c6⟩ := hcc
        go_enter Try.func16, Try.ntmps16
        go_wp2_with (first | (go_at_call 30; refine HQ'.out.mono ?_; rintro e w1 ⟨rfl, hb1⟩; have d0 := below_cell h4 c0 _ hb1; have d1 := below_cell h4 c1 _ hb1; have d2 := below_cell h4 c2 _ hb1; have d3 := below_cell h4 c3 _ hb1; have d4 := below_cell h4 c4 _ hb1; have d5 := below_cell h4 c5 _ hb1; have d6 := below_cell h4 c6 _ hb1) | (go_at_call 37; refine (s_l1In _ _ _ _).mono ?_; rw [HI.out]; rintro e w' ⟨rfl, rfl⟩) | (go_at_call 35; refine (HO.out _).mono ?_; rintro e w3 ⟨rfl, hb3⟩))
        have hb13 := below_step hb1 hb3
        have hbw : b < w3.heap.size := by have := hb13.size; omega
        have r0 := below_cell hbw (below_cell h4 c0 _ hb13); have r1 := below_cell hbw (below_cell h4 c1 _ hb13); have r2 := below_cell hbw (below_cell h4 c2 _ hb13); have r3 := below_cell hbw (below_cell h4 c3 _ hb13); have r4 := below_cell hbw (below_cell h4 c4 _ hb13); have r5 := below_cell hbw (below_cell h4 c5 _ hb13); have r6 := below_cell hbw (below_cell h4 c6 _ hb13)
        clear c0 c1 c2 c3 c4 c5 c6 d0 d1 d2 d3 d4 d5 d6
        go_region_held3 (fun w' => Below w3.heap.size w3 w') (first | assumption | (exact Below.drew (Below.refl _ _)))
          (first
            | (go_at_call 38; refine (HV.out _).mono ?_; rintro e w2 ⟨rfl, hb2⟩; have hbn := below_step (W := w3) (by assumption) hb2))
        go_wp2_with fail
        go_ret2
        exact ⟨ret_bb (by rw [HR.out]; cases tk <;> cases rv <;> rfl) (by rw [HR.out]), below_step hb13 hbn⟩

set_option maxHeartbeats 1000000 in
theorem s_IsInOrder (v : Value) (xs : List DPoint) (w : World) (h : PointsAt w v xs) :
    Calls Try.prog 14 #[v] w fun e w' => e = .returned (.tuple #[.bool (pointsOk xs && calm xs), .bool (pointsOk xs)]) ∧ Below w.heap.size w w' := by
  have HQ := s_l17Good v xs w h
  obtain ⟨_, ao, cap, rfl, h1, h2, h3⟩ := h
  unfold maxLen at h2
  cases hok : pointsOk xs with
  | false =>
    rw [hok] at HQ
    have HQ' := Lib.hid HQ; clear HQ hok
    go_enter Try.func14, Try.ntmps14
    go_wp2_with (go_at_call 30; refine HQ'.out.mono ?_; rintro e w1 ⟨rfl, hb1⟩)
    go_ret2
    exact ⟨rfl, hb1⟩
  | true =>
    rw [hok] at HQ
    have HQ' := Lib.hid HQ; clear HQ hok
    by_cases hz : xs.length = 0
    · have HR : Hid (calm xs = true) := calm_nil hz
      have hz' : (xs.length : Int) = 0 := by omega
      have hzb : (((xs.length : Nat) : Int) == 0) = true := by simp [hz]
      have HZ := Lib.hid hz; clear hz
      go_enter Try.func14, Try.ntmps14
      go_wp2_with (go_at_call 30; refine HQ'.out.mono ?_; rintro e w1 ⟨rfl, hb1⟩)
      go_ret2
      exact ⟨by rw [HR.out]; rfl, hb1⟩
    · obtain ⟨k, hk⟩ : ∃ k, k + 1 = xs.length := ⟨xs.length - 1, by omega⟩
      have hkl : k < xs.length := by omega
      have hc := calm_last hkl hk
      have hzb : (((xs.length : Nat) : Int) == 0) = false := by rw [beq_eq_false_iff_ne]; omega
      have hkz : ((xs.length : Nat) : Int) - 1 = (k : Int) := by omega
      obtain ⟨b, off, rfl, h4, h5⟩ := h3 (by omega)
      have hcc := h5.point hkl
      generalize xs[k] = p at *
      have HO := Lib.hid (s_l17Open p)
      generalize opened p = op at *
      have HC := Lib.hid hc; clear hc
      have HK := Lib.hid hk; clear hk hz
      obtain ⟨ra, st, tk, ap, ye, no, ab⟩ := p
      obtain ⟨c0, c1, c2, c3, c4, c5, c6⟩ := hcc
      go_enter Try.func14, Try.ntmps14
      go_wp2_with (first | (go_at_call 30; refine HQ'.out.mono ?_; rintro e w1 ⟨rfl, hb1⟩; have d0 := below_cell h4 c0 _ hb1; have d1 := below_cell h4 c1 _ hb1; have d2 := below_cell h4 c2 _ hb1; have d3 := below_cell h4 c3 _ hb1; have d4 := below_cell h4 c4 _ hb1; have d5 := below_cell h4 c5 _ hb1; have d6 := below_cell h4 c6 _ hb1) | (go_at_call 35; refine (HO.out _).mono ?_; rintro e w3 ⟨rfl, hb3⟩))
      go_ret2
      exact ⟨by rw [HC.out]; rfl, below_step hb1 hb3⟩

set_option maxHeartbeats 1000000 in
theorem i_isInOrder (v : Value) (xs : List DPoint) (w : World) (h : PointsAt w v xs) :
    Calls Try.prog 36 #[v] w fun e w' => e = .returned (.bool (calm xs)) ∧ Below w.heap.size w w' := by
  obtain ⟨_, ao, cap, rfl, h1, h2, h3⟩ := h
  unfold maxLen at h2
  by_cases hz : xs.length = 0
  · have HR : Hid (calm xs = true) := calm_nil hz
    have hz' : (xs.length : Int) = 0 := by omega
    have hzb : (((xs.length : Nat) : Int) == 0) = true := by simp [hz]
    have HZ := Lib.hid hz; clear hz
    go_enter Try.func36, Try.ntmps36
    go_wp2_with fail
    go_ret
    exact ⟨ret_bool HR.out.symm, Below.refl _ _⟩
  · obtain ⟨k, hk⟩ : ∃ k, k + 1 = xs.length := ⟨xs.length - 1, by omega⟩
    have hkl : k < xs.length := by omega
    have hc := calm_last hkl hk
    have hzb : (((xs.length : Nat) : Int) == 0) = false := by rw [beq_eq_false_iff_ne]; omega
    have hkz : ((xs.length : Nat) : Int) - 1 = (k : Int) := by omega
    obtain ⟨b, off, rfl, h4, h5⟩ := h3 (by omega)
    have hcc := h5.point hkl
    generalize xs[k] = p at *
    have HO := Lib.hid (i_isOpenPoint p)
    generalize opened p = op at *
    have HC := Lib.hid hc; clear hc
    have HK := Lib.hid hk; clear hk hz
    obtain ⟨ra, st, tk, ap, ye, no, ab⟩ := p
    obtain ⟨c0, c1, c2, c3, c4, c5, c6⟩ := hcc
    go_enter Try.func36, Try.ntmps36
    go_wp2_with (go_at_call 33; refine (HO.out _).mono ?_; rintro e w3 ⟨rfl, hb3⟩)
    go_ret
    exact ⟨ret_bool HC.out.symm, hb3⟩

theorem i_IsInOrder (v : Value) (xs : List DPoint) (w : World) (h : PointsAt w v xs) :
    Calls Try.prog 15 #[v] w fun e w' => e = .returned (.tuple #[.bool (pointsOk xs && calm xs), .bool (pointsOk xs)]) ∧ Below w.heap.size w w' := by
  have HQ := i_ArePoints v xs w h
  obtain ⟨ao, cap, rfl⟩ := h.form
  cases hok : pointsOk xs with
  | false =>
    rw [hok] at HQ
    have HQ' := Lib.hid HQ; clear HQ hok
    go_enter Try.func15, Try.ntmps15
    go_wp2_with (go_at_call 12; refine HQ'.out.mono ?_; rintro e w1 ⟨rfl, hb1⟩)
    go_ret2
    exact ⟨rfl, hb1⟩
  | true =>
    rw [hok] at HQ
    have HQ' := Lib.hid HQ; clear HQ hok
    go_enter Try.func15, Try.ntmps15
    go_wp2_with (first | (go_at_call 12; refine HQ'.out.mono ?_; rintro e w1 ⟨rfl, hb1⟩) | (go_at_call 36; refine (i_isInOrder _ xs _ (h.below hb1)).mono ?_; rintro e w2 ⟨rfl, hb2⟩))
    go_ret2
    exact ⟨rfl, below_step hb1 hb2⟩

set_option maxHeartbeats 1000000 in
theorem i_OutcomeOf (v : Value) (xs : List DPoint) (i : Int) (w : World) (h : PointsAt w v xs) :
    Calls Try.prog 17 #[v, .int .i64 i] w fun e w' => e = .returned (.tuple #[.bool (outP xs i).1, .bool (outP xs i).2]) ∧ Below w.heap.size w w' := by
  have hL : xs.length ≤ maxLen := by obtain ⟨_, _, _, _, h1, h2, _⟩ := h; omega
  unfold maxLen at hL
  have HQ := i_ArePoints v xs w h
  have HH := h
  obtain ⟨ao, cap, rfl⟩ := h.form
  cases hok : pointsOk xs with
  | false =>
    have HR : Hid (outP xs i = (false, false)) := by simp [Hid, outP, hok]
    rw [hok] at HQ
    have HQ' := Lib.hid HQ; clear HQ hok
    go_enter Try.func17, Try.ntmps17
    go_wp2_with (go_at_call 12; refine HQ'.out.mono ?_; rintro e w1 ⟨rfl, hb1⟩)
    go_ret2
    exact ⟨ret_bb (by rw [HR.out]) (by rw [HR.out]), hb1⟩
  | true =>
    rw [hok] at HQ
    have HQ' := Lib.hid HQ; clear HQ
    cases hi : inB i 0 ((xs.length : Int) - 1) with
    | false =>
      have HR : Hid (outP xs i = (false, false)) := by simp [Hid, outP, hi]
      have HI := Lib.hid hi; clear hi hok
      go_enter Try.func17, Try.ntmps17
      go_wp2_with (first | (go_at_call 12; refine HQ'.out.mono ?_; rintro e w1 ⟨rfl, hb1⟩) | (go_at_call 39; refine (i_inside _ _ _ _).mono ?_; rw [HI.out]; rintro e w' ⟨rfl, rfl⟩))
      go_ret2
      exact ⟨ret_bb (by rw [HR.out]) (by rw [HR.out]), hb1⟩
    | true =>
      obtain ⟨hi1, hi2⟩ := inB_iff.1 hi
      obtain ⟨k, rfl⟩ : ∃ k : Nat, i = k := ⟨i.toNat, by omega⟩
      have hk : k < xs.length := by omega
      have hv := outP_at hk hok hi
      have HI := Lib.hid hi; clear hi hok
      obtain ⟨_, ao', cap', hsl, h1, h2, h3⟩ := HH
      obtain ⟨b, off, rfl, h4, h5⟩ := h3 (by omega)
      simp only [Value.slice.injEq, true_and] at hsl
      obtain ⟨rfl, rfl⟩ := hsl
      have hcc := h5.point hk
      generalize xs[k] = p at *
      have HO' := i_isOpenPoint p
      have HV' := i_isReversed p
      cases ho : opened p with
      | true =>
        have HR : Hid (outP xs k = (false, false)) := by simpa [Hid, ho] using hv
        rw [ho] at HO'
        have HO := Lib.hid HO'; clear HO' ho hv HV'
        obtain ⟨ra, st, tk, ap, ye, no, ab⟩ := p
        obtain ⟨c0, c1, c2, c3, c4, c5, c6⟩ := hcc
        go_enter Try.func17, Try.ntmps17
        go_wp2_with (first | (go_at_call 12; refine HQ'.out.mono ?_; rintro e w1 ⟨rfl, hb1⟩; have d0 := below_cell h4 c0 _ hb1; have d1 := below_cell h4 c1 _ hb1; have d2 := below_cell h4 c2 _ hb1; have d3 := below_cell h4 c3 _ hb1; have d4 := below_cell h4 c4 _ hb1; have d5 := below_cell h4 c5 _ hb1; have d6 := below_cell h4 c6 _ hb1) | (go_at_call 39; refine (i_inside _ _ _ _).mono ?_; rw [HI.out]; rintro e w' ⟨rfl, rfl⟩) | (go_at_call 33; refine (HO.out _).mono ?_; rintro e w3 ⟨rfl, hb3⟩))
        go_ret2
        exact ⟨ret_bb (by rw [HR.out]) (by rw [HR.out]), below_step hb1 hb3⟩
      | false =>
        have HR : Hid (outP xs k = (p.tk != revd p, true)) := by simpa [Hid, ho] using hv
        rw [ho] at HO'
        have HO := Lib.hid HO'; clear HO' ho hv
        have HV := Lib.hid HV'; clear HV'
        generalize revd p = rv at *
        obtain ⟨ra, st, tk, ap, ye, no, ab⟩ := p
        obtain ⟨c0, c1, c2, c3, c4, c5, c6⟩ := hcc
        go_enter Try.func17, Try.ntmps17
        go_wp2_with (first | (go_at_call 12; refine HQ'.out.mono ?_; rintro e w1 ⟨rfl, hb1⟩; have d0 := below_cell h4 c0 _ hb1; have d1 := below_cell h4 c1 _ hb1; have d2 := below_cell h4 c2 _ hb1; have d3 := below_cell h4 c3 _ hb1; have d4 := below_cell h4 c4 _ hb1; have d5 := below_cell h4 c5 _ hb1; have d6 := below_cell h4 c6 _ hb1) | (go_at_call 39; refine (i_inside _ _ _ _).mono ?_; rw [HI.out]; rintro e w' ⟨rfl, rfl⟩) | (go_at_call 33; refine (HO.out _).mono ?_; rintro e w3 ⟨rfl, hb3⟩))
        have hb13 := below_step hb1 hb3
        have hbw : b < w3.heap.size := by have := hb13.size; omega
        have r0 := below_cell hbw (below_cell h4 c0 _ hb13); have r1 := below_cell hbw (below_cell h4 c1 _ hb13); have r2 := below_cell hbw (below_cell h4 c2 _ hb13); have r3 := below_cell hbw (below_cell h4 c3 _ hb13); have r4 := below_cell hbw (below_cell h4 c4 _ hb13); have r5 := below_cell hbw (below_cell h4 c5 _ hb13); have r6 := below_cell hbw (below_cell h4 c6 _ hb13)
        clear c0 c1 c2 c3 c4 c5 c6 d0 d1 d2 d3 d4 d5 d6
        go_region_held3 (fun w' => Below w3.heap.size w3 w') (first | assumption | (exact Below.drew (Below.refl _ _)))
          (first
            | (go_at_call 40; refine (HV.out _).mono ?_; rintro e w2 ⟨rfl, hb2⟩; have hbn := below_step (W := w3) (by assumption) hb2))
        go_wp2_with fail
        go_ret2
        exact ⟨ret_bb (by rw [HR.out]; cases tk <;> cases rv <;> rfl) (by rw [HR.out]), below_step hb13 hbn⟩

end Go.Proofs.Ytgdagejchgkopaa
