/- Contracts: ArePoints, IsInOrder, OutcomeOf, the reference's and the program's. No conditions. -/
import Derived.Test.YtbphodmcajlpmaaPointOk
namespace Go.Proofs.Ytbphodmcajlpmaa
open Go.RowKit
set_option linter.unusedVariables false
set_option linter.unusedSimpArgs false

/-- All points are valid, and all but the last are not open. -/
def goodP : List DPoint → Bool
  | [] => true
  | p :: r => pointOk p && (r.isEmpty || !opened p) && goodP r
def pointsOk (xs : List DPoint) : Bool := decide (xs.length ≤ 6) && goodP xs
theorem goodP_at {xs : List DPoint} {k : Nat} (h : k < xs.length) : goodP (xs.drop k) = (pointOk xs[k] && (decide (k + 1 = xs.length) || !opened xs[k]) && goodP (xs.drop (k + 1))) := by
  rw [drop_at h]
  simp only [goodP]
  have : (xs.drop (k + 1)).isEmpty = decide (k + 1 = xs.length) := by
    rw [Bool.eq_iff_iff]
    simp only [List.isEmpty_iff, List.drop_eq_nil_iff, decide_eq_true_eq]
    omega
  rw [this]

set_option maxHeartbeats 1000000 in
theorem s_l17Good (v : Value) (xs : List DPoint) (w : World) (h : PointsAt w v xs) :
    Calls Try.prog 94 #[v] w fun e w' => e = .returned (.bool (pointsOk xs)) ∧ Below w.heap.size w w' := by
  obtain ⟨_, ao, cap, rfl, h1, h2, h3⟩ := h
  unfold maxLen at h2
  go_enter Try.func94, Try.ntmps94
  go_wp2_with fail
  go_loopw [3] (fun i wr => ∃ k : Nat, k ≤ xs.length ∧ k ≤ 7 ∧ i = .int .i64 k ∧ Hid (goodP xs = goodP (xs.drop k)) ∧ Below w.heap.size w wr) (fun i _ => xs.length - (intOf i).toNat)
  case atStart => exact ⟨0, by omega, by omega, rfl, by simp [Hid], Below.refl _ _⟩
  case round =>
    obtain ⟨k, hk, hk7, rfl, hd, hb⟩ := hrel
    have hd' := hd.out
    clear hd
    by_cases hlt : k < xs.length
    · by_cases h6 : k ≤ 6
      · obtain ⟨b, off, rfl, h4, h5⟩ := h3 (by omega)
        have hbw : b < wr.heap.size := by have := hb.size; omega
        have hcc := (CellsAt.below h5 hb h4).point hlt
        rw [goodP_at hlt] at hd'
        generalize xs[k] = p at *
        cases hp : pointOk p with
        | false =>
          have HR : Hid (pointsOk xs = false) := by simp [Hid, pointsOk, hd', hp]
          have HQ := s_l17Single p
          rw [hp] at HQ
          have HQ' := Lib.hid HQ; clear HQ hd' hp
          obtain ⟨ra, st, tk, ap, ye, no, ab⟩ := p
          obtain ⟨c0, c1, c2, c3, c4, c5, c6⟩ := hcc
          go_wp2_with (go_at_call 110; refine (HQ'.out _).mono ?_; rintro e w2 ⟨rfl, hb2⟩)
          go_ret
          exact ⟨ret_bool HR.out.symm, below_step hb hb2⟩
        | true =>
          have HQ := s_l17Single p
          rw [hp] at HQ
          have HQ' := Lib.hid HQ; clear HQ
          by_cases hlast : k + 1 = xs.length
          · have HD : Hid (goodP xs = goodP (xs.drop (k + 1))) := by simpa [Hid, hp, hlast] using hd'
            have hnl : ¬ ((k : Int) + 1 < xs.length) := by omega
            clear hd' hp
            obtain ⟨ra, st, tk, ap, ye, no, ab⟩ := p
            obtain ⟨c0, c1, c2, c3, c4, c5, c6⟩ := hcc
            have HLAST := Lib.hid hlast; clear hlast
            go_wp2_with (go_at_call 110; refine (HQ'.out _).mono ?_; rintro e w2 ⟨rfl, hb2⟩)
            go_roundw
            case rel => exact ⟨k + 1, by omega, by omega, by go_num, HD, below_step hb hb2⟩
            case measure => simp [intOf]; omega
          · have hnl : (k : Int) + 1 < xs.length := by omega
            have HO' := s_l17Open p
            cases ho : opened p with
            | true =>
              have HR : Hid (pointsOk xs = false) := by simp [Hid, pointsOk, hd', hp, hlast, ho]
              rw [ho] at HO'
              have HO := Lib.hid HO'; clear HO' hd' hp ho hlast
              obtain ⟨ra, st, tk, ap, ye, no, ab⟩ := p
              obtain ⟨c0, c1, c2, c3, c4, c5, c6⟩ := hcc
              go_wp2_with (first | (go_at_call 110; refine (HQ'.out _).mono ?_; rintro e w2 ⟨rfl, hb2⟩; have d0 := below_cell hbw c0 _ hb2; have d1 := below_cell hbw c1 _ hb2; have d2 := below_cell hbw c2 _ hb2; have d3 := below_cell hbw c3 _ hb2; have d4 := below_cell hbw c4 _ hb2; have d5 := below_cell hbw c5 _ hb2; have d6 := below_cell hbw c6 _ hb2) | (go_at_call 111; refine (HO.out _).mono ?_; rintro e w3 ⟨rfl, hb3⟩))
              go_ret
              exact ⟨ret_bool HR.out.symm, below_step (below_step hb hb2) hb3⟩
            | false =>
              have HD : Hid (goodP xs = goodP (xs.drop (k + 1))) := by simpa [Hid, hp, hlast, ho] using hd'
              rw [ho] at HO'
              have HO := Lib.hid HO'; clear HO' hd' hp ho hlast
              obtain ⟨ra, st, tk, ap, ye, no, ab⟩ := p
              obtain ⟨c0, c1, c2, c3, c4, c5, c6⟩ := hcc
              go_wp2_with (first | (go_at_call 110; refine (HQ'.out _).mono ?_; rintro e w2 ⟨rfl, hb2⟩; have d0 := below_cell hbw c0 _ hb2; have d1 := below_cell hbw c1 _ hb2; have d2 := below_cell hbw c2 _ hb2; have d3 := below_cell hbw c3 _ hb2; have d4 := below_cell hbw c4 _ hb2; have d5 := below_cell hbw c5 _ hb2; have d6 := below_cell hbw c6 _ hb2) | (go_at_call 111; refine (HO.out _).mono ?_; rintro e w3 ⟨rfl, hb3⟩))
              go_roundw
              case rel => exact ⟨k + 1, by omega, by omega, by go_num, HD, below_step (below_step hb hb2) hb3⟩
              case measure => simp [intOf]; omega
      · have HR : Hid (pointsOk xs = false) := by
          have : ¬ xs.length ≤ 6 := by omega
          simp [Hid, pointsOk, this]
        have hn6 : ¬ (xs.length : Int) ≤ 6 := by omega
        clear hd'
        go_wp2_with fail
        all_goals go_ret
        all_goals exact ⟨ret_bool (by first | (rw [HR.out]; done) | (rw [HR.out]; simp; omega)), hb⟩
    · have hkn : k = xs.length := by omega
      have HR : Hid (pointsOk xs = decide (xs.length ≤ 6)) := by
        rw [hkn, List.drop_length] at hd'
        simp [Hid, pointsOk, hd', goodP]
      clear hd'
      go_wp2_with fail
      all_goals go_ret
      all_goals exact ⟨ret_bool (by rw [HR.out]; simp; omega), hb⟩

set_option maxHeartbeats 1000000 in
theorem i_ArePoints (v : Value) (xs : List DPoint) (w : World) (h : PointsAt w v xs) :
    Calls Try.prog 96 #[v] w fun e w' => e = .returned (.bool (pointsOk xs)) ∧ Below w.heap.size w w' := by
  obtain ⟨_, ao, cap, rfl, h1, h2, h3⟩ := h
  unfold maxLen at h2
  go_enter Try.func96, Try.ntmps96
  go_wp2_with fail
  go_loopw [7] (fun i wr => ∃ k : Nat, k ≤ xs.length ∧ i = .int .i64 k ∧ Hid (goodP xs = goodP (xs.drop k)) ∧ Below w.heap.size w wr) (fun i _ => xs.length - (intOf i).toNat)
  case atStart => exact ⟨0, by omega, rfl, by simp [Hid], Below.refl _ _⟩
  case round =>
    obtain ⟨k, hk, rfl, hd, hb⟩ := hrel
    have hd' := hd.out
    clear hd
    by_cases hlt : k < xs.length
    · obtain ⟨b, off, rfl, h4, h5⟩ := h3 (by omega)
      have hcc := (CellsAt.below h5 hb h4).point hlt
      rw [goodP_at hlt] at hd'
      generalize xs[k] = p at *
      have hal : ∀ (o : Obj), Below wr.heap.size wr (wr.alloc o) := fun o => (Below.refl _ _).alloc (Nat.le_refl _) o
      have HAL := Lib.hid hal; clear hal
      cases hp : pointOk p with
      | false =>
        have HR : Hid (pointsOk xs = false) := by simp [Hid, pointsOk, hd', hp]
        have HQ := i_isPoint p
        rw [hp] at HQ
        have HQ' := Lib.hid HQ; clear HQ hd' hp
        obtain ⟨ra, st, tk, ap, ye, no, ab⟩ := p
        obtain ⟨c0, c1, c2, c3, c4, c5, c6⟩ := hcc
        go_wp2_with (go_at_call 112; refine (HQ'.out _).mono ?_; rintro e w2 ⟨rfl, hb2⟩; have B2 := (BoxAt.below (BoxAt.new _ _ _) hb2).cells)
        go_ret
        exact ⟨ret_bool HR.out.symm, below_step (below_step hb (HAL.out _)) hb2⟩
      | true =>
        have HQ := i_isPoint p
        rw [hp] at HQ
        have HQ' := Lib.hid HQ; clear HQ
        have HO' := i_isOpenPoint p
        cases ho : opened p with
        | false =>
          have HD : Hid (goodP xs = goodP (xs.drop (k + 1))) := by simpa [Hid, hp, ho] using hd'
          rw [ho] at HO'
          have HO := Lib.hid HO'; clear HO' hd' hp ho
          obtain ⟨ra, st, tk, ap, ye, no, ab⟩ := p
          obtain ⟨c0, c1, c2, c3, c4, c5, c6⟩ := hcc
          go_wp2_with (first | (go_at_call 112; refine (HQ'.out _).mono ?_; rintro e w2 ⟨rfl, hb2⟩; have B2 := (BoxAt.below (BoxAt.new _ _ _) hb2).cells) | (go_at_call 113; refine (HO.out _).mono ?_; rintro e w3 ⟨rfl, hb3⟩))
          go_roundw
          case rel => exact ⟨k + 1, by omega, by go_num, HD, below_step (below_step (below_step hb (HAL.out _)) hb2) hb3⟩
          case measure => simp [intOf]; omega
        | true =>
          rw [ho] at HO'
          have HO := Lib.hid HO'; clear HO'
          by_cases hlast : k + 1 = xs.length
          · have HD : Hid (goodP xs = goodP (xs.drop (k + 1))) := by simpa [Hid, hp, hlast] using hd'
            have hnl : ¬ ((k : Int) < xs.length - 1) := by omega
            have HLAST := Lib.hid hlast; clear hlast hd' hp ho
            obtain ⟨ra, st, tk, ap, ye, no, ab⟩ := p
            obtain ⟨c0, c1, c2, c3, c4, c5, c6⟩ := hcc
            go_wp2_with (first | (go_at_call 112; refine (HQ'.out _).mono ?_; rintro e w2 ⟨rfl, hb2⟩; have B2 := (BoxAt.below (BoxAt.new _ _ _) hb2).cells) | (go_at_call 113; refine (HO.out _).mono ?_; rintro e w3 ⟨rfl, hb3⟩))
            go_roundw
            case rel => exact ⟨k + 1, by omega, by go_num, HD, below_step (below_step (below_step hb (HAL.out _)) hb2) hb3⟩
            case measure => simp [intOf]; omega
          · have HR : Hid (pointsOk xs = false) := by simp [Hid, pointsOk, hd', hp, hlast, ho]
            have hnl : (k : Int) < xs.length - 1 := by omega
            clear hd' hp ho hlast
            obtain ⟨ra, st, tk, ap, ye, no, ab⟩ := p
            obtain ⟨c0, c1, c2, c3, c4, c5, c6⟩ := hcc
            go_wp2_with (first | (go_at_call 112; refine (HQ'.out _).mono ?_; rintro e w2 ⟨rfl, hb2⟩; have B2 := (BoxAt.below (BoxAt.new _ _ _) hb2).cells) | (go_at_call 113; refine (HO.out _).mono ?_; rintro e w3 ⟨rfl, hb3⟩))
            go_ret
            exact ⟨ret_bool HR.out.symm, below_step (below_step (below_step hb (HAL.out _)) hb2) hb3⟩
    · have hkn : k = xs.length := by omega
      have HR : Hid (pointsOk xs = decide (xs.length ≤ 6)) := by
        rw [hkn, List.drop_length] at hd'
        simp [Hid, pointsOk, hd', goodP]
      clear hd'
      go_wp2_with fail
      all_goals go_ret
      all_goals exact ⟨ret_bool (by rw [HR.out]; simp; omega), hb⟩

end Go.Proofs.Ytbphodmcajlpmaa
