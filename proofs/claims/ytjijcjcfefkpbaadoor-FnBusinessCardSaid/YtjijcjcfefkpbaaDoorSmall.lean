/- Contracts of small functions on ints: in a range, votes, tallies. No conditions. -/
import Derived.Test.YtjijcjcfefkpbaaDoorRows
import Derived.Test.YtjijcjcfefkpbaaDoorBase
namespace Go.Proofs.YtjijcjcfefkpbaaDoor
open Go.RowKit
set_option linter.unusedVariables false
set_option linter.unusedSimpArgs false

theorem s_l1In (x a b : Int) (w : World) :
    Calls Tryd.prog 45 #[.int .i64 x, .int .i64 a, .int .i64 b] w fun e w' => e = .returned (.bool (inB x a b)) ∧ w = w' := by
  go_enter Tryd.func45, Tryd.ntmps45
  go_wp2
  all_goals go_ret
  all_goals (refine ⟨inB_eq ?_, rfl⟩; simp; omega)

theorem i_inside (x a b : Int) (w : World) :
    Calls Tryd.prog 39 #[.int .i64 x, .int .i64 a, .int .i64 b] w fun e w' => e = .returned (.bool (inB x a b)) ∧ w = w' := by
  go_enter Tryd.func39, Tryd.ntmps39
  go_wp2
  all_goals go_ret
  all_goals (refine ⟨inB_eq ?_, rfl⟩; simp; omega)

/-- A tally's numbers are valid. -/
def tallyOk (y n a : Int) : Bool := inB y 0 1000 && inB n 0 1000 && inB a 0 1000
abbrev vTally (y n a : Int) : Value := .agg #[.int .i64 y, .int .i64 n, .int .i64 a]
theorem tallyOk_iff {y n a : Int} : tallyOk y n a = true ↔ (0 ≤ y ∧ y ≤ 1000) ∧ (0 ≤ n ∧ n ≤ 1000) ∧ (0 ≤ a ∧ a ≤ 1000) := by
  simp [tallyOk, inB, and_assoc]

/-- Strictly rising from behind p on, between lo and hi. -/
def risB (lo hi : Int) : Option Int → List Int → Bool
  | _, [] => true
  | p, x :: r => inB x lo hi && (match p with | none => true | some y => decide (y < x)) && risB lo hi (some x) r
abbrev rising (lo hi : Int) (xs : List Int) : Bool := risB lo hi none xs
/-- the element ahead of place k -/
def prevOf (xs : List Int) (k : Nat) : Option Int := if k = 0 then none else xs[k - 1]?
theorem prevOf_succ (xs : List Int) (k : Nat) (h : k < xs.length) : prevOf xs (k + 1) = some xs[k] := by simp [prevOf, h]

theorem quiet_eq {P : Program} {f : FuncId} {args : Array Value} {w : World} {n : Nat} {v : Value}
    (h : Calls P f args (w.drewN n) fun e w' => e = .returned v ∧ w.drewN n = w') : Calls P f args (w.drewN n) fun e w'' => e = .returned v ∧ ∃ m, w'' = w.drewN m :=
  h.mono fun _ _ ⟨he, hm⟩ => ⟨he, n, hm.symm⟩

theorem s_l1Rising (v : Value) (xs : List Int) (lo hi : Int) (w : World) (h : IntsAt w v xs) :
    Calls Tryd.prog 46 #[v, .int .i64 lo, .int .i64 hi] w fun e w' => e = .returned (.bool (rising lo hi xs)) ∧ Below w.heap.size w w' := by
  obtain ⟨_, ao, cap, rfl, h1, h2, h3⟩ := h
  unfold maxLen at h2
  go_enter Tryd.func46, Tryd.ntmps46
  go_wp2
  go_loopw [7] (fun i wr => ∃ k : Nat, k ≤ xs.length ∧ i = .int .i64 k ∧ Hid (rising lo hi xs = risB lo hi (prevOf xs k) (xs.drop k)) ∧ Below w.heap.size w wr) (fun i _ => xs.length - (intOf i).toNat)
  case atStart => exact ⟨0, by omega, rfl, by simp [Hid, prevOf], Below.refl _ _⟩
  case round =>
    obtain ⟨k, hk, rfl, hd, hb⟩ := hrel
    by_cases hlt : k < xs.length
    · obtain ⟨b, off, rfl, h4, h5⟩ := h3 (by omega)
      have hc : wr.cell? ⟨b, off + k, none⟩ = some (.int .i64 xs[k]) := by rw [hb.cell (p := ⟨b, off + k, none⟩) h4, h5.int hlt]
      have hd' := hd.out
      rw [drop_at hlt] at hd'
      simp only [risB] at hd'
      have hs := prevOf_succ xs k hlt
      by_cases hin : inB xs[k] lo hi = true
      · by_cases hk0 : k = 0
        · subst hk0
          have HD : Hid (rising lo hi xs = risB lo hi (prevOf xs 1) (xs.drop 1)) := by rw [hs]; simpa [Hid, prevOf, hin] using hd'
          have hg : decide ((0 : Int) < ((0 : Nat) : Int)) = false := by simp
          simp only [Nat.add_zero] at hc
          generalize xs[0] = x at *
          clear hd hd' hs
          go_wp2
          go_quiet ((go_at_call 45; exact quiet_eq (s_l1In _ _ _ _)))
          go_wp2
          go_roundw
          case rel => exact ⟨1, by omega, by go_num, HD, Below.drewN' hb _⟩
          case measure => simp [intOf]; omega
        · have hk1 : k - 1 < xs.length := by omega
          have hp : prevOf xs k = some xs[k - 1] := by simp [prevOf, hk0, hk1]
          have hc' : wr.cell? ⟨b, off + (k - 1), none⟩ = some (.int .i64 xs[k - 1]) := by rw [hb.cell (p := ⟨b, off + (k - 1), none⟩) h4, h5.int hk1]
          have hg : 0 < k := by omega
          have hkk : ((k : Int) - 1).toNat = k - 1 := by omega
          rw [hp] at hd'
          by_cases hlt2 : xs[k - 1] < xs[k]
          · have HD : Hid (rising lo hi xs = risB lo hi (prevOf xs (k + 1)) (xs.drop (k + 1))) := by rw [hs]; simpa [Hid, hin, hlt2] using hd'
            have hg2 : decide (xs[k] ≤ xs[k - 1]) = false := by simp; omega
            generalize xs[k] = x at *
            generalize xs[k - 1] = y at *
            clear hd hd' hs hp
            go_wp2
            go_quiet ((go_at_call 45; exact quiet_eq (s_l1In _ _ _ _)))
            go_wp2
            go_roundw
            case rel => exact ⟨k + 1, by omega, by go_num, HD, Below.drewN' hb _⟩
            case measure => simp [intOf]; omega
          · have HD : Hid (rising lo hi xs = false) := by simpa [Hid, hin, hlt2] using hd'
            have hg2 : decide (xs[k] ≤ xs[k - 1]) = true := by simp; omega
            generalize xs[k] = x at *
            generalize xs[k - 1] = y at *
            clear hd hd' hs hp
            go_wp2
            go_quiet ((go_at_call 45; exact quiet_eq (s_l1In _ _ _ _)))
            go_wp2
            go_ret
            exact ⟨ret_bool HD.out.symm, Below.drewN' hb _⟩
      · have hin' : inB xs[k] lo hi = false := by simpa using hin
        have HD : Hid (rising lo hi xs = false) := by simpa [Hid, hin'] using hd'
        generalize xs[k] = x at *
        clear hd hd' hs hin
        go_wp2
        go_quiet ((go_at_call 45; exact quiet_eq (s_l1In _ _ _ _)))
        go_wp2
        go_ret
        exact ⟨ret_bool HD.out.symm, Below.drewN' hb _⟩
    · have HD : Hid (rising lo hi xs = true) := by
        have hd' := hd.out
        rw [List.drop_of_length_le (by omega)] at hd'
        simpa [Hid, risB] using hd'
      clear hd
      go_wp2
      go_ret
      exact ⟨ret_bool HD.out.symm, hb⟩

theorem i_ascending (v : Value) (xs : List Int) (lo hi : Int) (w : World) (h : IntsAt w v xs) :
    Calls Tryd.prog 48 #[v, .int .i64 lo, .int .i64 hi] w fun e w' => e = .returned (.bool (rising lo hi xs)) ∧ Below w.heap.size w w' := by
  obtain ⟨_, ao, cap, rfl, h1, h2, h3⟩ := h
  unfold maxLen at h2
  go_enter Tryd.func48, Tryd.ntmps48
  go_wp2
  go_loopw [11] (fun i wr => ∃ k : Nat, k ≤ xs.length ∧ i = .int .i64 k ∧ Hid (rising lo hi xs = risB lo hi (prevOf xs k) (xs.drop k)) ∧ Below w.heap.size w wr) (fun i _ => xs.length - (intOf i).toNat)
  case atStart => exact ⟨0, by omega, rfl, by simp [Hid, prevOf], Below.refl _ _⟩
  case round =>
    obtain ⟨k, hk, rfl, hd, hb⟩ := hrel
    by_cases hlt : k < xs.length
    · obtain ⟨b, off, rfl, h4, h5⟩ := h3 (by omega)
      have hc : wr.cell? ⟨b, off + k, none⟩ = some (.int .i64 xs[k]) := by rw [hb.cell (p := ⟨b, off + k, none⟩) h4, h5.int hlt]
      have hd' := hd.out
      rw [drop_at hlt] at hd'
      simp only [risB] at hd'
      have hs := prevOf_succ xs k hlt
      by_cases hin : inB xs[k] lo hi = true
      · by_cases hk0 : k = 0
        · subst hk0
          have HD : Hid (rising lo hi xs = risB lo hi (prevOf xs 1) (xs.drop 1)) := by rw [hs]; simpa [Hid, prevOf, hin] using hd'
          have hg : decide ((0 : Int) < ((0 : Nat) : Int)) = false := by simp
          simp only [Nat.add_zero] at hc
          generalize xs[0] = x at *
          clear hd hd' hs
          go_wp2_with (go_at_call 39; refine (i_inside _ _ _ _).mono ?_; rintro e w' ⟨rfl, rfl⟩)
          go_roundw
          case rel => exact ⟨1, by omega, by go_num, HD, hb⟩
          case measure => simp [intOf]; omega
        · have hk1 : k - 1 < xs.length := by omega
          have hp : prevOf xs k = some xs[k - 1] := by simp [prevOf, hk0, hk1]
          have hc' : wr.cell? ⟨b, off + (k - 1), none⟩ = some (.int .i64 xs[k - 1]) := by rw [hb.cell (p := ⟨b, off + (k - 1), none⟩) h4, h5.int hk1]
          have hg : 0 < k := by omega
          have hkk : ((k : Int) - 1).toNat = k - 1 := by omega
          rw [hp] at hd'
          by_cases hlt2 : xs[k - 1] < xs[k]
          · have HD : Hid (rising lo hi xs = risB lo hi (prevOf xs (k + 1)) (xs.drop (k + 1))) := by rw [hs]; simpa [Hid, hin, hlt2] using hd'
            have hg2 : decide (xs[k] ≤ xs[k - 1]) = false := by simp; omega
            generalize xs[k] = x at *
            generalize xs[k - 1] = y at *
            clear hd hd' hs hp
            go_wp2_with (go_at_call 39; refine (i_inside _ _ _ _).mono ?_; rintro e w' ⟨rfl, rfl⟩)
            go_roundw
            case rel => exact ⟨k + 1, by omega, by go_num, HD, hb⟩
            case measure => simp [intOf]; omega
          · have HD : Hid (rising lo hi xs = false) := by simpa [Hid, hin, hlt2] using hd'
            have hg2 : decide (xs[k] ≤ xs[k - 1]) = true := by simp; omega
            generalize xs[k] = x at *
            generalize xs[k - 1] = y at *
            clear hd hd' hs hp
            go_wp2_with (go_at_call 39; refine (i_inside _ _ _ _).mono ?_; rintro e w' ⟨rfl, rfl⟩)
            go_ret
            exact ⟨ret_bool HD.out.symm, hb⟩
      · have hin' : inB xs[k] lo hi = false := by simpa using hin
        have HD : Hid (rising lo hi xs = false) := by simpa [Hid, hin'] using hd'
        generalize xs[k] = x at *
        clear hd hd' hs hin
        go_wp2_with (go_at_call 39; refine (i_inside _ _ _ _).mono ?_; rintro e w' ⟨rfl, rfl⟩)
        go_ret
        exact ⟨ret_bool HD.out.symm, hb⟩
    · have HD : Hid (rising lo hi xs = true) := by
        have hd' := hd.out
        rw [List.drop_of_length_le (by omega)] at hd'
        simpa [Hid, risB] using hd'
      clear hd
      go_wp2
      go_ret
      exact ⟨ret_bool HD.out.symm, hb⟩

end Go.Proofs.YtjijcjcfefkpbaaDoor
