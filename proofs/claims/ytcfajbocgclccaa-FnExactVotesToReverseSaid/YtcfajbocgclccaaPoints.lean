/- Contracts: votes that reverse a ruling. -/
import Derived.Test.YtcfajbocgclccaaSmall
namespace Go.Proofs.Ytcfajbocgclccaa
open Go.RowKit
set_option linter.unusedVariables false
set_option linter.unusedSimpArgs false

/-- From n on: the first number of votes that reverse, with some fuel. -/
def revFrom (yes no : Int) : Nat → Int → Int × Bool
  | 0, _ => (0, false)
  | f + 1, n => if n ≤ yes then (if yes - n < no + n then (n, true) else revFrom yes no f (n + 1)) else (0, false)
def revN (yes no ab : Int) : Int × Bool := if tallyOk yes no ab then revFrom yes no 1002 0 else (0, false)

theorem s_VotesToReverse (yes no ab : Int) (w : World) :
    Calls Try.prog 10 #[vTally yes no ab] w fun e w' => e = .returned (.tuple #[.int .i64 (revN yes no ab).1, .bool (revN yes no ab).2]) ∧ Below w.heap.size w w' := by
  cases hok : tallyOk yes no ab with
  | false =>
    have HO := Lib.hid hok
    go_enter Try.func10, Try.ntmps10
    go_wp2_with (go_at_call 30; refine (s_l11Good _ _ _ _).mono ?_; rw [HO.out]; rintro e w1 ⟨rfl, hb1⟩)
    go_ret2
    exact ⟨ret_ib (by simp [revN, HO.out]) (by simp [revN, HO.out]), below_al hb1 (by simp)⟩
  | true =>
    obtain ⟨⟨y0, y1⟩, ⟨n0, n1⟩, _⟩ := tallyOk_iff.1 hok
    have HO := Lib.hid hok; clear hok
    have HR : Hid (revN yes no ab = revFrom yes no 1002 0) := by simp [Hid, revN, HO.out]
    go_enter Try.func10, Try.ntmps10
    go_wp2_with (go_at_call 30; refine (s_l11Good _ _ _ _).mono ?_; rw [HO.out]; rintro e w1 ⟨rfl, hb1⟩; obtain ⟨hbc, hbf⟩ := bcell hb1)
    have hB := below_al hb1 (by simp)
    go_loop [4] (fun n => ∃ k : Nat, (k : Int) ≤ yes + 1 ∧ n = .int .i64 k ∧ Hid (revN yes no ab = revFrom yes no (1002 - k) k)) (fun n => (1002 - intOf n).toNat)
    case atStart => exact ⟨0, by omega, rfl, HR.out⟩
    case round =>
      obtain ⟨k, hk, rfl, hd⟩ := hrel
      have hd' := hd.out
      obtain ⟨f, hf⟩ : ∃ f, 1002 - k = f + 1 := ⟨1001 - k, by omega⟩
      rw [hf, revFrom] at hd'
      clear hd
      by_cases hlt : (k : Int) ≤ yes
      · rw [if_pos hlt] at hd'
        by_cases hrev : yes - k < no + k
        · rw [if_pos hrev] at hd'
          have HD := Lib.hid hd'; clear hd' hf
          go_wp2
          go_ret2
          exact ⟨ret_ib (by rw [HD.out]) (by rw [HD.out]), hB⟩
        · rw [if_neg hrev] at hd'
          have HD : Hid (revN yes no ab = revFrom yes no (1002 - (k + 1)) ((k + 1 : Nat) : Int)) := by
            have e : 1002 - (k + 1) = f := by omega
            simp only [Hid]; rw [hd', e]; rfl
          clear hd' hf
          go_wp2
          go_round
          case rel => exact ⟨k + 1, by omega, by go_num, HD⟩
          case measure => simp [intOf]; omega
      · rw [if_neg hlt] at hd'
        have HD := Lib.hid hd'; clear hd' hf
        go_wp2
        go_ret2
        exact ⟨ret_ib (by rw [HD.out]) (by rw [HD.out]), hB⟩

theorem i_VotesToReverse (yes no ab : Int) (w : World) :
    Calls Try.prog 12 #[vTally yes no ab] w fun e w' => e = .returned (.tuple #[.int .i64 (revN yes no ab).1, .bool (revN yes no ab).2]) ∧ Below w.heap.size w w' := by
  cases hok : tallyOk yes no ab with
  | false =>
    have HO := Lib.hid hok
    go_enter Try.func12, Try.ntmps12
    go_wp2_with (go_at_call 31; refine (i_IsValidTally _ _ _ _).mono ?_; rw [HO.out]; rintro e w1 ⟨rfl, hb1⟩)
    go_ret2
    exact ⟨ret_ib (by simp [revN, HO.out]) (by simp [revN, HO.out]), below_al hb1 (by simp)⟩
  | true =>
    obtain ⟨⟨y0, y1⟩, ⟨n0, n1⟩, _⟩ := tallyOk_iff.1 hok
    have HO := Lib.hid hok; clear hok
    have HR : Hid (revN yes no ab = revFrom yes no 1002 0) := by simp [Hid, revN, HO.out]
    go_enter Try.func12, Try.ntmps12
    go_wp2_with (go_at_call 31; refine (i_IsValidTally _ _ _ _).mono ?_; rw [HO.out]; rintro e w1 ⟨rfl, hb1⟩; obtain ⟨hbc, hbf⟩ := bcell hb1)
    have hB := below_al hb1 (by simp)
    go_loop [4] (fun n => ∃ k : Nat, (k : Int) ≤ yes + 1 ∧ n = .int .i64 k ∧ Hid (revN yes no ab = revFrom yes no (1002 - k) k)) (fun n => (1002 - intOf n).toNat)
    case atStart => exact ⟨0, by omega, rfl, HR.out⟩
    case round =>
      obtain ⟨k, hk, rfl, hd⟩ := hrel
      have hd' := hd.out
      obtain ⟨f, hf⟩ : ∃ f, 1002 - k = f + 1 := ⟨1001 - k, by omega⟩
      rw [hf, revFrom] at hd'
      clear hd
      by_cases hlt : (k : Int) ≤ yes
      · rw [if_pos hlt] at hd'
        by_cases hrev : yes - k < no + k
        · rw [if_pos hrev] at hd'
          have HD := Lib.hid hd'; clear hd' hf
          go_wp2
          go_ret2
          exact ⟨ret_ib (by rw [HD.out]) (by rw [HD.out]), hB⟩
        · rw [if_neg hrev] at hd'
          have HD : Hid (revN yes no ab = revFrom yes no (1002 - (k + 1)) ((k + 1 : Nat) : Int)) := by
            have e : 1002 - (k + 1) = f := by omega
            simp only [Hid]; rw [hd', e]; rfl
          clear hd' hf
          go_wp2
          go_round
          case rel => exact ⟨k + 1, by omega, by go_num, HD⟩
          case measure => simp [intOf]; omega
      · rw [if_neg hlt] at hd'
        have HD := Lib.hid hd'; clear hd' hf
        go_wp2
        go_ret2
        exact ⟨ret_ib (by rw [HD.out]) (by rw [HD.out]), hB⟩

end Go.Proofs.Ytcfajbocgclccaa
