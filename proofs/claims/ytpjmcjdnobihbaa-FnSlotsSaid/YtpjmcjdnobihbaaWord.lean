/- Contracts: whether a text is a word. No conditions beyond sizes. -/
import Derived.Test.YtpjmcjdnobihbaaSmall
import Derived.Test.YtpjmcjdnobihbaaMem
namespace Go.Proofs.Ytpjmcjdnobihbaa
open Go.RowKit
set_option linter.unusedVariables false
set_option linter.unusedSimpArgs false

def chB (c : UInt8) : Bool := decide (97 ≤ (c.toNat : Int)) && decide ((c.toNat : Int) ≤ 122)
def lettersB (l : List UInt8) : Bool := l.all chB
def wordB (s : ByteArray) : Bool := lettersB s.data.toList && inB s.size 1 10
theorem bytes_at (s : ByteArray) (k : Nat) (h : k < s.size) : s.data.toList.drop k = s[k] :: s.data.toList.drop (k + 1) := by
  rw [List.drop_eq_getElem_cons (by simpa using h)]; rfl
theorem letters_at (s : ByteArray) (k : Nat) (h : k < s.size) : lettersB (s.data.toList.drop k) = (chB s[k] && lettersB (s.data.toList.drop (k + 1))) := by
  rw [bytes_at s k h]; simp [lettersB]

set_option maxHeartbeats 1000000 in
theorem i_isWord (s : ByteArray) (w : World) (hs : s.size ≤ 1048576) :
    Calls Try.prog 57 #[.string s] w fun e w' => e = .returned (.bool (wordB s)) ∧ w = w' := by
  go_enter Try.func57, Try.ntmps57
  go_wp2_with fail
  go_loop [3] (fun i => ∃ k : Nat, k ≤ s.size ∧ i = .int .i64 k ∧ Hid (lettersB s.data.toList = lettersB (s.data.toList.drop k))) (fun i => s.size - (intOf i).toNat)
  case atStart => exact ⟨0, by omega, rfl, by simp [Hid]⟩
  case round =>
    obtain ⟨k, hk, rfl, hd⟩ := hrel
    by_cases hlt : k < s.size
    · have hd' := hd.out
      rw [letters_at s k hlt] at hd'
      clear hd
      by_cases h1 : (s[k].toNat : Int) < 97
      · have hc : chB s[k] = false := by simp only [chB]; rw [decide_eq_false (by omega)]; rfl
        have HD : Hid (wordB s = false) := by simp [Hid, wordB, hd', hc]
        clear hd' hc
        go_wp2_with fail
        go_ret
        exact ⟨ret_bool HD.out.symm, rfl⟩
      · by_cases h2 : 122 < (s[k].toNat : Int)
        · have hc : chB s[k] = false := by simp only [chB]; rw [decide_eq_false (p := (s[k].toNat : Int) ≤ 122) (by omega)]; simp
          have HD : Hid (wordB s = false) := by simp [Hid, wordB, hd', hc]
          clear hd' hc
          go_wp2_with fail
          go_ret
          exact ⟨ret_bool HD.out.symm, rfl⟩
        · have hc : chB s[k] = true := by simp only [chB]; rw [decide_eq_true (by omega), decide_eq_true (by omega)]; rfl
          have HD : Hid (lettersB s.data.toList = lettersB (s.data.toList.drop (k + 1))) := by simpa [Hid, hc] using hd'
          clear hd' hc
          go_wp2_with fail
          go_round
          case rel => exact ⟨k + 1, by omega, by go_num, HD⟩
          case measure => simp [intOf]; omega
    · have HD : Hid (wordB s = inB s.size 1 10) := by
        have := hd.out
        rw [List.drop_of_length_le (by simp; omega)] at this
        have h0 : lettersB s.data.toList = true := by rw [this]; rfl
        simp only [Hid, wordB]
        rw [h0, Bool.true_and]
      clear hd
      go_wp2_with (go_at_call 58; refine (i_inside _ _ _ _).mono ?_; rintro e w' ⟨rfl, rfl⟩)
      go_ret
      exact ⟨ret_bool (by rw [HD.out]), rfl⟩

set_option maxHeartbeats 1000000 in
theorem s_l2Word (s : ByteArray) (w : World) (hs : s.size ≤ 1048576) :
    Calls Try.prog 87 #[.string s] w fun e w' => e = .returned (.bool (wordB s)) ∧ w = w' := by
  go_enter Try.func87, Try.ntmps87
  go_wp2_with fail
  go_loop [3] (fun i => ∃ k : Nat, k ≤ s.size ∧ i = .int .i64 k ∧ Hid (lettersB s.data.toList = lettersB (s.data.toList.drop k))) (fun i => s.size - (intOf i).toNat)
  case atStart => exact ⟨0, by omega, rfl, by simp [Hid]⟩
  case round =>
    obtain ⟨k, hk, rfl, hd⟩ := hrel
    by_cases hlt : k < s.size
    · have hd' := hd.out
      rw [letters_at s k hlt] at hd'
      clear hd
      by_cases h1 : (s[k].toNat : Int) < 97
      · have hc : chB s[k] = false := by simp only [chB]; rw [decide_eq_false (by omega)]; rfl
        have HD : Hid (wordB s = false) := by simp [Hid, wordB, hd', hc]
        clear hd' hc
        go_wp2_with fail
        go_ret
        exact ⟨ret_bool HD.out.symm, rfl⟩
      · by_cases h2 : 122 < (s[k].toNat : Int)
        · have hc : chB s[k] = false := by simp only [chB]; rw [decide_eq_false (p := (s[k].toNat : Int) ≤ 122) (by omega)]; simp
          have HD : Hid (wordB s = false) := by simp [Hid, wordB, hd', hc]
          clear hd' hc
          go_wp2_with fail
          go_ret
          exact ⟨ret_bool HD.out.symm, rfl⟩
        · have hc : chB s[k] = true := by simp only [chB]; rw [decide_eq_true (by omega), decide_eq_true (by omega)]; rfl
          have HD : Hid (lettersB s.data.toList = lettersB (s.data.toList.drop (k + 1))) := by simpa [Hid, hc] using hd'
          clear hd' hc
          go_wp2_with fail
          go_round
          case rel => exact ⟨k + 1, by omega, by go_num, HD⟩
          case measure => simp [intOf]; omega
    · have HD : Hid (wordB s = inB s.size 1 10) := by
        have := hd.out
        rw [List.drop_of_length_le (by simp; omega)] at this
        have h0 : lettersB s.data.toList = true := by rw [this]; rfl
        simp only [Hid, wordB]
        rw [h0, Bool.true_and]
      clear hd
      go_wp2_with (go_at_call 80; refine (s_l1In _ _ _ _).mono ?_; rintro e w' ⟨rfl, rfl⟩)
      go_ret
      exact ⟨ret_bool (by rw [HD.out]), rfl⟩

end Go.Proofs.Ytpjmcjdnobihbaa
