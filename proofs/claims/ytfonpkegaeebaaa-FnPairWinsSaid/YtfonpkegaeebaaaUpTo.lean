/- Contracts: the numbers 0 to n - 1. No conditions beyond sizes. -/
import Derived.Test.YtfonpkegaeebaaaPush
import Derived.Test.YtfonpkegaeebaaaIntS
namespace Go.Proofs.Ytfonpkegaeebaaa
open Go.RowKit
set_option linter.unusedVariables false
set_option linter.unusedSimpArgs false

theorem upFrom_push (k : Nat) : upFrom 0 (k + 1) = upFrom 0 k ++ [(k : Int)] := by simp [upFrom, List.range_succ]

set_option maxHeartbeats 1000000 in
theorem s_l13All (N : Nat) (w : World) (hN : N ≤ 1000) :
    Calls Try.prog 34 #[.int .i64 (N : Int)] w fun e w' => ∃ p, e = .returned p ∧ OwnInts w' w.heap.size p (upFrom 0 N) ∧ Below w.heap.size w w' := by
  have ho1 : OwnInts (w.alloc (.cells #[] 3)) w.heap.size _ (upFrom 0 0) := own_lit0 w 3
  have hb1 : Below w.heap.size w (w.alloc (.cells #[] 3)) := (Below.refl _ _).alloc (Nat.le_refl _) _
  go_enter Try.func34, Try.ntmps34
  go_wp2_with fail
  go_loopw [3, 4] (fun o i wr => ∃ k : Nat, k ≤ N ∧ i = .int .i64 k ∧ OwnInts wr w.heap.size o (upFrom 0 k) ∧ Below w.heap.size w wr) (fun _ i _ => N - (intOf i).toNat)
  case atStart => exact ⟨0, by omega, rfl, ho1, hb1⟩
  case round =>
    obtain ⟨k, hk, rfl, ho, hb⟩ := hrel
    by_cases hlt : k < N
    · have hp := Lib.hid (upFrom_push k)
      go_wp2_with (at_builtin; refine wpList_push_int rfl (.tmp 11) (.tmp 13) _ rfl _ 3 _ int_info Try.underlying27 _ _ (k : Int) rfl ho rfl hb.size (by simp; omega) ?_; intro u' w3 ho3 hb3)
      go_roundw
      case rel => exact ⟨k + 1, by omega, by go_num, by rw [hp.out]; exact ho3, hb.trans hb3⟩
      case measure => simp [intOf]; omega
    · obtain rfl : k = N := by omega
      go_wp2_with fail
      go_ret
      exact ⟨_, rfl, ho, hb⟩

set_option maxHeartbeats 1000000 in
theorem i_upTo (N : Nat) (w : World) (hN : N ≤ 1000) :
    Calls Try.prog 30 #[.int .i64 (N : Int)] w fun e w' => ∃ p, e = .returned p ∧ OwnInts w' w.heap.size p (upFrom 0 N) ∧ Below w.heap.size w w' := by
  have ho1 : OwnInts (w.alloc (.cells #[] 3)) w.heap.size _ (upFrom 0 0) := own_lit0 w 3
  have hb1 : Below w.heap.size w (w.alloc (.cells #[] 3)) := (Below.refl _ _).alloc (Nat.le_refl _) _
  go_enter Try.func30, Try.ntmps30
  go_wp2_with fail
  go_loopw [3, 7] (fun o i wr => ∃ k : Nat, k ≤ N ∧ i = .int .i64 k ∧ OwnInts wr w.heap.size o (upFrom 0 k) ∧ Below w.heap.size w wr) (fun _ i _ => N - (intOf i).toNat)
  case atStart => exact ⟨0, by omega, rfl, ho1, hb1⟩
  case round =>
    obtain ⟨k, hk, rfl, ho, hb⟩ := hrel
    by_cases hlt : k < N
    · have hp := Lib.hid (upFrom_push k)
      go_wp2_with (at_builtin; refine wpList_push_int rfl (.tmp 10) (.tmp 12) _ rfl _ 3 _ int_info Try.underlying27 _ _ (k : Int) rfl ho rfl hb.size (by simp; omega) ?_; intro u' w3 ho3 hb3)
      go_roundw
      case rel => exact ⟨k + 1, by omega, by go_num, by rw [hp.out]; exact ho3, hb.trans hb3⟩
      case measure => simp [intOf]; omega
    · obtain rfl : k = N := by omega
      go_wp2_with fail
      go_ret
      exact ⟨_, rfl, ho, hb⟩

end Go.Proofs.Ytfonpkegaeebaaa
