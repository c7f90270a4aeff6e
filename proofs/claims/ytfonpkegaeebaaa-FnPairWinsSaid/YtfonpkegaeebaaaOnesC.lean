/- Contract: math/bits.OnesCount at small numbers. Condition: fewer than 32. -/
import Derived.Test.YtfonpkegaeebaaaRankD
namespace Go.Proofs.Ytfonpkegaeebaaa
open Go.RowKit
set_option linter.unusedVariables false
set_option linter.unusedSimpArgs false

theorem OnesCount64_c (m : Nat) (hm : m < 32) (w : World) :
    Calls Try.prog 51 #[.int .u64 (m : Int)] w fun e w' => e = .returned (.int .i64 (pc 5 m : Nat)) ∧ w = w' := by
  go_enter Try.func51, Try.ntmps51
  go_wp2
  go_ret
  refine ⟨ret_int ?_, rfl⟩
  clear w
  revert m
  decide +kernel

theorem OnesCount_c (m : Nat) (hm : m < 32) (w : World) :
    Calls Try.prog 28 #[.int .u64 (m : Int)] w fun e w' => e = .returned (.int .i64 (pc 5 m : Nat)) ∧ w = w' := by
  go_enter Try.func28, Try.ntmps28
  go_wp2_with (go_at_call 51; refine (OnesCount64_c m hm _).mono ?_; rintro e w' ⟨rfl, rfl⟩)
  go_ret
  exact ⟨rfl, rfl⟩
end Go.Proofs.Ytfonpkegaeebaaa
