/- Contract: math/bits.OnesCount at small numbers. Condition: fewer than 32. -/
import Derived.Test.YtgjgdephpliolaaRankD
namespace Go.Proofs.Ytgjgdephpliolaa
open Go.RowKit
set_option linter.unusedVariables false
set_option linter.unusedSimpArgs false

theorem OnesCount64_c (m : Nat) (hm : m < 32) (w : World) :
    Calls Try.prog 82 #[.int .u64 (m : Int)] w fun e w' => e = .returned (.int .i64 (pc 5 m : Nat)) ∧ w = w' := by
  go_enter Try.func82, Try.ntmps82
  go_wp2
  go_ret
  refine ⟨ret_int ?_, rfl⟩
  clear w
  revert m
  decide +kernel

theorem OnesCount_c (m : Nat) (hm : m < 32) (w : World) :
    Calls Try.prog 47 #[.int .u64 (m : Int)] w fun e w' => e = .returned (.int .i64 (pc 5 m : Nat)) ∧ w = w' := by
  go_enter Try.func47, Try.ntmps47
  go_wp2_with (go_at_call 82; refine (OnesCount64_c m hm _).mono ?_; rintro e w' ⟨rfl, rfl⟩)
  go_ret
  exact ⟨rfl, rfl⟩
end Go.Proofs.Ytgjgdephpliolaa
