/- Contracts on sessions: the members that are missing for a quorum. No conditions. -/
import Derived.Test.YtjijcjcfefkpbaaDoorSess
namespace Go.Proofs.YtjijcjcfefkpbaaDoor
open Go.RowKit
set_option linter.unusedVariables false
set_option linter.unusedSimpArgs false

/-- What MissingMembers returns. -/
def missV (en nu de : Int) (pr : List Int) (re : Int) : Int := if sessOk en nu de pr re then max 0 (leastQ en nu de - pr.length) else 0

theorem s_l1Most (a b : Int) (w : World) :
    Calls Tryd.prog 32 #[.int .i64 a, .int .i64 b] w fun e w' => e = .returned (.int .i64 (max a b)) ∧ w = w' := by
  by_cases h : b < a
  · go_enter Tryd.func32, Tryd.ntmps32
    go_wp2
    go_ret
    exact ⟨ret_int (by omega), rfl⟩
  · go_enter Tryd.func32, Tryd.ntmps32
    go_wp2
    go_ret
    exact ⟨ret_int (by omega), rfl⟩

end Go.Proofs.YtjijcjcfefkpbaaDoor
