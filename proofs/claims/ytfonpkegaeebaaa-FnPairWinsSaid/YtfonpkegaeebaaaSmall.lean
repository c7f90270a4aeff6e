/- Contracts of small functions on ints: in a range, votes, tallies. No conditions. -/
import Derived.Test.YtfonpkegaeebaaaRows
import Derived.Test.YtfonpkegaeebaaaBase
namespace Go.Proofs.Ytfonpkegaeebaaa
open Go.RowKit
set_option linter.unusedVariables false
set_option linter.unusedSimpArgs false

theorem s_l1In (x a b : Int) (w : World) :
    Calls Try.prog 45 #[.int .i64 x, .int .i64 a, .int .i64 b] w fun e w' => e = .returned (.bool (inB x a b)) ∧ w = w' := by
  go_enter Try.func45, Try.ntmps45
  go_wp2
  all_goals go_ret
  all_goals (refine ⟨inB_eq ?_, rfl⟩; simp; omega)

theorem i_inside (x a b : Int) (w : World) :
    Calls Try.prog 43 #[.int .i64 x, .int .i64 a, .int .i64 b] w fun e w' => e = .returned (.bool (inB x a b)) ∧ w = w' := by
  go_enter Try.func43, Try.ntmps43
  go_wp2
  all_goals go_ret
  all_goals (refine ⟨inB_eq ?_, rfl⟩; simp; omega)

/-- A tally's numbers are valid. -/
def tallyOk (y n a : Int) : Bool := inB y 0 1000 && inB n 0 1000 && inB a 0 1000
abbrev vTally (y n a : Int) : Value := .agg #[.int .i64 y, .int .i64 n, .int .i64 a]
theorem tallyOk_iff {y n a : Int} : tallyOk y n a = true ↔ (0 ≤ y ∧ y ≤ 1000) ∧ (0 ≤ n ∧ n ≤ 1000) ∧ (0 ≤ a ∧ a ≤ 1000) := by
  simp [tallyOk, inB, and_assoc]

def risB (lo hi : Int) : Option Int → List Int → Bool
  | _, [] => true
  | p, x :: r => inB x lo hi && (match p with | none => true | some y => decide (y < x)) && risB lo hi (some x) r
abbrev rising (lo hi : Int) (xs : List Int) : Bool := risB lo hi none xs
/-- the element ahead of place k -/
def prevOf (xs : List Int) (k : Nat) : Option Int := if k = 0 then none else xs[k - 1]?
theorem prevOf_succ (xs : List Int) (k : Nat) (h : k < xs.length) : prevOf xs (k + 1) = some xs[k] := by simp [prevOf, h]

theorem quiet_eq {P : Program} {f : FuncId} {args : Array Value} {w : World} {n : Nat} {v : Value}
    (h : Calls P f args (w.drewN n) fun e w' => e = .returned v ∧ w.drewN n = w') : Calls P f args (w.drewN n) fun e w'' => e = .returned v ∧ ∃ m, w'' = w.drewN m :=
  h.mono fun _ _ ⟨he, hm⟩ => ⟨he, n, hm.symm⟩

end Go.Proofs.Ytfonpkegaeebaaa
