/- Contracts of the laws' helpers on slices of ints: to, eq, sz, mark, held. No conditions beyond sizes. -/
import Derived.Test.YtpjmcjdnobihbaaRows
import Derived.Test.YtpjmcjdnobihbaaBase
namespace Go.Proofs.Ytpjmcjdnobihbaa
open Go.RowKit
set_option linter.unusedVariables false
set_option linter.unusedSimpArgs false

theorem int_info : (Try.prog.info? 3).map (fun i => (i.zero, i.size, i.bytes)) = some (some (.int .i64 0), 1, 8) := by kernel_rfl

abbrev OwnInts (w : World) (B : Nat) (v : Value) (xs : List Int) : Prop := OwnI 3 w B v xs

/-- The numbers from k on, n of them. -/
def upFrom (k : Int) (n : Nat) : List Int := (List.range n).map fun (i : Nat) => k + (i : Int)
@[simp] theorem upFrom_length (k : Int) (n : Nat) : (upFrom k n).length = n := by simp [upFrom]
theorem upFrom_get (k : Int) (n i : Nat) (h : i < n) : (upFrom k n)[i]'(by simpa using h) = k + i := by simp [upFrom]

end Go.Proofs.Ytpjmcjdnobihbaa
