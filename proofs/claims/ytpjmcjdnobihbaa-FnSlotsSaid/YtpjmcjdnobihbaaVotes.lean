/- Contracts: sums, votes, greatest common divisors. No conditions beyond sizes. -/
import Derived.Test.YtpjmcjdnobihbaaIntS
import Derived.Test.YtpjmcjdnobihbaaSmall
import Derived.Test.YtpjmcjdnobihbaaIdxF
namespace Go.Proofs.Ytpjmcjdnobihbaa
open Go.RowKit
set_option linter.unusedVariables false
set_option linter.unusedSimpArgs false

/-- All numbers of a list lie in a range. -/
abbrev allIn (lo hi : Int) (xs : List Int) : Bool := xs.all fun x => inB x lo hi
theorem allIn_iff {lo hi : Int} {xs : List Int} : allIn lo hi xs = true ↔ ∀ x ∈ xs, lo ≤ x ∧ x ≤ hi := by simp [allIn, inB]

theorem sum_bound (c : Int) (xs : List Int) (h : ∀ x ∈ xs, 0 ≤ x ∧ x ≤ c) : 0 ≤ xs.sum ∧ xs.sum ≤ c * xs.length := by
  induction xs with
  | nil => simp
  | cons a r ih =>
    have h1 := h a (by simp)
    have h2 := ih (fun x hx => h x (by simp [hx]))
    simp only [List.sum_cons, List.length_cons]
    have : c * ((r.length + 1 : Nat) : Int) = c * r.length + c := by simp [Int.mul_add]
    omega

/-- Votes are valid. -/
def votesOk (xs : List Int) : Bool := inB xs.length 1 8 && allIn 0 10000 xs && decide (0 < xs.sum)

end Go.Proofs.Ytpjmcjdnobihbaa
