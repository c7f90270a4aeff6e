/- Contracts: IsInOrder, OutcomeOf, the reference's and the program's. No conditions. -/
import Derived.Test.YtbphodmcajlpmaaPointL
namespace Go.Proofs.Ytbphodmcajlpmaa
open Go.RowKit
set_option linter.unusedVariables false
set_option linter.unusedSimpArgs false

/-- Whether nothing is to be done with points. -/
def calm (xs : List DPoint) : Bool := match xs.getLast? with | some p => !opened p | none => true
theorem calm_nil {xs : List DPoint} (h : xs.length = 0) : calm xs = true := by
  obtain rfl := List.eq_nil_of_length_eq_zero h; rfl
theorem calm_last {xs : List DPoint} {k : Nat} (hk : k < xs.length) (h : k + 1 = xs.length) : calm xs = !opened xs[k] := by
  have : xs.getLast? = some xs[k] := by
    rw [List.getLast?_eq_getElem?, ← h]; simp
  simp [calm, this]
/-- The outcome of a point, and whether there is one. -/
def outP (xs : List DPoint) (i : Int) : Bool × Bool :=
  if pointsOk xs && inB i 0 ((xs.length : Int) - 1) then (match xs[i.toNat]? with | some p => if opened p then (false, false) else (p.tk != revd p, true) | none => (false, false)) else (false, false)
theorem outP_at {xs : List DPoint} {k : Nat} (hk : k < xs.length) (hok : pointsOk xs = true) (hi : inB (k : Int) 0 ((xs.length : Int) - 1) = true) : outP xs k = if opened xs[k] then (false, false) else (xs[k].tk != revd xs[k], true) := by
  simp [outP, hok, hi, List.getElem?_eq_getElem hk]

end Go.Proofs.Ytbphodmcajlpmaa
