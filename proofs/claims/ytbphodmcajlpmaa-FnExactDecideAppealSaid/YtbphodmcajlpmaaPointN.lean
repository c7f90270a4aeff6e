/- Contracts: RaisePoint, ReversedPoints, the reference's and the program's. No conditions. -/
import Derived.Test.YtbphodmcajlpmaaPointQ
import Derived.Test.YtbphodmcajlpmaaPointR
import Derived.Test.YtbphodmcajlpmaaInts2
import Derived.Test.YtbphodmcajlpmaaPush
namespace Go.Proofs.Ytbphodmcajlpmaa
open Go.RowKit
set_option linter.unusedVariables false
set_option linter.unusedSimpArgs false

theorem pcs_one (xs : List DPoint) : ∀ u ∈ pcs xs, u.oneCell' = true := by
  intro u hu
  simp only [pcs, List.mem_flatMap] at hu
  obtain ⟨p, _, hp⟩ := hu
  simp only [DPoint.cs, List.mem_cons, List.not_mem_nil, or_false] at hp
  rcases hp with rfl | rfl | rfl | rfl | rfl | rfl | rfl <;> rfl
theorem pointsOk_len {xs : List DPoint} (h : pointsOk xs = true) : xs.length ≤ 6 := by
  simp only [pointsOk, Bool.and_eq_true, decide_eq_true_eq] at h; exact h.1

/-- The places of the reversed points among the first k. -/
def revL (xs : List DPoint) : Nat → List Int
  | 0 => []
  | k + 1 => revL xs k ++ (match xs[k]? with | some p => if revd p then [(k : Int)] else [] | none => [])
theorem revL_len (xs : List DPoint) (k : Nat) : (revL xs k).length ≤ k := by
  induction k with
  | zero => simp [revL]
  | succ k ih =>
    simp only [revL, List.length_append]
    have : (match xs[k]? with | some p => if revd p then [(k : Int)] else [] | none => [] : List Int).length ≤ 1 := by split <;> (try split) <;> simp
    omega
theorem revL_on {xs : List DPoint} {k : Nat} (hk : k < xs.length) (h : revd xs[k] = true) : revL xs (k + 1) = revL xs k ++ [(k : Int)] := by simp [revL, List.getElem?_eq_getElem hk, h]
theorem revL_off {xs : List DPoint} {k : Nat} (hk : k < xs.length) (h : revd xs[k] = false) : revL xs (k + 1) = revL xs k := by simp [revL, List.getElem?_eq_getElem hk, h]
def revP (xs : List DPoint) : List Int × Bool := if pointsOk xs then (revL xs xs.length, true) else ([], false)
theorem revP_len (xs : List DPoint) : (revP xs).1.length ≤ 4000000 := by
  unfold revP
  split
  · rename_i h; have := revL_len xs xs.length; have := pointsOk_len h; simp; omega
  · simp

/-- RaisePoint. -/
def raiseP (xs : List DPoint) (m : Int) : List DPoint × Bool :=
  if pointsOk xs && memB m && (xs.length != 6) && calm xs then (xs ++ [⟨m, 1, false, 0, 0, 0, 0⟩], true) else ([], false)
theorem raiseP_len (xs : List DPoint) (m : Int) : (raiseP xs m).1.length ≤ 4000000 := by
  unfold raiseP
  split
  · rename_i h
    simp only [Bool.and_eq_true] at h
    have := pointsOk_len h.1.1.1
    simp; omega
  · simp

end Go.Proofs.Ytbphodmcajlpmaa
