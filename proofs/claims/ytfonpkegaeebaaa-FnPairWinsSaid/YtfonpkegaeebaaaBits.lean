/- Sets as bits of a number. Of no program. No conditions. -/
import Derived.Test.YtfonpkegaeebaaaBase
namespace Go.Proofs.Ytfonpkegaeebaaa
open Go.RowKit
set_option linter.unusedVariables false
set_option linter.unusedSimpArgs false

/-- The groups of a set, of the first k; and their seats. -/
def pickL (m : Nat) : Nat → List Int
  | 0 => []
  | k + 1 => if m.testBit k then pickL m k ++ [(k : Int)] else pickL m k
def pickS (rs : List Int) (m : Nat) : Nat → Int
  | 0 => 0
  | k + 1 => if m.testBit k then pickS rs m k + rs.getD k 0 else pickS rs m k
theorem pickL_len (m k : Nat) : (pickL m k).length ≤ k := by
  induction k with
  | zero => simp [pickL]
  | succ k ih =>
    simp only [pickL]
    split
    · simp; omega
    · omega

/-- The bit of a set. -/
theorem i64_and1 (n : Int) : bits .and .i64 n 1 = n % 2 := by
  have h1 : (BitVec.ofInt 64 1).toNat = 2 ^ 1 - 1 := by decide
  have key : (BitVec.ofInt 64 n &&& BitVec.ofInt 64 1).toNat = (n % ((2 ^ 64 : Nat) : Int)).toNat % 2 ^ 1 := by
    rw [BitVec.toNat_and, BitVec.toNat_ofInt, h1, Nat.and_two_pow_sub_one_eq_mod]
  show IntKind.i64.wrap ((BitVec.ofInt 64 n &&& BitVec.ofInt 64 1).toNat : Nat) = n % 2
  rw [key, IntKind.wrap_i64]
  omega
theorem bit_at (m k : Nat) : bits .and .i64 ((m : Int) / 2 ^ k) 1 = if m.testBit k then 1 else 0 := by
  rw [i64_and1, Nat.testBit_eq_decide_div_mod_eq]
  have e : (m : Int) / 2 ^ k = ((m / 2 ^ k : Nat) : Int) := by push_cast; rfl
  rw [e]
  generalize m / 2 ^ k = q
  by_cases h : q % 2 = 1
  · simp [h]; omega
  · simp [h]; omega
theorem bit_on {m k : Nat} (h : m.testBit k = true) : bits .and .i64 ((m : Int) / 2 ^ k) 1 = 1 := by rw [bit_at, if_pos h]
theorem bit_off {m k : Nat} (h : m.testBit k = false) : bits .and .i64 ((m : Int) / 2 ^ k) 1 = 0 := by rw [bit_at, h]; rfl

end Go.Proofs.Ytfonpkegaeebaaa
