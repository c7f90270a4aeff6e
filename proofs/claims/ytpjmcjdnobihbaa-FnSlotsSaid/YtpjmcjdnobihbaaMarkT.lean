/- Contracts: the laws' marks that are texts; marks on slices of texts; eq, held. No conditions beyond sizes. -/
import Derived.Test.YtpjmcjdnobihbaaCommB
import Derived.Test.YtpjmcjdnobihbaaNestM
import Derived.Laws.IdiomStrings
namespace Go.Proofs.Ytpjmcjdnobihbaa
open Go.RowKit
set_option linter.unusedVariables false
set_option linter.unusedSimpArgs false

def digS (x : Int) : ByteArray := ⟨#[UInt8.ofNat (48 + x % 10).toNat]⟩
/-- The digits of x ahead of a text. -/
def mtF : Nat → Int → ByteArray → ByteArray
  | 0, _, out => out
  | f + 1, x, out => if 0 < x then mtF f (x / 10) (digS x ++ out) else out
theorem mtF_go {f : Nat} {x : Int} {out : ByteArray} (h : 0 < x) : mtF (f + 1) x out = mtF f (x / 10) (digS x ++ out) := if_pos h
theorem mtF_stop {f : Nat} {x : Int} {out : ByteArray} (h : ¬ 0 < x) : mtF f x out = out := by
  cases f with
  | zero => rfl
  | succ f => exact if_neg h
theorem ret_str {a b : ByteArray} (h : a = b) : Ending.returned (.string a) = .returned (.string b) := by rw [h]
def mt (k : Int) : ByteArray := if k ≤ 0 then ⟨#[109, 48]⟩ else ⟨#[109]⟩ ++ mtF 64 k ⟨#[]⟩

/-- The marks from k on, n of them. -/
def mtFrom (k : Int) (n : Nat) : List ByteArray := (List.range n).map fun (i : Nat) => mt (k + (i : Int))
@[simp] theorem mtFrom_length (k : Int) (n : Nat) : (mtFrom k n).length = n := by simp [mtFrom]
theorem mtFrom_get (k : Int) (n i : Nat) (h : i < n) : (mtFrom k n)[i]'(by simpa using h) = mt (k + i) := by simp [mtFrom]
theorem mt_step (cs : List Value) (k : Int) (n i : Nat) (h : i < n) (hn : cs.length = n) :
    (strs (mtFrom k i) ++ cs.drop i).set i (.string (mt (k + i))) = strs (mtFrom k (i + 1)) ++ cs.drop (i + 1) := by
  rw [drop_at (by omega), set_mid _ _ _ _ _ (by simp)]
  simp [strs, mtFrom, List.range_succ]
theorem strs_one (xs : List ByteArray) : ∀ u ∈ strs xs, u.oneCell' = true := by
  intro u hu
  simp only [strs, List.mem_map] at hu
  obtain ⟨s, _, rfl⟩ := hu
  rfl

abbrev OwnSR (w : World) (lo hi : Nat) (v : Value) (xs : List ByteArray) : Prop := OwnIn 9 1 lo hi w v xs.length (strs xs)
theorem OwnSR.at_ {lo hi : Nat} {w : World} {v : Value} {xs : List ByteArray} (h : OwnSR w lo hi v xs) : StrsAt w v xs := OwnIn.at_ h
theorem OwnStrs.toR {B : Nat} {w : World} {v : Value} {xs : List ByteArray} (h : OwnStrs w B v xs) : OwnSR w B w.heap.size v xs := OwnIn.of h
theorem OwnSR.keep {lo hi : Nat} {w w' : World} {v : Value} {xs : List ByteArray} (h : OwnSR w lo hi v xs) (hs : SameIn lo hi w w') : OwnSR w' lo hi v xs := OwnIn.keep h hs
theorem OwnSR.hiLe {lo hi : Nat} {w : World} {v : Value} {xs : List ByteArray} (h : OwnSR w lo hi v xs) : hi ≤ w.heap.size := h.2.2

end Go.Proofs.Ytpjmcjdnobihbaa
