/- Contracts: copies of slices of ints, membership, removal; marks within bounds. No conditions beyond sizes. -/
import Derived.Test.YtgdagejchgkopaaIntS
import Derived.Test.YtgdagejchgkopaaMem
namespace Go.Proofs.Ytgdagejchgkopaa
open Go.RowKit
set_option linter.unusedVariables false
set_option linter.unusedSimpArgs false

/-- A number is in a list. -/
def hasB (xs : List Int) (n : Int) : Bool := xs.contains n
theorem hasB_iff {xs : List Int} {n : Int} : hasB xs n = true ↔ n ∈ xs := by simp [hasB]

/-- The marks of a slice of ints, within bounds. -/
def OwnR (e : TypeId) (w : World) (lo hi : Nat) (v : Value) (xs : List Int) : Prop := OwnIn e 1 lo hi w v xs.length (ints xs)
theorem OwnR.of {e B : Nat} {w : World} {v : Value} {xs : List Int} (h : OwnI e w B v xs) : OwnR e w B w.heap.size v xs := OwnIn.of h
theorem OwnR.keep {e lo hi : Nat} {w w' : World} {v : Value} {xs : List Int} (h : OwnR e w lo hi v xs) (hs : SameIn lo hi w w') : OwnR e w' lo hi v xs := OwnIn.keep h hs
theorem OwnR.at_ {e lo hi : Nat} {w : World} {v : Value} {xs : List Int} (h : OwnR e w lo hi v xs) : IntsAt w v xs := OwnIn.at_ h

theorem OwnI.toR {e B : Nat} {w : World} {v : Value} {xs : List Int} (h : OwnI e w B v xs) : OwnR e w B w.heap.size v xs := OwnIn.of h
theorem OwnR.hiLe {e lo hi : Nat} {w : World} {v : Value} {xs : List Int} (h : OwnR e w lo hi v xs) : hi ≤ w.heap.size := h.2.2

theorem heldIntS_n (v : Value) (xs : List Int) (k : Int) (w : World) (h : IntsAt w v (upFrom k xs.length)) (hk : 0 ≤ k) (hk2 : k + xs.length ≤ 9000000000000000000) :
    Calls Try.prog 26 #[v, .int .i64 k] w fun e w' => e = .returned (.int .i64 (k + xs.length)) ∧ Below w.heap.size w w' := by
  have := heldIntS_c v (upFrom k xs.length) k w h (by simp) hk (by simpa using hk2)
  simpa using this

theorem markIntS_r (lo hi : Nat) (v : Value) (xs : List Int) (k : Int) (w : World) (h : OwnR 3 w lo hi v xs) (hk : 0 ≤ k) (hk2 : k + xs.length ≤ 9000000000000000000) :
    Calls Try.prog 25 #[v, .int .i64 k] w fun e w' => e = .returned (.int .i64 (k + xs.length)) ∧ OwnR 3 w' lo hi v (upFrom k xs.length) ∧ OutOf lo hi w w' :=
  (markIntS_c lo v xs.length (ints xs) k w h.1 hk hk2).mono fun e w' ⟨he, ho, hg⟩ =>
    ⟨he, ⟨by simpa using ho, h.2.1, Nat.le_trans h.2.2 hg.size⟩, OutOf.of_grown hg fun b hb => ⟨(h.1.lt b hb).1, h.2.1 b hb⟩⟩

end Go.Proofs.Ytgdagejchgkopaa
