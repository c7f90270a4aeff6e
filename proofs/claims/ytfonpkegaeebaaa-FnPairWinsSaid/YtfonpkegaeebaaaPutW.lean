/- Contract: a number put into a rising list (spec.l1Put), where the list has it not. No conditions beyond sizes. -/
import Derived.Test.YtfonpkegaeebaaaPutL
import Derived.Test.YtfonpkegaeebaaaStep
namespace Go.Proofs.Ytfonpkegaeebaaa
open Go.RowKit
set_option linter.unusedVariables false
set_option linter.unusedSimpArgs false

theorem RowAt.tail1 {w : World} {ao : Option Addr} {n cap k : Nat} {cs : List Value} (h : RowAt w (.slice ao n cap) n 1 cs) (hk : k ≤ n) : RowAt w (.slice (if cap = k then ao else ao.map (·.add k)) (n - k) (cap - k)) (n - k) 1 (cs.drop (k * 1)) := by
  have := RowAt.tail h hk
  rw [Nat.mul_one] at this ⊢
  exact this

theorem RowAt.tail2 {w : World} {b off n cap k : Nat} {cs : List Value} (h : RowAt w (.slice (some ⟨b, off, none⟩) n cap) n 1 cs) (hk : k ≤ n) : RowAt w (.slice (if cap = k then some ⟨b, off, none⟩ else some ⟨b, off + k, none⟩) (n - k) (cap - k)) (n - k) 1 (cs.drop (k * 1)) := by
  have := RowAt.tail1 h hk
  simpa [Addr.add_lit] using this

end Go.Proofs.Ytfonpkegaeebaaa
