/- Marks on slices of rankings within bounds, with what they hold then; held. No conditions beyond sizes. -/
import Derived.Test.YtfonpkegaeebaaaRankS
import Derived.Test.YtfonpkegaeebaaaNestM
namespace Go.Proofs.Ytfonpkegaeebaaa
open Go.RowKit
set_option linter.unusedVariables false
set_option linter.unusedSimpArgs false

def cntR (r : DRanking) : Nat := r.order.length + 1
def markR (k : Int) (r : DRanking) : DRanking := ⟨upFrom k r.order.length, k + r.order.length⟩
def rankSum (xs : List DRanking) : Nat := sumG cntR xs
abbrev mkRk (k : Int) (xs : List DRanking) : List DRanking := mkG cntR markR k xs
theorem rankSum_at {xs : List DRanking} {k : Nat} (h : k < xs.length) : rankSum (xs.take (k + 1)) = rankSum (xs.take k) + xs[k].order.length + 1 := sumG_at h
theorem rankSum_le {xs : List DRanking} (h : ∀ r ∈ xs, r.order.length ≤ 1048576) : rankSum xs ≤ 1048577 * xs.length := sumG_le (fun x hx => by have := h x hx; simp only [cntR]; omega)
theorem rankSum_take {xs : List DRanking} (h : RanksLe xs) (k : Nat) : rankSum (xs.take k) ≤ 1099512676352 := by
  have h1 := rankSum_le (xs := xs.take k) (fun r hr => h.2 r (List.mem_of_mem_take hr))
  have h2 := h.1
  have h3 : (xs.take k).length ≤ 1048576 := by simp; omega
  have := Nat.mul_le_mul_left 1048577 h3
  omega

abbrev OwnRN (w : World) (lo hi : Nat) (v : Value) (xs : List DRanking) : Prop := OwnNN rcell DRanking.order 2 44 3 w lo hi v xs

end Go.Proofs.Ytfonpkegaeebaaa
