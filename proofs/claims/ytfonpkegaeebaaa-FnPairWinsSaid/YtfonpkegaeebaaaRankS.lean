/- Contracts of the laws' helpers on slices of rankings: to, eq, sz. No conditions beyond sizes. -/
import Derived.Test.YtfonpkegaeebaaaIntS
import Derived.Test.YtfonpkegaeebaaaSmall
import Derived.Test.YtfonpkegaeebaaaNest
import Derived.Test.YtfonpkegaeebaaaInts2
import Derived.Test.YtfonpkegaeebaaaBw
namespace Go.Proofs.Ytfonpkegaeebaaa
open Go.RowKit
set_option linter.unusedVariables false
set_option linter.unusedSimpArgs false

structure DRanking where
  order : List Int
  weight : Int
deriving DecidableEq

abbrev vRank (u : Value) (r : DRanking) : Value := .agg #[u, .int .i64 r.weight]
def rcell (u : Value) (r : DRanking) : List Value := [u, .int .i64 r.weight]
abbrev RanksAt (w : World) (v : Value) (rs : List DRanking) : Prop := NestAt rcell DRanking.order 2 w v rs
theorem RanksAt.below {w w' : World} {v : Value} {xs : List DRanking} (h : RanksAt w v xs) (hb : Below w.heap.size w w') : RanksAt w' v xs := NestAt.below h hb
theorem RanksAt.form {w : World} {v : Value} {xs : List DRanking} (h : RanksAt w v xs) : ∃ ao cap, v = .slice ao xs.length cap := NestAt.form h
theorem RanksAt.get {w : World} {ao : Option Addr} {cap : Nat} {xs : List DRanking} (h : RanksAt w (.slice ao xs.length cap) xs) {k : Nat} (hk : k < xs.length) :
    ∃ b off u, ao = some ⟨b, off, none⟩ ∧ b < w.heap.size ∧ IntsAt w u xs[k].order ∧ w.cell? ⟨b, off + k * 2, none⟩ = some u ∧ w.cell? ⟨b, off + k * 2 + 1, none⟩ = some (.int .i64 xs[k].weight) := by
  obtain ⟨b, off, u, h1, h2, h3, h4⟩ := NestAt.get (f := rcell) (ord := DRanking.order) (size := 2) (fun _ _ => rfl) h hk
  exact ⟨b, off, u, h1, h2, h3, by simpa [rcell] using h4 0 (by omega), by simpa [rcell] using h4 1 (by omega)⟩
def RanksLe (rs : List DRanking) : Prop := rs.length ≤ 1048576 ∧ ∀ r ∈ rs, r.order.length ≤ 1048576

theorem rank_info : (Try.prog.info? 44).map (fun i => (i.zero, i.size, i.bytes)) = some (some (.agg #[.slice none 0 0, .int .i64 0]), 2, 32) := by kernel_rfl
abbrev OwnRanks (w : World) (B : Nat) (v : Value) (xs : List DRanking) : Prop := OwnNest rcell DRanking.order 2 44 3 w B v xs
theorem OwnRanks.at_ {w : World} {B : Nat} {v : Value} {xs : List DRanking} (h : OwnRanks w B v xs) : RanksAt w v xs := OwnNest.at_ h

end Go.Proofs.Ytfonpkegaeebaaa
