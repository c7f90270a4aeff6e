/- Contracts of the laws' helpers on slices of committees: to, eq, sz. No conditions beyond sizes. -/
import Derived.Test.YtpjmcjdnobihbaaIntS
import Derived.Test.YtpjmcjdnobihbaaSmall
import Derived.Test.YtpjmcjdnobihbaaNest
import Derived.Test.YtpjmcjdnobihbaaInts2
import Derived.Test.YtpjmcjdnobihbaaBw
import Derived.Lib.SlicesS
namespace Go.Proofs.Ytpjmcjdnobihbaa
open Go.RowKit
set_option linter.unusedVariables false
set_option linter.unusedSimpArgs false

structure DCommittee where
  name : ByteArray
  members : List Int
  head : Int
deriving DecidableEq

abbrev vComm (u : Value) (r : DCommittee) : Value := .agg #[.string r.name, u, .int .i64 r.head]
def ccell (u : Value) (r : DCommittee) : List Value := [.string r.name, u, .int .i64 r.head]
abbrev CommsAt (w : World) (v : Value) (rs : List DCommittee) : Prop := NestAt ccell DCommittee.members 3 w v rs
theorem CommsAt.below {w w' : World} {v : Value} {xs : List DCommittee} (h : CommsAt w v xs) (hb : Below w.heap.size w w') : CommsAt w' v xs := NestAt.below h hb
theorem CommsAt.form {w : World} {v : Value} {xs : List DCommittee} (h : CommsAt w v xs) : ∃ ao cap, v = .slice ao xs.length cap := NestAt.form h
theorem CommsAt.get {w : World} {ao : Option Addr} {cap : Nat} {xs : List DCommittee} (h : CommsAt w (.slice ao xs.length cap) xs) {k : Nat} (hk : k < xs.length) :
    ∃ b off u, ao = some ⟨b, off, none⟩ ∧ b < w.heap.size ∧ IntsAt w u xs[k].members ∧ w.cell? ⟨b, off + k * 3, none⟩ = some (.string xs[k].name) ∧ w.cell? ⟨b, off + k * 3 + 1, none⟩ = some u ∧ w.cell? ⟨b, off + k * 3 + 2, none⟩ = some (.int .i64 xs[k].head) := by
  obtain ⟨b, off, u, h1, h2, h3, h4⟩ := NestAt.get (f := ccell) (ord := DCommittee.members) (size := 3) (fun _ _ => rfl) h hk
  exact ⟨b, off, u, h1, h2, h3, by simpa [ccell] using h4 0 (by omega), by simpa [ccell] using h4 1 (by omega), by simpa [ccell] using h4 2 (by omega)⟩
def CommsLe (rs : List DCommittee) : Prop := rs.length ≤ 1048576 ∧ ∀ r ∈ rs, r.members.length ≤ 1048576 ∧ r.name.size ≤ 1048576
def NamesOk (rs : List DCommittee) : Prop := ∀ r ∈ rs, r.name.size ≤ maxLen

theorem comm_info : (Try.prog.info? 40).map (fun i => (i.zero, i.size, i.bytes)) = some (some (.agg #[.string ⟨#[]⟩, .slice none 0 0, .int .i64 0]), 3, 48) := by kernel_rfl
abbrev OwnComms (w : World) (B : Nat) (v : Value) (xs : List DCommittee) : Prop := OwnNest ccell DCommittee.members 3 40 3 w B v xs
theorem OwnComms.at_ {w : World} {B : Nat} {v : Value} {xs : List DCommittee} (h : OwnComms w B v xs) : CommsAt w v xs := OwnNest.at_ h

end Go.Proofs.Ytpjmcjdnobihbaa
