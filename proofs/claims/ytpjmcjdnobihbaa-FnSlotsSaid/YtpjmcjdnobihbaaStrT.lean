/- Contracts of the laws' helpers on slices of slices of texts: eq, mark, held. No conditions beyond sizes. -/
import Derived.Test.YtpjmcjdnobihbaaStrN
import Derived.Test.YtpjmcjdnobihbaaBw
namespace Go.Proofs.Ytpjmcjdnobihbaa.Sn
open Go.RowKit
set_option linter.unusedVariables false
set_option linter.unusedSimpArgs false

def tcell (u : Value) (_ : List ByteArray) : List Value := [u]
abbrev StrSSAt (w : World) (v : Value) (t : List (List ByteArray)) : Prop := NestAt tcell id 1 w v t
theorem ncs_tcell (es : List (Value × List ByteArray)) : ncs tcell es = es.map Prod.fst := by
  induction es with
  | nil => rfl
  | cons a r ih => simp only [ncs, List.flatMap_cons, List.map_cons] at *; rw [ih]; rfl
theorem ncs_tzip {us : List Value} {xs : List (List ByteArray)} (h : us.length = xs.length) : ncs tcell (us.zip xs) = us := by
  rw [ncs_tcell, List.map_fst_zip (by omega)]
theorem StrSSAt.get {w : World} {ao : Option Addr} {cap : Nat} {xs : List (List ByteArray)} (h : StrSSAt w (.slice ao xs.length cap) xs) {k : Nat} (hk : k < xs.length) :
    ∃ b off u, ao = some ⟨b, off, none⟩ ∧ b < w.heap.size ∧ StrsAt w u xs[k] ∧ w.cell? ⟨b, off + k, none⟩ = some u := by
  obtain ⟨b, off, u, h1, h2, h3, h4⟩ := NestAt.get (f := tcell) (ord := id) (size := 1) (fun _ _ => rfl) h hk
  exact ⟨b, off, u, h1, h2, h3, by simpa [tcell] using h4 0 (by omega)⟩
theorem StrSSAt.below {w w' : World} {v : Value} {xs : List (List ByteArray)} (h : StrSSAt w v xs) (hb : Below w.heap.size w w') : StrSSAt w' v xs := NestAt.below h hb
theorem StrSSAt.form {w : World} {v : Value} {xs : List (List ByteArray)} (h : StrSSAt w v xs) : ∃ ao cap, v = .slice ao xs.length cap := NestAt.form h
theorem StrSSAt.len {w : World} {v : Value} {xs : List (List ByteArray)} (h : StrSSAt w v xs) : xs.length ≤ maxLen := NestAt.len h

theorem strs_info : (Try.prog.info? 34).map (fun i => (i.zero, i.size, i.bytes)) = some (some (.slice none 0 0), 1, 24) := by kernel_rfl
abbrev OwnTab (w : World) (B : Nat) (v : Value) (t : List (List ByteArray)) : Prop := OwnNest tcell id 1 34 9 w B v t
abbrev OwnTR (w : World) (lo hi : Nat) (v : Value) (t : List (List ByteArray)) : Prop := OwnNN tcell id 1 34 9 w lo hi v t

abbrev lenSum (t : List (List ByteArray)) : Nat := sumG List.length t
abbrev mkT (k : Int) (t : List (List ByteArray)) : List (List ByteArray) := mkG List.length (fun k (r : List ByteArray) => mtFrom k r.length) k t
end Go.Proofs.Ytpjmcjdnobihbaa.Sn
