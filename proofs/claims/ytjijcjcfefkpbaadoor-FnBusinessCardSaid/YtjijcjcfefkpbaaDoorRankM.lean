/- Contracts of the laws' helpers on slices of slices of ints: eq, mark, held. No conditions beyond sizes. -/
import Derived.Test.YtjijcjcfefkpbaaDoorNestM
import Derived.Test.YtjijcjcfefkpbaaDoorBw
namespace Go.Proofs.YtjijcjcfefkpbaaDoor
open Go.RowKit
set_option linter.unusedVariables false
set_option linter.unusedSimpArgs false

def tcell (u : Value) (_ : List Int) : List Value := [u]
abbrev IntSSAt (w : World) (v : Value) (t : List (List Int)) : Prop := NestAt tcell id 1 w v t
theorem ncs_tcell (es : List (Value × List Int)) : ncs tcell es = es.map Prod.fst := by
  induction es with
  | nil => rfl
  | cons a r ih => simp only [ncs, List.flatMap_cons, List.map_cons] at *; rw [ih]; rfl
theorem ncs_tzip {us : List Value} {xs : List (List Int)} (h : us.length = xs.length) : ncs tcell (us.zip xs) = us := by
  rw [ncs_tcell, List.map_fst_zip (by omega)]
theorem IntSSAt.get {w : World} {ao : Option Addr} {cap : Nat} {xs : List (List Int)} (h : IntSSAt w (.slice ao xs.length cap) xs) {k : Nat} (hk : k < xs.length) :
    ∃ b off u, ao = some ⟨b, off, none⟩ ∧ b < w.heap.size ∧ IntsAt w u xs[k] ∧ w.cell? ⟨b, off + k, none⟩ = some u := by
  obtain ⟨b, off, u, h1, h2, h3, h4⟩ := NestAt.get (f := tcell) (ord := id) (size := 1) (fun _ _ => rfl) h hk
  exact ⟨b, off, u, h1, h2, h3, by simpa [tcell] using h4 0 (by omega)⟩
theorem IntSSAt.below {w w' : World} {v : Value} {xs : List (List Int)} (h : IntSSAt w v xs) (hb : Below w.heap.size w w') : IntSSAt w' v xs := NestAt.below h hb
theorem IntSSAt.form {w : World} {v : Value} {xs : List (List Int)} (h : IntSSAt w v xs) : ∃ ao cap, v = .slice ao xs.length cap := NestAt.form h
theorem IntSSAt.len {w : World} {v : Value} {xs : List (List Int)} (h : IntSSAt w v xs) : xs.length ≤ maxLen := NestAt.len h

theorem ints_info : (Tryd.prog.info? 22).map (fun i => (i.zero, i.size, i.bytes)) = some (some (.slice none 0 0), 1, 24) := by kernel_rfl
abbrev OwnTab (w : World) (B : Nat) (v : Value) (t : List (List Int)) : Prop := OwnNest tcell id 1 22 3 w B v t
abbrev OwnTR (w : World) (lo hi : Nat) (v : Value) (t : List (List Int)) : Prop := OwnNN tcell id 1 22 3 w lo hi v t

abbrev lenSum (t : List (List Int)) : Nat := sumG List.length t
abbrev mkT (k : Int) (t : List (List Int)) : List (List Int) := mkG List.length (fun k (r : List Int) => upFrom k r.length) k t
end Go.Proofs.YtjijcjcfefkpbaaDoor
