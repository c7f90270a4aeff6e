/- A region that draws its order, whose operations read old cells alone and whose callees may make new memory: one walk in the order of the text. Of no program. No conditions. -/
import Derived.Test.YtpjmcjdnobihbaaBase
namespace Go.Proofs.Ytpjmcjdnobihbaa
open Go.RowKit
set_option linter.unusedVariables false
set_option linter.unusedSimpArgs false

/-- A world in which all that W has lies as it lay. -/
structure BW (W : World) where
  w : World
  h : Below W.heap.size W w

instance (W : World) : Nonempty (BW W) := ⟨⟨W, Below.refl _ _⟩⟩

theorem BW.cell {W : World} {b o : Nat} {v : Value} (hb : b < W.heap.size) (hc : W.cell? ⟨b, o, none⟩ = some v) : ∀ x : BW W, x.w.cell? ⟨b, o, none⟩ = some v :=
  fun x => (x.h.cell (p := ⟨b, o, none⟩) hb).trans hc
theorem BW.box {W : World} {b : Nat} {cs : Array Value} (h : BoxAt W b cs) : ∀ (x : BW W) i, x.w.cell? ⟨b, i, none⟩ = cs[i]? := fun x => (h.below x.h).2.1

theorem wp_region_bw {P : Program} {id : Nat} {Q : Exit → Act → World → Prop} {a : Act} {W : World} {l : List Oper} (hm : P.follows .mixedOrders = true) (hB : Region.lexB .any l.toArray = true)
    (h : wpQuiet P l.toArray (fun w' => ∃ x : BW W, w' = x.w) (fun a' => ∀ w', (∃ x : BW W, w' = x.w) → Q .normal a' w') l a) : (Code.region id l.toArray true).wp P Q a W :=
  wp_region_quiet (C := fun w' => ∃ x : BW W, w' = x.w) hm hB ⟨⟨_, Below.drew (Below.refl _ _)⟩, rfl⟩ (by simpa using h)
/-- A callee's contract in such a world. -/
theorem BW.call {P : Program} {f : FuncId} {args : Array Value} {W : World} {x : BW W} {v : Value} (h : Calls P f args x.w fun e w' => e = .returned v ∧ Below x.w.heap.size x.w w') :
    Calls P f args x.w fun e w'' => e = .returned v ∧ ∃ y : BW W, w'' = y.w :=
  h.mono fun _ w'' ⟨he, hb⟩ => ⟨he, ⟨w'', below_step x.h hb⟩, rfl⟩

end Go.Proofs.Ytpjmcjdnobihbaa
