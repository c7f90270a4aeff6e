/- Contracts: draws of votes and seats. Condition: fewer than a thousand million choices. -/
import Derived.Test.YtpjmcjdnobihbaaCur
import Derived.Test.YtpjmcjdnobihbaaPush
import Derived.Test.YtpjmcjdnobihbaaDelete
namespace Go.Proofs.Ytpjmcjdnobihbaa
open Go.RowKit
set_option linter.unusedVariables false
set_option linter.unusedSimpArgs false

theorem own_litL (w : World) (e : TypeId) (xs : List Int) (hn : xs.length ≤ 1000) : OwnI e (w.alloc (.cells (ints xs).toArray e)) w.heap.size (.slice (some ⟨w.heap.size, 0, none⟩) xs.length xs.length) xs := by
  have h := World.ownsRow_lit (base := w.heap.size) (e := e) (size := 1) w (ints xs).toArray xs.length (Nat.le_refl _) (by unfold maxLen; omega) (by simp)
  simpa [OwnI] using h
theorem alQ (w : World) (o : Obj) : Below w.heap.size w (w.alloc o) := (Below.refl _ _).alloc (Nat.le_refl _) _
theorem curTo_of {b : Nat} {w w' : World} (h : Below w.heap.size w w') : CurTo b w w' := OutOf.of_below h
theorem curTo_grown {b B : Nat} {w0 w w' : World} {row : Option Nat} (h : CurTo b w0 w) (hg : w.grownBy w' row) (hr : ∀ k, row = some k → w0.heap.size ≤ k) : CurTo b w0 w' :=
  ⟨hg.os.trans h.os, hg.tape.trans h.tape, hg.output.trans h.output, Nat.le_trans h.size hg.size, fun k hk ho => (hg.block k (Nat.lt_of_lt_of_le hk h.size) (fun e => by have := hr k e.symm; omega)).trans (h.block k hk ho)⟩
theorem curTo_below {b : Nat} {w0 w w' : World} (h : CurTo b w0 w) (hb : Below w0.heap.size w w') : CurTo b w0 w' :=
  ⟨hb.os.trans h.os, hb.tape.trans h.tape, hb.output.trans h.output, Nat.le_trans h.size hb.size, fun k hk ho => (hb.block k hk).trans (h.block k hk ho)⟩
theorem CurAt.keep {W0 : World} {cv : Value} {b m B : Nat} {w w' : World} (h : CurAt W0 cv w b m) (hb : Below B w w') (hB : b < B) : CurAt W0 cv w' b m := by
  obtain ⟨h1, h2, a, s, h3, h4⟩ := h
  refine ⟨h1, h2.trans (hb.mono (by omega)), a, s, ⟨by have := hb.size; have := h3.1; omega, fun i => (hb.cell (p := ⟨b, i, none⟩) hB).trans (h3.2.1 i), fun i => (hb.frozen (p := ⟨b, i, none⟩) hB).trans (h3.2.2 i)⟩, h4⟩

def slenQ : Value → Nat | .slice _ n _ => n | _ => 0
theorem cur_new (cv : Value) (w : World) : CurAt w cv (w.alloc (.cells #[cv, .int .i64 0, .int .u64 0] 64)) w.heap.size 0 :=
  ⟨Nat.le_refl _, alQ _ _, 0, 0, BoxAt.new _ _ _, by omega, by omega, by omega⟩

end Go.Proofs.Ytpjmcjdnobihbaa
