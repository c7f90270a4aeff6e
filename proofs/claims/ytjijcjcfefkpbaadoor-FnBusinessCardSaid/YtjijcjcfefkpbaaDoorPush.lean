/- One int appended to a slice that the call owns. Of no program. No conditions beyond sizes. -/
import Derived.Test.YtjijcjcfefkpbaaDoorMem
namespace Go.Proofs.YtjijcjcfefkpbaaDoor
open Go.RowKit
set_option linter.unusedVariables false
set_option linter.unusedSimpArgs false

/-- A new row of one element reads. -/
theorem row_one (w : World) (x : Value) (t : TypeId) : RowAt (w.alloc (.cells #[x] t)) (.slice (some ⟨w.heap.size, 0, none⟩) 1 1) 1 1 [x] :=
  ⟨rfl, _, _, rfl, Nat.le_refl _, by unfold maxLen; omega, fun _ => ⟨w.heap.size, 0, rfl, by simp, fun k hk => by
    have : k = 0 := by simpa using hk
    subst this
    simp [go_sem]⟩⟩

theorem own_lit0 (w : World) (e : TypeId) : OwnI e (w.alloc (.cells #[] e)) w.heap.size (.slice (some ⟨w.heap.size, 0, none⟩) 0 0) [] :=
  World.ownsRow_lit (base := w.heap.size) (e := e) (size := 1) w #[] 0 (Nat.le_refl _) (by simp [maxLen]) rfl

theorem wpList_push_int {P : Program} {w : World} {ops : Array Oper} {rest : List Oper} {o : Oper} {a : Act} {Q : Exit → Act → World → Prop} (hgd : o.guard = none) (s x : Operand) (t : TypeId)
    (ho : o.op = .call { callee := .builtin .append, args := #[s, x], argTypes := #[t, t] })
    (B : Nat) (e e' : TypeId) (hinfo : (P.info? e).map (fun i => (i.zero, i.size, i.bytes)) = some (some (.int .i64 0), 1, 8)) (ht : P.underlying t = some (.slice e))
    (v : Value) (xs : List Int) (y : Int) (hs : a.eval s = v) (hown : OwnI e w B v xs) (hx : a.eval x = .slice (some ⟨w.heap.size, 0, none⟩) 1 1) (hB : B ≤ w.heap.size) (hn : xs.length ≤ 4000000)
    (h : ∀ v' w', OwnI e w' B v' (xs ++ [y]) → Below B w w' → wpList P ops Q rest (a.put o.dst v') w') :
    wpList P ops Q (o :: rest) a (w.alloc (.cells #[.int .i64 y] e')) := by
  obtain ⟨i0, hi, hz0, hz1, hz2⟩ := info_parts hinfo
  have hal : Below w.heap.size w (w.alloc (.cells #[.int .i64 y] e')) := (Below.refl _ _).alloc (Nat.le_refl _) _
  refine wpList_append_row _ hgd s x t ho B e i0 (.int .i64 0) 1 8 ht hi hz0 hz1 hz2 rfl (by decide) v _ _ hs (own_below hown hal) _ 1 [.int .i64 y] hx (row_one w (.int .i64 y) e') (ints_one [y]) (by unfold maxLen; omega) (by omega) (by simp; omega) ?_
  intro v' w' h1 h2 _
  refine h v' w' (by unfold OwnI; simpa [ints] using h1) ?_
  exact ((hal.mono hB).grown h2 (by simp; omega) (fun k hk => (hown.lt k hk).1))

end Go.Proofs.YtjijcjcfefkpbaaDoor
