/- Words and lemmas on memory and lists, of no program. No conditions. -/
import Derived.WalkKit
import Derived.ProofKit
import Derived.OpenShut
import Derived.Handy
import Derived.Outline
import Derived.OwnWalk
import Derived.Laws.OwnMore
import Derived.Laws.AppendOwnNone
import Derived.BigQuiet
import Derived.Deep.QuietTactic
import Derived.Deep.RegionHeld3
import Derived.Deep.Draws
import Derived.Deep.LoopGhost
import Derived.Lib.Hide
import Derived.IntWalk
import Derived.WalkSpells
import Derived.WalkLawsBesides
namespace Go.Proofs.YtjijcjcfefkpbaaDoor
open Go.RowKit
set_option linter.unusedVariables false
set_option linter.unusedSimpArgs false

/-! ### cells that are read -/

/-- The cells from place off of block b on hold cs. -/
def CellsAt (w : World) (b off : Nat) (cs : List Value) : Prop := ∀ k (h : k < cs.length), w.cell? ⟨b, off + k, none⟩ = some cs[k]

theorem CellsAt.below {w w' : World} {B b off : Nat} {cs : List Value} (h : CellsAt w b off cs) (hb : Below B w w') (hB : b < B) : CellsAt w' b off cs :=
  fun k hk => (hb.cell (p := ⟨b, off + k, none⟩) hB).trans (h k hk)

/-- The slice value v, of n elements of 'size' cells each, reads as the cells cs. -/
def RowAt (w : World) (v : Value) (n size : Nat) (cs : List Value) : Prop :=
  cs.length = n * size ∧ ∃ ao cap, v = .slice ao n cap ∧ n ≤ cap ∧ cap ≤ maxLen ∧ (0 < n → ∃ b off, ao = some ⟨b, off, none⟩ ∧ b < w.heap.size ∧ CellsAt w b off cs)

theorem RowAt.below {w w' : World} {v : Value} {n size : Nat} {cs : List Value} (h : RowAt w v n size cs) (hb : Below w.heap.size w w') : RowAt w' v n size cs := by
  obtain ⟨hl, ao, cap, hv, h1, h2, h3⟩ := h
  refine ⟨hl, ao, cap, hv, h1, h2, fun hn => ?_⟩
  obtain ⟨b, off, ha, hlt, hc⟩ := h3 hn
  exact ⟨b, off, ha, by have := hb.size; omega, hc.below hb hlt⟩

theorem RowAt.nil (w : World) (size : Nat) : RowAt w (.slice none 0 0) 0 size [] :=
  ⟨by simp, none, 0, rfl, Nat.le_refl _, Nat.zero_le _, fun h => absurd h (by omega)⟩

theorem rowAt_of_own {w : World} {base e n size : Nat} {v : Value} {cs : List Value} (h : w.ownsRow base e size v n cs) : RowAt w v n size cs := by
  refine ⟨h.1, ?_⟩
  rcases h.2 with ⟨h2, h3⟩ | ⟨g, cap, cur, hv, hb, hh, h1, h2, h3, h4⟩
  · subst h3
    exact ⟨none, 0, h2, Nat.le_refl _, Nat.zero_le _, fun h => absurd h (by omega)⟩
  · refine ⟨some ⟨g, 0, none⟩, cap, hv, h1, h2, fun _ => ⟨g, 0, rfl, (Array.getElem?_eq_some_iff.1 hh).1, fun k hk => ?_⟩⟩
    have hx : cs[k]? = some cs[k] := List.getElem?_eq_getElem hk
    have := h.cells (g := g) (by simp [hv, Value.ownBlock]) k _ hx
    rw [Addr.add_lit] at this
    exact this

/-! ### ints -/

def ints (xs : List Int) : List Value := xs.map (Value.int .i64)
@[simp] theorem ints_length (xs : List Int) : (ints xs).length = xs.length := by simp [ints]
theorem ints_get (xs : List Int) (k : Nat) (h : k < xs.length) : (ints xs)[k]'(by simpa using h) = .int .i64 xs[k] := by simp [ints]
theorem ints_one (xs : List Int) : ∀ u ∈ ints xs, u.oneCell' = true := ints_oneCell .i64 xs

def IntsAt (w : World) (v : Value) (xs : List Int) : Prop := RowAt w v xs.length 1 (ints xs)
theorem IntsAt.below {w w' : World} {v : Value} {xs : List Int} (h : IntsAt w v xs) (hb : Below w.heap.size w w') : IntsAt w' v xs := RowAt.below h hb

/-- The call owns, from block B on, the slice of ints v. -/
def OwnI (e : TypeId) (w : World) (B : Nat) (v : Value) (xs : List Int) : Prop := w.ownsRow B e 1 v xs.length (ints xs)
theorem OwnI.at_ {e : TypeId} {w : World} {B : Nat} {v : Value} {xs : List Int} (h : OwnI e w B v xs) : IntsAt w v xs := rowAt_of_own h

theorem RowAt.form {w : World} {v : Value} {n size : Nat} {cs : List Value} (h : RowAt w v n size cs) : ∃ ao cap, v = .slice ao n cap := by
  obtain ⟨_, ao, cap, hv, _⟩ := h
  exact ⟨ao, cap, hv⟩
theorem IntsAt.form {w : World} {v : Value} {xs : List Int} (h : IntsAt w v xs) : ∃ ao cap, v = .slice ao xs.length cap := RowAt.form h
theorem RowAt.alloc {w : World} {v : Value} {n size : Nat} {cs : List Value} (h : RowAt w v n size cs) (o : Obj) : RowAt (w.alloc o) v n size cs := h.below ((Below.refl _ _).alloc (Nat.le_refl _) o)
theorem IntsAt.alloc {w : World} {v : Value} {xs : List Int} (h : IntsAt w v xs) (o : Obj) : IntsAt (w.alloc o) v xs := RowAt.alloc h o
theorem below_al {B : Nat} {w w' : World} {o : Obj} (hb : Below B (w.alloc o) w') (hB : w.heap.size ≤ B) : Below w.heap.size w w' :=
  ((Below.refl _ _).alloc (Nat.le_refl _) o).trans (hb.mono hB)

theorem below_al2 {B : Nat} {w w' : World} {o o' : Obj} (hb : Below B ((w.alloc o).alloc o') w') (hB : w.heap.size ≤ B) : Below w.heap.size w w' :=
  ((((Below.refl _ _).alloc (Nat.le_refl _) o).alloc (by simp) o')).trans (hb.mono hB)
theorem below_al3 {B : Nat} {w w' : World} {o o' o'' : Obj} (hb : Below B (((w.alloc o).alloc o').alloc o'') w') (hB : w.heap.size ≤ B) : Below w.heap.size w w' :=
  (((((Below.refl _ _).alloc (Nat.le_refl _) o).alloc (by simp) o').alloc (by simp; omega) o'')).trans (hb.mono hB)

/-- One int of a slice that is read: what the walk wants. -/
theorem CellsAt.int {w : World} {b off k : Nat} {xs : List Int} (h : CellsAt w b off (ints xs)) (hk : k < xs.length) : w.cell? ⟨b, off + k, none⟩ = some (.int .i64 xs[k]) := by
  rw [h k (by simpa using hk), ints_get _ _ hk]

theorem below_grown {w w' : World} (h : Below w.heap.size w w') (row : Option Nat) : w.grownBy w' row := ⟨h.os, h.tape, h.output, h.size, fun k hk _ => h.block k hk⟩

theorem own_below {w w' : World} {base e n size : Nat} {v : Value} {cs : List Value} (h : w.ownsRow base e size v n cs) (hb : Below w.heap.size w w') : w'.ownsRow base e size v n cs :=
  h.kept (below_grown hb none) (by cases hv : v.ownBlock <;> simp)
theorem OwnI.below {e : TypeId} {w w' : World} {B : Nat} {v : Value} {xs : List Int} (h : OwnI e w B v xs) (hb : Below w.heap.size w w') : OwnI e w' B v xs := own_below h hb

theorem own_base {w : World} {base base' e n size : Nat} {v : Value} {cs : List Value} (h : w.ownsRow base e size v n cs) (hb : base' ≤ base) : w.ownsRow base' e size v n cs := by
  refine ⟨h.1, ?_⟩
  rcases h.2 with h2 | ⟨g, cap, cur, hv, hg, r⟩
  · exact .inl h2
  · exact .inr ⟨g, cap, cur, hv, by omega, r⟩

/-! ### lists -/

theorem drop_at {α : Type} {xs : List α} {k : Nat} (h : k < xs.length) : xs.drop k = xs[k] :: xs.drop (k + 1) := List.drop_eq_getElem_cons h
theorem take_at {α : Type} {xs : List α} {k : Nat} (h : k < xs.length) : xs.take (k + 1) = xs.take k ++ [xs[k]] := List.take_succ_eq_append_getElem h

theorem set_mid {α : Type} (a : List α) (x y : α) (b : List α) (k : Nat) (h : k = a.length) : (a ++ x :: b).set k y = a ++ y :: b := by
  subst h
  induction a with
  | nil => rfl
  | cons c a ih => simp [ih]

theorem fill_step (xs : List Int) (k : Nat) (h : k < xs.length) :
    (ints (xs.take k ++ List.replicate (xs.length - k) 0)).set k (.int .i64 xs[k]) = ints (xs.take (k + 1) ++ List.replicate (xs.length - (k + 1)) 0) := by
  have e : xs.length - k = (xs.length - (k + 1)) + 1 := by omega
  rw [e, List.replicate_succ, take_at h]
  simp only [ints, List.map_append, List.map_cons, List.append_assoc]
  rw [set_mid _ _ _ _ _ (by simp; omega)]
  simp

/-- What is left of a size, -1 if nothing is. -/
def szSub (left : Int) (n : Nat) : Int := if left - n < 0 then -1 else left - n

/-- A value lies between two others. -/
def inB (x a b : Int) : Bool := decide (a ≤ x) && decide (x ≤ b)
theorem inB_eq {x a b : Int} {c : Bool} (h : (decide (a ≤ x) && decide (x ≤ b)) = c) : Ending.returned (.bool c) = .returned (.bool (inB x a b)) := by rw [← h]; rfl
theorem inB_iff {x a b : Int} : inB x a b = true ↔ a ≤ x ∧ x ≤ b := by simp [inB]
theorem inB_not {x a b : Int} : inB x a b = false ↔ ¬ (a ≤ x ∧ x ≤ b) := by simp [inB]

theorem ret_bool {a b : Bool} (h : a = b) : Ending.returned (.bool a) = .returned (.bool b) := by rw [h]
theorem ret_int {a b : Int} (h : a = b) : Ending.returned (.int .i64 a) = .returned (.int .i64 b) := by rw [h]
theorem ret_ib {a b : Int} {c d : Bool} (h : a = b) (h' : c = d) : Ending.returned (.tuple #[.int .i64 a, .bool c]) = .returned (.tuple #[.int .i64 b, .bool d]) := by rw [h, h']
theorem ret_bb {a b : Bool} {c d : Bool} (h : a = b) (h' : c = d) : Ending.returned (.tuple #[.bool a, .bool c]) = .returned (.tuple #[.bool b, .bool d]) := by rw [h, h']

theorem undrew {B : Nat} {w w' : World} (h : Below B w.drew w') : Below B w w' := ⟨h.os, h.tape, h.output, h.size, h.block⟩
theorem undrewN {B n : Nat} {w w' : World} (h : Below B (w.drewN n) w') : Below B w w' := ⟨h.os, h.tape, h.output, h.size, h.block⟩
theorem Below.drewN' {B : Nat} {a w : World} (h : Below B a w) (n : Nat) : Below B a (w.drewN n) := ⟨h.os, h.tape, h.output, h.size, h.block⟩

theorem below_step {W w w1 : World} (h : Below W.heap.size W w) (h1 : Below w.heap.size w w1) : Below W.heap.size W w1 := h.trans (h1.mono h.size)
theorem below_cell {W : World} {b o : Nat} {v : Value} (hb : b < W.heap.size) (hc : W.cell? ⟨b, o, none⟩ = some v) : ∀ w', Below W.heap.size W w' → w'.cell? ⟨b, o, none⟩ = some v :=
  fun w' h => (h.cell (p := ⟨b, o, none⟩) hb).trans hc

/-- The place of the first number that p holds of, -1 if of none. -/
def idxBy {α : Type} (p : α → Bool) (xs : List α) : Int := match xs.findIdx? p with | some i => i | none => -1
theorem idxBy_neg {α : Type} (p : α → Bool) (xs : List α) : (decide (0 ≤ idxBy p xs)) = xs.any p := by
  unfold idxBy
  cases h : xs.findIdx? p with
  | none =>
    rw [List.findIdx?_eq_none_iff] at h
    simp only [Bool.eq_false_iff, ne_eq, List.any_eq_true, decide_eq_true_eq] at *
    simp [List.any_eq_false]
    intro x hx; simpa using h x hx
  | some i =>
    have := List.findIdx?_eq_some_iff_getElem.1 h
    obtain ⟨hi, hp, _⟩ := this
    have : xs.any p = true := List.any_eq_true.2 ⟨_, List.getElem_mem hi, hp⟩
    simp [this]
/-- The same from a list's place k on. -/
def idxFrom {α : Type} (p : α → Bool) : Nat → List α → Int
  | _, [] => -1
  | k, x :: r => if p x then k else idxFrom p (k + 1) r
theorem idxFrom_eq {α : Type} (p : α → Bool) (xs : List α) : idxFrom p 0 xs = idxBy p xs := by
  have H : ∀ k, idxFrom p k xs = match xs.findIdx? p with | some i => ((i + k : Nat) : Int) | none => -1 := by
    induction xs with
    | nil => intro k; simp [idxFrom]
    | cons a r ih =>
      intro k
      simp only [idxFrom, List.findIdx?_cons]
      by_cases hp : p a = true
      · simp [hp]
      · simp only [hp, if_false, Bool.false_eq_true, ih (k + 1)]
        cases r.findIdx? p with
        | none => simp
        | some i => simp only [Option.map_some]; congr 1; omega
  rw [H 0]; rfl


/-- Block b holds the cells cs, none of them frozen. -/
def BoxAt (w : World) (b : Nat) (cs : Array Value) : Prop := b < w.heap.size ∧ (∀ i, w.cell? ⟨b, i, none⟩ = cs[i]?) ∧ ∀ i, w.frozen? ⟨b, i, none⟩ = false
theorem BoxAt.cells {w : World} {b : Nat} {cs : Array Value} (h : BoxAt w b cs) : ∀ i, w.cell? ⟨b, i, none⟩ = cs[i]? := h.2.1
theorem BoxAt.free {w : World} {b : Nat} {cs : Array Value} (h : BoxAt w b cs) : ∀ i, w.frozen? ⟨b, i, none⟩ = false := h.2.2
theorem BoxAt.below {w w' : World} {b : Nat} {cs : Array Value} (h : BoxAt w b cs) (hb : Below w.heap.size w w') : BoxAt w' b cs :=
  ⟨by have := hb.size; have := h.1; omega, fun i => (hb.cell (p := ⟨b, i, none⟩) h.1).trans (h.2.1 i), fun i => (hb.frozen (p := ⟨b, i, none⟩) h.1).trans (h.2.2 i)⟩
theorem BoxAt.rule {w : World} {b : Nat} {cs : Array Value} (h : BoxAt w b cs) : ∀ w', Below w.heap.size w w' → ∀ i, w'.cell? ⟨b, i, none⟩ = cs[i]? := fun w' hb => (h.below hb).2.1
theorem BoxAt.new (w : World) (cs : Array Value) (t : TypeId) : BoxAt (w.alloc (.cells cs t)) w.heap.size cs :=
  ⟨by simp, fun i => by simp [go_sem], fun i => by
    have h : (w.alloc (.cells cs t)).heap[w.heap.size]? = some (.cells cs t (0, 0)) := heap_alloc_new w _
    unfold World.frozen?
    rw [show (⟨w.heap.size, i, none⟩ : Addr).block = w.heap.size from rfl, h]
    simp⟩

theorem BoxAt.new_at (w : World) (cs : Array Value) (t : TypeId) (n : Nat) (h : n = w.heap.size) : BoxAt (w.alloc (.cells cs t)) n cs := by subst h; exact BoxAt.new w cs t
theorem BoxAt.alloc {w : World} {b : Nat} {cs : Array Value} (h : BoxAt w b cs) (o : Obj) : BoxAt (w.alloc o) b cs := h.below ((Below.refl _ _).alloc (Nat.le_refl _) o)

/-- A call of function value cf is a call of function cf. -/
def Enters (P : Program) (cf : Nat) : Prop := ∀ (av : Array Value) (w : World), (callFunc cf av).run P w = .ok (.enter cf av) w
theorem Enters.out {P : Program} {cf : Nat} (h : Enters P cf) : ∀ (av : Array Value) (w : World), (callFunc cf av).run P w = .ok (.enter cf av) w := h
theorem enters_of {P : Program} {cf : Nat} {fn : Func} (hf : P.funcs[cf]? = some fn) (hn : (fn.name == "runtime.NumGoroutine") = false) (hb : fn.body.isNone = false) : Enters P cf := by
  intro av w
  simp only [beq_eq_false_iff_ne, ne_eq] at hn
  have hb' : ¬ fn.body = none := by intro h; simp [h] at hb
  simp [callFunc, hf, hn, hb']

/-- of a world behind a call: old cells and marks read as they did -/
theorem bcell {W w1 : World} (hb : Below W.heap.size W w1) : (∀ b o, b < W.heap.size → w1.cell? ⟨b, o, none⟩ = W.cell? ⟨b, o, none⟩) ∧ (∀ b o, b < W.heap.size → w1.frozen? ⟨b, o, none⟩ = W.frozen? ⟨b, o, none⟩) :=
  ⟨fun b o h => hb.cell (p := ⟨b, o, none⟩) h, fun b o h => hb.frozen (p := ⟨b, o, none⟩) h⟩
end Go.Proofs.YtjijcjcfefkpbaaDoor
