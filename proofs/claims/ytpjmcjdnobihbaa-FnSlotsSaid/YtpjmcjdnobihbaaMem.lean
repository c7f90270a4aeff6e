/- More words on memory: what a call owns within bounds, what is written within bounds; append of a slice that is read. Of no program. No conditions. -/
import Derived.Test.YtpjmcjdnobihbaaBase
import Derived.Maps.AppendAt
namespace Go.Proofs.Ytpjmcjdnobihbaa
open Go.RowKit
set_option linter.unusedVariables false
set_option linter.unusedSimpArgs false

section
variable {P : Program} (w : World)

theorem run_append_none (base : Nat) (t ty e : TypeId) (i : TypeInfo) (size : Nat) (ht : P.underlying t = some (.slice e)) (hi : P.info? e = some i)
    (v : Value) (n : Nat) (xs : List Value) (hown : w.ownsRow base e size v n xs) (c : Nat) : (Builtin.append_ #[t, t] ty #[v, .slice none 0 c]).run P w = .ok v w := by
  rcases hown.2 with ⟨rfl, rfl⟩ | ⟨g, cap, cur, rfl, _, _, hnc, _⟩
  · simp [Builtin.append_, run_underlying ht, sizeOf, typeInfo, hi, Builtin.lenOf, Builtin.firstCells]
  · simp [Builtin.append_, run_underlying ht, sizeOf, typeInfo, hi, Builtin.lenOf, Builtin.firstCells, hnc, storeCells]

/-- 'append(v, u...)', v the call's own, u whatever reads: nil, empty or not. -/
theorem run_append_row (base : Nat) (t ty e : TypeId) (i : TypeInfo) (z : Value) (size bytes : Nat) (ht : P.underlying t = some (.slice e)) (hi : P.info? e = some i) (hz : i.zero = some z)
    (hsize : i.size = size) (hby : i.bytes = bytes) (hzs : z.cells.size = size) (hsz : 0 < size)
    (v : Value) (n : Nat) (xs : List Value) (hown : w.ownsRow base e size v n xs)
    (u : Value) (m : Nat) (news : List Value) (hr : RowAt w u m size news) (h1 : ∀ u ∈ news, u.oneCell' = true)
    (h63 : n + m ≤ maxLen) (hbytes : (n + m) * bytes ≤ 140737488355328) (hbase : base ≤ w.heap.size) :
    ∃ v' w', (Builtin.append_ #[t, t] ty #[v, u]).run P w = .ok v' w' ∧ w'.ownsRow base e size v' (n + m) (xs ++ news) ∧ w.grownBy w' v.ownBlock ∧
      (v'.ownBlock = v.ownBlock ∨ v'.ownBlock = some w.heap.size) := by
  obtain ⟨hl, ao, cap, rfl, hmc, _, hc⟩ := hr
  cases ao with
  | none =>
    have hm : m = 0 := by
      rcases Nat.eq_zero_or_pos m with h0 | h0
      · exact h0
      · obtain ⟨_, _, h, _⟩ := hc h0
        cases h
    subst hm
    have hn : news = [] := List.eq_nil_of_length_eq_zero (by simpa using hl)
    subst hn
    exact ⟨v, w, run_append_none w base t ty e i size ht hi v n xs hown cap, by simpa using hown, World.grownBy.refl w _, .inl rfl⟩
  | some ad =>
    have hcells : ∀ j x, news[j]? = some x → w.cell? (ad.add j) = some x := by
      intro j x hx
      have hj := (List.getElem?_eq_some_iff.1 hx).1
      have hm : 0 < m := by
        rcases Nat.eq_zero_or_pos m with h0 | h0
        · subst h0; rw [hl] at hj; omega
        · exact h0
      obtain ⟨b, off, h, _, hcc⟩ := hc hm
      injection h with h
      subst h
      rw [Addr.add_lit, hcc j hj, ← hx, List.getElem?_eq_getElem hj]
    obtain ⟨v', w', hrun, h2, h3, _, h5⟩ := run_append_own_at (P := P) w base t ty e i z size bytes ht hi hz hsize hby hzs hsz v n xs hown ad m cap news hl hcells h1 h63 hbytes hbase
    exact ⟨v', w', hrun, h2, h3, h5⟩

theorem wpList_append_row {ops : Array Oper} {rest : List Oper} {o : Oper} {a : Act} {Q : Exit → Act → World → Prop} (hgd : o.guard = none) (s x : Operand) (t : TypeId)
    (ho : o.op = .call { callee := .builtin .append, args := #[s, x], argTypes := #[t, t] })
    (base : Nat) (e : TypeId) (i : TypeInfo) (z : Value) (size bytes : Nat) (ht : P.underlying t = some (.slice e)) (hi : P.info? e = some i) (hz : i.zero = some z)
    (hsize : i.size = size) (hby : i.bytes = bytes) (hzs : z.cells.size = size) (hsz : 0 < size)
    (v : Value) (n : Nat) (xs : List Value) (hs : a.eval s = v) (hown : w.ownsRow base e size v n xs)
    (u : Value) (m : Nat) (news : List Value) (hx : a.eval x = u) (hr : RowAt w u m size news) (h1 : ∀ u ∈ news, u.oneCell' = true)
    (h63 : n + m ≤ maxLen) (hbytes : (n + m) * bytes ≤ 140737488355328) (hbase : base ≤ w.heap.size)
    (h : ∀ v' w', w'.ownsRow base e size v' (n + m) (xs ++ news) → w.grownBy w' v.ownBlock → (v'.ownBlock = v.ownBlock ∨ v'.ownBlock = some w.heap.size) → wpList P ops Q rest (a.put o.dst v') w') : wpList P ops Q (o :: rest) a w := by
  refine wpList_plain hgd fun _ hK => ?_
  obtain ⟨v', w', hr', h2, h3, h4⟩ := run_append_row (P := P) w base t o.type e i z size bytes ht hi hz hsize hby hzs hsz v n xs hown u m news hr h1 h63 hbytes hbase
  unfold Oper.wp execOp
  simp only [ho, resolve, invoke, builtin, Sem.run_bind, Sem.run_pure, Result.andThen_ok, List.map_toArray, List.map_cons, List.map_nil, hs, hx, hr']
  exact hK _ _ (h v' w' h2 h3 h4)
end

/-- The blocks from lo to hi are as they were. -/
def SameIn (lo hi : Nat) (w w' : World) : Prop := w.heap.size ≤ w'.heap.size ∧ ∀ k, lo ≤ k → k < hi → w'.heap[k]? = w.heap[k]?
/-- Of what was there nothing has turned but in the blocks from lo to hi. -/
structure OutOf (lo hi : Nat) (w w' : World) : Prop where
  os : w'.os = w.os
  tape : w'.tape = w.tape
  output : w'.output = w.output
  size : w.heap.size ≤ w'.heap.size
  block : ∀ k, k < w.heap.size → (k < lo ∨ hi ≤ k) → w'.heap[k]? = w.heap[k]?

theorem OutOf.refl (lo hi : Nat) (w : World) : OutOf lo hi w w := ⟨rfl, rfl, rfl, Nat.le_refl _, fun _ _ _ => rfl⟩
theorem OutOf.trans {lo hi : Nat} {a b c : World} (h : OutOf lo hi a b) (k : OutOf lo hi b c) : OutOf lo hi a c :=
  ⟨k.os.trans h.os, k.tape.trans h.tape, k.output.trans h.output, Nat.le_trans h.size k.size, fun i hi ho => (k.block i (Nat.lt_of_lt_of_le hi h.size) ho).trans (h.block i hi ho)⟩
theorem OutOf.below {lo hi B : Nat} {w w' : World} (h : OutOf lo hi w w') (hB : B ≤ lo) (hs : B ≤ w.heap.size) : Below B w w' :=
  ⟨h.os, h.tape, h.output, h.size, fun k hk => h.block k (by omega) (.inl (by omega))⟩
theorem OutOf.same {lo hi a b : Nat} {w w' : World} (h : OutOf lo hi w w') (hd : b ≤ lo ∨ hi ≤ a) (hs : b ≤ w.heap.size) : SameIn a b w w' :=
  ⟨h.size, fun k h1 h2 => h.block k (by omega) (by omega)⟩
theorem below_same {B a b : Nat} {w w' : World} (h : Below B w w') (hb : b ≤ B) : SameIn a b w w' := ⟨h.size, fun k _ h2 => h.block k (by omega)⟩
theorem OutOf.of_below {lo hi : Nat} {w w' : World} (h : Below w.heap.size w w') : OutOf lo hi w w' := ⟨h.os, h.tape, h.output, h.size, fun k hk _ => h.block k hk⟩
theorem OutOf.of_grown {lo hi : Nat} {w w' : World} {row : Option Nat} (h : w.grownBy w' row) (hr : ∀ b, row = some b → lo ≤ b ∧ b < hi) : OutOf lo hi w w' :=
  ⟨h.os, h.tape, h.output, h.size, fun k hk ho => h.block k hk (fun e => by have := hr k e.symm; omega)⟩
theorem OutOf.box {lo hi b : Nat} {w w' : World} {cs : Array Value} (h : OutOf lo hi w w') (hb : BoxAt w b cs) (ho : b < lo ∨ hi ≤ b) : BoxAt w' b cs :=
  ⟨by have := h.size; have := hb.1; omega, fun i => (World.cell?_of_block (w := w) (a := ⟨b, i, none⟩) (h.block b hb.1 ho)).trans (hb.2.1 i), fun i => (World.frozen?_of_block (w := w) (a := ⟨b, i, none⟩) (h.block b hb.1 ho)).trans (hb.2.2 i)⟩

theorem OutOf.set {b i : Nat} {a w : World} (h : OutOf b (b + 1) a w) (u : Value) : OutOf b (b + 1) a (w.setCell ⟨b, i, none⟩ u) :=
  h.trans ⟨rfl, rfl, rfl, by simp [World.setCell], fun k _ ho => Below.heap_setCell _ _ _ _ (by rcases ho with h | h <;> simp <;> omega)⟩
theorem OutOf.setIn {lo hi b i : Nat} {a w : World} (h : OutOf lo hi a w) (h1 : lo ≤ b) (h2 : b < hi) (u : Value) : OutOf lo hi a (w.setCell ⟨b, i, none⟩ u) :=
  h.trans ⟨rfl, rfl, rfl, by simp [World.setCell], fun k _ ho => Below.heap_setCell _ _ _ _ (by rcases ho with h | h <;> simp <;> omega)⟩
theorem OutOf.alloc {lo hi : Nat} {a w : World} (h : OutOf lo hi a w) (o : Obj) : OutOf lo hi a (w.alloc o) :=
  ⟨h.os, h.tape, h.output, Nat.le_trans h.size (by simp), fun k hk ho => (Below.heap_alloc w o k (Nat.lt_of_lt_of_le hk h.size)).trans (h.block k hk ho)⟩
theorem OutOf.drew' {lo hi : Nat} {a w : World} (h : OutOf lo hi a w) : OutOf lo hi a w.drew := ⟨h.os, h.tape, h.output, h.size, h.block⟩
/-- A result's cell is written behind what is owned. -/
theorem fin_own {e B b : Nat} {w2 w3 w4 : World} {u : Value} {xs : List Int} (h : OwnI e w2 B u xs) (hb : Below w2.heap.size w2 w3) (ho : OutOf b (b + 1) w3 w4) (hB : b < B) : OwnI e w4 B u xs := by
  obtain ⟨hl, hh⟩ := own_below h hb
  refine ⟨hl, ?_⟩
  rcases hh with h2 | ⟨g, cap, cur, hv, hg, hgg, r⟩
  · exact .inl h2
  · exact .inr ⟨g, cap, cur, hv, hg, (ho.block g (Array.getElem?_eq_some_iff.1 hgg).1 (.inr (by omega))).trans hgg, r⟩
theorem fin_below {b : Nat} {w w3 w4 : World} (h : Below w.heap.size w w3) (ho : OutOf b (b + 1) w3 w4) (hb : w.heap.size ≤ b) : Below w.heap.size w w4 := h.trans (ho.below hb h.size)

theorem fin_own2 {e B lo b : Nat} {w2 w3 w4 : World} {u : Value} {xs : List Int} (h : OwnI e w2 B u xs) (hb : Below w2.heap.size w2 w3) (ho : OutOf lo (b + 1) w3 w4) (hB : b < B) : OwnI e w4 B u xs := by
  obtain ⟨hl, hh⟩ := own_below h hb
  refine ⟨hl, ?_⟩
  rcases hh with h2 | ⟨g, cap, cur, hv, hg, hgg, r⟩
  · exact .inl h2
  · exact .inr ⟨g, cap, cur, hv, hg, (ho.block g (Array.getElem?_eq_some_iff.1 hgg).1 (.inr (by omega))).trans hgg, r⟩
theorem fin_below2 {lo hi : Nat} {w w3 w4 : World} (h : Below w.heap.size w w3) (ho : OutOf lo hi w3 w4) (hb : w.heap.size ≤ lo) : Below w.heap.size w w4 := h.trans (ho.below hb h.size)

/-- The slice v is owned, its row lies in a block from lo to hi. -/
def OwnIn (e size lo hi : Nat) (w : World) (v : Value) (n : Nat) (cs : List Value) : Prop := w.ownsRow lo e size v n cs ∧ (∀ b, v.ownBlock = some b → b < hi) ∧ hi ≤ w.heap.size
theorem OwnIn.of {e size B : Nat} {w : World} {v : Value} {n : Nat} {cs : List Value} (h : w.ownsRow B e size v n cs) : OwnIn e size B w.heap.size w v n cs := ⟨h, fun b hb => (h.lt b hb).2, Nat.le_refl _⟩
theorem OwnIn.keep {e size lo hi : Nat} {w w' : World} {v : Value} {n : Nat} {cs : List Value} (h : OwnIn e size lo hi w v n cs) (hs : SameIn lo hi w w') : OwnIn e size lo hi w' v n cs := by
  obtain ⟨⟨hl, ho⟩, hb, hh⟩ := h
  refine ⟨⟨hl, ?_⟩, hb, Nat.le_trans hh hs.1⟩
  rcases ho with h2 | ⟨g, cap, cur, rfl, hg, hgg, r⟩
  · exact .inl h2
  · exact .inr ⟨g, cap, cur, rfl, hg, (hs.2 g hg (hb g rfl)).trans hgg, r⟩
theorem OwnIn.at_ {e size lo hi : Nat} {w : World} {v : Value} {n : Nat} {cs : List Value} (h : OwnIn e size lo hi w v n cs) : RowAt w v n size cs := rowAt_of_own h.1
end Go.Proofs.Ytpjmcjdnobihbaa
