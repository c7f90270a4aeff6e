/- Slices of slices of texts: what reads, what is owned, one more appended. Of no program. No conditions beyond sizes. -/
import Derived.Test.YtpjmcjdnobihbaaNestO
import Derived.Test.YtpjmcjdnobihbaaMarkT
namespace Go.Proofs.Ytpjmcjdnobihbaa.Sn
open Go.RowKit
set_option linter.unusedVariables false
set_option linter.unusedSimpArgs false

def OwnI (e : TypeId) (w : World) (B : Nat) (v : Value) (xs : List ByteArray) : Prop := w.ownsRow B e 1 v xs.length (strs xs)
theorem OwnI.at_ {e : TypeId} {w : World} {B : Nat} {v : Value} {xs : List ByteArray} (h : OwnI e w B v xs) : StrsAt w v xs := rowAt_of_own h
theorem OwnI.below {e : TypeId} {w w' : World} {B : Nat} {v : Value} {xs : List ByteArray} (h : OwnI e w B v xs) (hb : Below w.heap.size w w') : OwnI e w' B v xs := own_below h hb
def OwnR (e : TypeId) (w : World) (lo hi : Nat) (v : Value) (xs : List ByteArray) : Prop := OwnIn e 1 lo hi w v xs.length (strs xs)
theorem OwnR.of {e B : Nat} {w : World} {v : Value} {xs : List ByteArray} (h : OwnI e w B v xs) : OwnR e w B w.heap.size v xs := OwnIn.of h
theorem OwnR.keep {e lo hi : Nat} {w w' : World} {v : Value} {xs : List ByteArray} (h : OwnR e w lo hi v xs) (hs : SameIn lo hi w w') : OwnR e w' lo hi v xs := OwnIn.keep h hs
theorem OwnR.at_ {e lo hi : Nat} {w : World} {v : Value} {xs : List ByteArray} (h : OwnR e w lo hi v xs) : StrsAt w v xs := OwnIn.at_ h
theorem OwnI.toR {e B : Nat} {w : World} {v : Value} {xs : List ByteArray} (h : OwnI e w B v xs) : OwnR e w B w.heap.size v xs := OwnIn.of h

section
variable {α : Type} (f : Value → α → List Value) (ord : α → List ByteArray) (size : Nat)

/-- The cells of elements, each with its inner slice's value. -/
def ncs (es : List (Value × α)) : List Value := es.flatMap fun p => f p.1 p.2
/-- The slice v reads as the elements xs; f lays an element out around its inner slice, which reads as 'ord'. -/
def NestAt (w : World) (v : Value) (xs : List α) : Prop :=
  ∃ es : List (Value × α), es.map Prod.snd = xs ∧ RowAt w v es.length size (ncs f es) ∧ ∀ p ∈ es, StrsAt w p.1 (ord p.2)
/-- The call owns, from block B on, the slice v and its inner slices, all in blocks of their own. -/
def OwnNest (e e1 : TypeId) (w : World) (B : Nat) (v : Value) (xs : List α) : Prop :=
  ∃ es : List (Value × α), es.map Prod.snd = xs ∧ w.ownsRow B e size v es.length (ncs f es) ∧ (∀ p ∈ es, OwnI e1 w B p.1 (ord p.2)) ∧
    es.Pairwise (fun p q => p.1.ownBlock = none ∨ p.1.ownBlock ≠ q.1.ownBlock) ∧ ∀ p ∈ es, p.1.ownBlock = none ∨ p.1.ownBlock ≠ v.ownBlock
end

section
variable {α : Type} {f : Value → α → List Value} {ord : α → List ByteArray} {size : Nat}

theorem NestAt.below {w w' : World} {v : Value} {xs : List α} (h : NestAt f ord size w v xs) (hb : Below w.heap.size w w') : NestAt f ord size w' v xs := by
  obtain ⟨es, h1, h2, h3⟩ := h
  exact ⟨es, h1, h2.below hb, fun p hp => (h3 p hp).below hb⟩
theorem NestAt.form {w : World} {v : Value} {xs : List α} (h : NestAt f ord size w v xs) : ∃ ao cap, v = .slice ao xs.length cap := by
  obtain ⟨es, rfl, h2, _⟩ := h
  simpa using h2.form
theorem NestAt.len {w : World} {v : Value} {xs : List α} (h : NestAt f ord size w v xs) : xs.length ≤ maxLen := by
  obtain ⟨es, rfl, ⟨_, _, _, _, h1, h2, _⟩, _⟩ := h
  simp; omega
/-- One element: its cells, and its inner slice. -/
theorem NestAt.get (hsz : ∀ u x, (f u x).length = size) {w : World} {ao : Option Addr} {cap : Nat} {xs : List α} (h : NestAt f ord size w (.slice ao xs.length cap) xs) {k : Nat} (hk : k < xs.length) :
    ∃ b off u, ao = some ⟨b, off, none⟩ ∧ b < w.heap.size ∧ StrsAt w u (ord xs[k]) ∧ ∀ j, j < size → w.cell? ⟨b, off + k * size + j, none⟩ = (f u xs[k])[j]? := by
  obtain ⟨es, he, ⟨_, ao', cap', hs, h1, h2, h3⟩, h4⟩ := h
  have hke : k < es.length := by rw [← he] at hk; simpa using hk
  obtain ⟨b, off, rfl, hb, hc⟩ := h3 (by omega)
  simp only [Value.slice.injEq] at hs
  obtain ⟨rfl, _, _⟩ := hs
  have hx : xs[k] = es[k].2 := by subst he; simp
  refine ⟨b, off, es[k].1, rfl, hb, ?_, ?_⟩
  · rw [hx]; exact h4 _ (List.getElem_mem hke)
  · rw [hx]; exact CellsAt.flat (fun p : Value × α => f p.1 p.2) size (fun p => hsz _ _) hc hke
theorem OwnNest.at_ {e e1 : TypeId} {w : World} {B : Nat} {v : Value} {xs : List α} (h : OwnNest f ord size e e1 w B v xs) : NestAt f ord size w v xs := by
  obtain ⟨es, h1, h2, h3, _⟩ := h
  exact ⟨es, h1, rowAt_of_own h2, fun p hp => (h3 p hp).at_⟩
theorem OwnNest.below {e e1 : TypeId} {w w' : World} {B : Nat} {v : Value} {xs : List α} (h : OwnNest f ord size e e1 w B v xs) (hb : Below w.heap.size w w') : OwnNest f ord size e e1 w' B v xs := by
  obtain ⟨es, h1, h2, h3, h4⟩ := h
  exact ⟨es, h1, own_below h2 hb, fun p hp => (h3 p hp).below hb, h4⟩
theorem OwnNest.nil (e e1 : TypeId) (w : World) (B : Nat) : OwnNest f ord size e e1 w B (.slice none 0 0) [] :=
  ⟨[], rfl, World.ownsRow_nil w B e size, by simp, List.Pairwise.nil, by simp⟩

end

def Inn (e1 : TypeId) (w : World) (lo hi : Nat) (us : List Value) (L : List (List ByteArray)) : Prop :=
  us.length = L.length ∧ ∀ i (h : i < us.length) (h' : i < L.length), OwnR e1 w lo hi us[i] L[i]
def Apart (us : List Value) : Prop := us.Pairwise (fun p q => p.ownBlock = none ∨ p.ownBlock ≠ q.ownBlock)
theorem Apart.ne {us : List Value} (h : Apart us) {i j : Nat} (hi : i < us.length) (hj : j < us.length) (hne : i ≠ j) : us[i].ownBlock = none ∨ us[i].ownBlock ≠ us[j].ownBlock := by
  rcases Nat.lt_or_ge i j with h1 | h1
  · exact List.pairwise_iff_getElem.1 h i j hi hj h1
  · have := List.pairwise_iff_getElem.1 h j i hj hi (by omega)
    rcases this with h2 | h2
    · rw [h2]; cases us[i].ownBlock <;> simp
    · exact .inr (fun e => h2 e.symm)
theorem Inn.keep {e1 : TypeId} {w w' : World} {lo hi : Nat} {us : List Value} {L : List (List ByteArray)} (h : Inn e1 w lo hi us L) (hs : SameIn lo hi w w') : Inn e1 w' lo hi us L :=
  ⟨h.1, fun i h1 h2 => (h.2 i h1 h2).keep hs⟩
theorem OwnR.kept' {e1 : TypeId} {w w' : World} {lo hi : Nat} {u : Value} {xs : List ByteArray} (h : OwnR e1 w lo hi u xs) {row : Option Nat} (hg : w.grownBy w' row) (hd : u.ownBlock = none ∨ u.ownBlock ≠ row) : OwnR e1 w' lo hi u xs :=
  ⟨h.1.kept hg hd, h.2.1, Nat.le_trans h.2.2 hg.size⟩
/-- One inner slice is written. -/
theorem Inn.mark {e1 : TypeId} {w w' : World} {lo hi : Nat} {us : List Value} {L : List (List ByteArray)} (h : Inn e1 w lo hi us L) (hp : Apart us) {i : Nat} (hi' : i < us.length) {ys : List ByteArray} (hg : w.grownBy w' us[i].ownBlock) (hy : OwnR e1 w' lo hi us[i] ys) : Inn e1 w' lo hi us (L.set i ys) := by
  refine ⟨by simpa using h.1, fun j h1 h2 => ?_⟩
  by_cases hij : i = j
  · subst hij; simpa using hy
  · have h3 := h.2 j h1 (by simpa using h2)
    rw [List.getElem_set_ne (by omega)]
    exact h3.kept' hg (hp.ne h1 hi' (by omega))
/-- The outer row is written. -/
theorem Inn.grown {e1 : TypeId} {w w' : World} {lo hi : Nat} {us : List Value} {L : List (List ByteArray)} (h : Inn e1 w lo hi us L) {row : Option Nat} (hg : w.grownBy w' row) (hd : ∀ u ∈ us, u.ownBlock = none ∨ u.ownBlock ≠ row) : Inn e1 w' lo hi us L :=
  ⟨h.1, fun j h1 h2 => (h.2 j h1 h2).kept' hg (hd _ (List.getElem_mem h1))⟩

section
variable {α : Type} (f : Value → α → List Value) (ord : α → List ByteArray) (size : Nat)
/-- A slice of elements with inner slices, all in blocks from lo to hi, apart from one another. -/
def OwnNN (e e1 : TypeId) (w : World) (lo hi : Nat) (v : Value) (xs : List α) : Prop :=
  ∃ us : List Value, us.length = xs.length ∧ OwnIn e size lo hi w v xs.length (ncs f (us.zip xs)) ∧ Inn e1 w lo hi us (xs.map ord) ∧ Apart us ∧ ∀ u ∈ us, u.ownBlock = none ∨ u.ownBlock ≠ v.ownBlock
end

section
variable {α : Type} {f : Value → α → List Value} {ord : α → List ByteArray} {size : Nat}
theorem OwnNN.keep {e e1 : TypeId} {lo hi : Nat} {w w' : World} {v : Value} {xs : List α} (h : OwnNN f ord size e e1 w lo hi v xs) (hs : SameIn lo hi w w') : OwnNN f ord size e e1 w' lo hi v xs := by
  obtain ⟨us, h1, h2, h3, h4⟩ := h
  exact ⟨us, h1, h2.keep hs, h3.keep hs, h4⟩
theorem OwnNN.hiLe {e e1 : TypeId} {lo hi : Nat} {w : World} {v : Value} {xs : List α} (h : OwnNN f ord size e e1 w lo hi v xs) : hi ≤ w.heap.size := by
  obtain ⟨us, h1, h2, _⟩ := h
  exact h2.2.2
theorem OwnNN.at_ {e e1 : TypeId} {lo hi : Nat} {w : World} {v : Value} {xs : List α} (h : OwnNN f ord size e e1 w lo hi v xs) : NestAt f ord size w v xs := by
  obtain ⟨us, h1, h2, h3, _⟩ := h
  have hl : (us.zip xs).length = xs.length := by simp [h1]
  refine ⟨us.zip xs, List.map_snd_zip (by omega), by rw [hl]; exact h2.at_, fun p hp => ?_⟩
  obtain ⟨i, hi', rfl⟩ := List.mem_iff_getElem.1 hp
  rw [hl] at hi'
  have := (h3.2 i (by omega) (by simpa using hi')).at_
  simpa using this
theorem OwnNest.base {e e1 : TypeId} {B B' : Nat} {w : World} {v : Value} {xs : List α} (h : OwnNest f ord size e e1 w B v xs) (hB : B' ≤ B) : OwnNest f ord size e e1 w B' v xs := by
  obtain ⟨es, h1, h2, h3, h4⟩ := h
  exact ⟨es, h1, own_base h2 hB, fun p hp => own_base (h3 p hp) hB, h4⟩
theorem OwnNest.toR {e e1 : TypeId} {B : Nat} {w : World} {v : Value} {xs : List α} (h : OwnNest f ord size e e1 w B v xs) : OwnNN f ord size e e1 w B w.heap.size v xs := by
  obtain ⟨es, h1, h2, h3, h4, h5⟩ := h
  have hz : es = (es.map Prod.fst).zip xs := List.zip_of_prod rfl h1
  have hl : es.length = xs.length := by rw [← h1]; simp
  refine ⟨es.map Prod.fst, by simpa using hl, by rw [← hz, ← hl]; exact OwnIn.of h2, ⟨by simpa using hl, fun i hi1 hi2 => ?_⟩, ?_, ?_⟩
  · have hi1' : i < es.length := by simpa using hi1
    have := h3 _ (List.getElem_mem hi1')
    have hx : xs[i]'(by omega) = es[i].2 := by simp [← h1]
    simp only [List.getElem_map, hx]
    exact this.toR
  · unfold Apart
    rw [List.pairwise_map]
    exact h4
  · intro u hu
    obtain ⟨p, hp, rfl⟩ := List.mem_map.1 hu
    exact h5 p hp
end

section
variable {α : Type} {f : Value → α → List Value} {ord : α → List ByteArray} {size : Nat}

theorem OwnNest.lit (e e1 : TypeId) (w : World) : OwnNest f ord size e e1 (w.alloc (.cells #[] e)) w.heap.size (.slice (some ⟨w.heap.size, 0, none⟩) 0 0) [] :=
  ⟨[], rfl, own_empty w e size, by simp, List.Pairwise.nil, by simp⟩

/-- 'append(v, x)', x a struct around an inner slice u of the call's own. -/
theorem wpList_push_nest {P : Program} {w : World} {ops : Array Oper} {rest : List Oper} {o : Oper} {a : Act} {Q : Exit → Act → World → Prop} (hgd : o.guard = none) (s x : Operand) (t : TypeId)
    (ho : o.op = .call { callee := .builtin .append, args := #[s, x], argTypes := #[t, t] }) (hsz : ∀ u x, (f u x).length = size)
    (B : Nat) (e e1 e' : TypeId) (z : Value) (bytes : Nat) (hinfo : (P.info? e).map (fun i => (i.zero, i.size, i.bytes)) = some (some z, size, bytes)) (ht : P.underlying t = some (.slice e)) (hzs : z.cells.size = size) (hsp : 0 < size) (hby : bytes ≤ 1000)
    (v : Value) (xs : List α) (u : Value) (y : α) (arr : Array Value) (hs : a.eval s = v) (es : List (Value × α)) (he : es.map Prod.snd = xs) (hrow : w.ownsRow B e size v es.length (ncs f es)) (hin : ∀ p ∈ es, OwnI e1 w B p.1 (ord p.2)) (hpw : es.Pairwise (fun p q => p.1.ownBlock = none ∨ p.1.ownBlock ≠ q.1.ownBlock)) (hd : ∀ p ∈ es, p.1.ownBlock = none ∨ p.1.ownBlock ≠ v.ownBlock) (hu : OwnI e1 w B u (ord y)) (har : arr.toList = f u y) (h1 : ∀ c ∈ f u y, c.oneCell' = true)
    (hdv : u.ownBlock = none ∨ u.ownBlock ≠ v.ownBlock) (hnew : ∀ p ∈ es, p.1.ownBlock = none ∨ p.1.ownBlock ≠ u.ownBlock)
    (hx : a.eval x = .slice (some ⟨w.heap.size, 0, none⟩) 1 1) (hB : B ≤ w.heap.size) (hn : xs.length ≤ 4000000)
    (h : ∀ v' w', OwnNest f ord size e e1 w' B v' (xs ++ [y]) → w.grownBy w' v.ownBlock → (v'.ownBlock = v.ownBlock ∨ ∃ b, v'.ownBlock = some b ∧ w.heap.size ≤ b) → Below B w w' → wpList P ops Q rest (a.put o.dst v') w') :
    wpList P ops Q (o :: rest) a (w.alloc (.cells arr e')) := by
  obtain ⟨i0, hi, hz0, hz1, hz2⟩ := info_parts hinfo
  have hel : es.length = xs.length := by rw [← he]; simp
  have hal : Below w.heap.size w (w.alloc (.cells arr e')) := (Below.refl _ _).alloc (Nat.le_refl _) _
  have hbb : (es.length + 1) * bytes ≤ 4000001 * 1000 := Nat.mul_le_mul (by omega) hby
  have har' : arr.size = size := by rw [← Array.length_toList, har, hsz]
  refine wpList_append_row _ hgd s x t ho B e i0 z size bytes ht hi hz0 hz1 hz2 hzs hsp v es.length (ncs f es) hs (own_below hrow hal) _ 1 arr.toList hx (row_new w arr e' size har') (by rw [har]; exact h1) (by unfold maxLen; omega) (by omega) (by simp; omega) ?_
  intro v' w' h2 h3 h4
  have hg : w.grownBy w' v.ownBlock := by
    refine ⟨h3.os, h3.tape, h3.output, by have := h3.size; simp at this; omega, fun k hk hne => ?_⟩
    rw [h3.block k (by simp; omega) hne]
    exact hal.block k hk
  refine h v' w' ⟨es ++ [(u, y)], by rw [List.map_append, he]; rfl, ?_, ?_, ?_, ?_⟩ hg ?_ ((hal.mono hB).grown h3 (by simp; omega) (fun k hk => (hrow.lt k hk).1))
  · have : ncs f (es ++ [(u, y)]) = ncs f es ++ arr.toList := by simp [ncs, har]
    rw [this]
    simpa using h2
  · intro p hp
    rcases List.mem_append.1 hp with hp | hp
    · exact (hin p hp).kept hg (hd p hp)
    · simp only [List.mem_singleton] at hp
      subst hp
      exact hu.kept hg hdv
  · rw [List.pairwise_append]
    refine ⟨hpw, List.pairwise_singleton _ _, fun p hp q hq => ?_⟩
    simp only [List.mem_singleton] at hq
    subst hq
    exact hnew p hp
  · intro p hp
    have hlt : ∀ b, p.1.ownBlock = some b → b < w.heap.size := by
      intro b hb
      rcases List.mem_append.1 hp with hp | hp
      · exact ((hin p hp).lt b hb).2
      · simp only [List.mem_singleton] at hp
        subst hp
        exact (hu.lt b hb).2
    rcases h4 with h4 | h4
    · rw [h4]
      rcases List.mem_append.1 hp with hp | hp
      · exact hd p hp
      · simp only [List.mem_singleton] at hp
        subst hp
        exact hdv
    · cases hb : p.1.ownBlock with
      | none => exact .inl rfl
      | some b =>
        refine .inr fun hc => ?_
        have h5 := hlt b hb
        rw [h4] at hc
        simp only [World.size_alloc, Option.some.injEq] at hc
        omega
  · rcases h4 with h4 | h4
    · exact .inl h4
    · exact .inr ⟨_, h4, by simp⟩
end

section
variable {α : Type} {f : Value → α → List Value} {ord : α → List ByteArray} {size : Nat}
theorem nest_blk {e e1 : TypeId} {B : Nat} {w : World} {v : Value} {xs : List α} (h : OwnNest f ord size e e1 w B v xs) : some w.heap.size ≠ v.ownBlock := by
  obtain ⟨es, he, h2, _⟩ := h
  intro hc
  have := (h2.lt w.heap.size hc.symm).2
  omega
/-- 'append(v, x)' at a step of a region that draws: x a struct around an inner slice u of the call's own. -/
theorem step_push_nest {P : Program} {w : World} {ops : Array Oper} {o : Oper} {a : Act} {K : Act → World → Prop} {Q : Exit → Act → World → Prop} {E : Prop} (hgd : o.guard = none) (s x : Operand) (t : TypeId)
    (ho : o.op = .call { callee := .builtin .append, args := #[s, x], argTypes := #[t, t] }) (hsz : ∀ u x, (f u x).length = size)
    (B : Nat) (e e1 e' : TypeId) (z : Value) (bytes : Nat) (hinfo : (P.info? e).map (fun i => (i.zero, i.size, i.bytes)) = some (some z, size, bytes)) (ht : P.underlying t = some (.slice e)) (hzs : z.cells.size = size) (hsp : 0 < size) (hby : bytes ≤ 1000)
    (v : Value) (xs : List α) (u : Value) (y : α) (arr : Array Value) (hs : a.eval s = v) (w0 : World) (hnest : OwnNest f ord size e e1 w0 B v xs) (hb0 : Below w0.heap.size w0 w) (hu : OwnI e1 w w0.heap.size u (ord y)) (har : arr.toList = f u y) (h1 : ∀ c ∈ f u y, c.oneCell' = true)
    (hx : a.eval x = .slice (some ⟨w.heap.size, 0, none⟩) 1 1) (hB : B ≤ w0.heap.size) (hn : xs.length ≤ 4000000)
    (h : ∀ v' w', OwnNest f ord size e e1 w' B v' (xs ++ [y]) → Below B w w' → w.grownBy w' v.ownBlock → K (a.put o.dst v') w') :
    if Region.wanted o (yielded ops a.tmps) = true then Oper.wp P o a (w.alloc (.cells arr e')) K Q else E := by
  obtain ⟨es, he, hrow0, hin0, hpw, hd⟩ := hnest
  have hel : es.length = xs.length := by rw [← he]; simp
  have hrow := own_below hrow0 hb0
  have hal : Below w.heap.size w (w.alloc (.cells arr e')) := (Below.refl _ _).alloc (Nat.le_refl _) _
  have har' : arr.size = size := by rw [← Array.length_toList, har, hsz]
  have hBw : B ≤ w.heap.size := Nat.le_trans hB hb0.size
  have hlt0 : ∀ p ∈ es, ∀ b, p.1.ownBlock = some b → b < w0.heap.size := fun p hp b hb' => ((hin0 p hp).lt b hb').2
  have hult : ∀ b, u.ownBlock = some b → w0.heap.size ≤ b ∧ b < w.heap.size := fun b hb' => hu.lt b hb'
  have hvlt : ∀ b, v.ownBlock = some b → b < w0.heap.size := fun b hb' => (hrow0.lt b hb').2
  have hnew : ∀ p ∈ es, p.1.ownBlock = none ∨ p.1.ownBlock ≠ u.ownBlock := fun p hp => by
    cases hpb : p.1.ownBlock with
    | none => exact .inl rfl
    | some b =>
      refine .inr fun hc => ?_
      have h6 := hlt0 p hp b hpb
      have h7 := hult b hc.symm
      omega
  have hdv : u.ownBlock = none ∨ u.ownBlock ≠ v.ownBlock := by
    cases hub : u.ownBlock with
    | none => exact .inl rfl
    | some b =>
      refine .inr fun hc => ?_
      have h6 := hvlt b hc.symm
      have h7 := hult b hub
      omega
  refine step_append_row hgd s x t ho B e z size bytes hinfo ht hzs hsp hby v es.length (ncs f es) hs (own_below hrow hal) _ 1 arr.toList hx (row_new w arr e' size har') (by rw [har]; exact h1) (by omega) (by omega) (by simp; omega) ?_
  intro v' w' h2 h3 h4
  have hg : w.grownBy w' v.ownBlock := by
    refine ⟨h3.os, h3.tape, h3.output, by have := h3.size; simp at this; omega, fun k hk hne => ?_⟩
    rw [h3.block k (by simp; omega) hne]
    exact hal.block k hk
  refine h v' w' ⟨es ++ [(u, y)], by rw [List.map_append, he]; rfl, ?_, ?_, ?_, ?_⟩ ((hal.mono hBw).grown h3 (by simp; omega) (fun k hk => (hrow.lt k hk).1)) hg
  · have : ncs f (es ++ [(u, y)]) = ncs f es ++ arr.toList := by simp [ncs, har]
    rw [this]
    simpa using h2
  · intro p hp
    rcases List.mem_append.1 hp with hp | hp
    · exact ((hin0 p hp).below hb0).kept hg (hd p hp)
    · simp only [List.mem_singleton] at hp
      subst hp
      exact (own_base hu hB).kept hg hdv
  · rw [List.pairwise_append]
    refine ⟨hpw, List.pairwise_singleton _ _, fun p hp q hq => ?_⟩
    simp only [List.mem_singleton] at hq
    subst hq
    exact hnew p hp
  · intro p hp
    have hlt : ∀ b, p.1.ownBlock = some b → b < w.heap.size := by
      intro b hb
      have hbs := hb0.size
      rcases List.mem_append.1 hp with hp | hp
      · have := hlt0 p hp b hb; omega
      · simp only [List.mem_singleton] at hp
        subst hp
        exact (hult b hb).2
    rcases h4 with h4 | h4
    · rw [h4]
      rcases List.mem_append.1 hp with hp | hp
      · exact hd p hp
      · simp only [List.mem_singleton] at hp
        subst hp
        exact hdv
    · cases hb : p.1.ownBlock with
      | none => exact .inl rfl
      | some b =>
        refine .inr fun hc => ?_
        have h5 := hlt b hb
        rw [h4] at hc
        simp only [World.size_alloc, Option.some.injEq] at hc
        omega
end

section
variable {α : Type} {f : Value → α → List Value} {ord : α → List ByteArray} {size : Nat}
/-- 'append(v, x)', the slice v as it was at an earlier world w0, x around an inner slice made since. -/
theorem wpList_push_nest0 {P : Program} {w : World} {ops : Array Oper} {rest : List Oper} {o : Oper} {a : Act} {Q : Exit → Act → World → Prop} (hgd : o.guard = none) (s x : Operand) (t : TypeId)
    (ho : o.op = .call { callee := .builtin .append, args := #[s, x], argTypes := #[t, t] }) (hsz : ∀ u x, (f u x).length = size)
    (B : Nat) (e e1 e' : TypeId) (z : Value) (bytes : Nat) (hinfo : (P.info? e).map (fun i => (i.zero, i.size, i.bytes)) = some (some z, size, bytes)) (ht : P.underlying t = some (.slice e)) (hzs : z.cells.size = size) (hsp : 0 < size) (hby : bytes ≤ 1000)
    (v : Value) (xs : List α) (u : Value) (y : α) (arr : Array Value) (hs : a.eval s = v) (w0 : World) (hnest : OwnNest f ord size e e1 w0 B v xs) (hb0 : Below w0.heap.size w0 w) (hu : OwnI e1 w w0.heap.size u (ord y)) (har : arr.toList = f u y) (h1 : ∀ c ∈ f u y, c.oneCell' = true)
    (hx : a.eval x = .slice (some ⟨w.heap.size, 0, none⟩) 1 1) (hB : B ≤ w0.heap.size) (hn : xs.length ≤ 4000000)
    (h : ∀ v' w', OwnNest f ord size e e1 w' B v' (xs ++ [y]) → Below B w w' → w.grownBy w' v.ownBlock → (v'.ownBlock = v.ownBlock ∨ ∃ b, v'.ownBlock = some b ∧ w.heap.size ≤ b) → wpList P ops Q rest (a.put o.dst v') w') :
    wpList P ops Q (o :: rest) a (w.alloc (.cells arr e')) := by
  obtain ⟨es, he, hrow0, hin0, hpw, hd⟩ := hnest
  have hBw : B ≤ w.heap.size := Nat.le_trans hB hb0.size
  have hlt0 : ∀ p ∈ es, ∀ b, p.1.ownBlock = some b → b < w0.heap.size := fun p hp b hb' => ((hin0 p hp).lt b hb').2
  have hult : ∀ b, u.ownBlock = some b → w0.heap.size ≤ b ∧ b < w.heap.size := fun b hb' => hu.lt b hb'
  have hvlt : ∀ b, v.ownBlock = some b → b < w0.heap.size := fun b hb' => (hrow0.lt b hb').2
  have hnew : ∀ p ∈ es, p.1.ownBlock = none ∨ p.1.ownBlock ≠ u.ownBlock := fun p hp => by
    cases hpb : p.1.ownBlock with
    | none => exact .inl rfl
    | some b =>
      refine .inr fun hc => ?_
      have h6 := hlt0 p hp b hpb
      have h7 := hult b hc.symm
      omega
  have hdv : u.ownBlock = none ∨ u.ownBlock ≠ v.ownBlock := by
    cases hub : u.ownBlock with
    | none => exact .inl rfl
    | some b =>
      refine .inr fun hc => ?_
      have h6 := hvlt b hc.symm
      have h7 := hult b hub
      omega
  exact wpList_push_nest hgd s x t ho hsz B e e1 e' z bytes hinfo ht hzs hsp hby v xs u y arr hs es he (own_below hrow0 hb0) (fun p hp => (hin0 p hp).below hb0) hpw hd (own_base hu hB) har h1 hdv hnew hx hBw hn (fun v' w' k1 k2 k3 k4 => h v' w' k1 k4 k2 k3)
end

end Go.Proofs.Ytpjmcjdnobihbaa.Sn
