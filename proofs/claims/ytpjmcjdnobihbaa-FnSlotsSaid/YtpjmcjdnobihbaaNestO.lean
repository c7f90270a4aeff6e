/- Slices of structs around inner slices that the call owns: an inner slice is written, an element is put in its place; append of one in a region that draws. Of no program. No conditions beyond sizes. -/
import Derived.Test.YtpjmcjdnobihbaaNestM
import Derived.Test.YtpjmcjdnobihbaaStep
namespace Go.Proofs.Ytpjmcjdnobihbaa
open Go.RowKit
set_option linter.unusedVariables false
set_option linter.unusedSimpArgs false

theorem flat_same {α : Type} (f : α → List Value) (xs : List α) (k : Nat) (hk : k < xs.length) (y : α) (h : f y = f xs[k]) : (xs.set k y).flatMap f = xs.flatMap f := by
  induction xs generalizing k with
  | nil => simp at hk
  | cons a r ih =>
    cases k with
    | zero => simp only [List.set_cons_zero, List.flatMap_cons]; rw [h]; rfl
    | succ k =>
      simp only [List.set_cons_succ, List.flatMap_cons]
      rw [ih k (by simpa using hk) (by simpa using h)]
theorem pw_set {α : Type} {es : List (Value × α)} {k : Nat} {x : α} (hk : k < es.length) (h : es.Pairwise (fun p q => p.1.ownBlock = none ∨ p.1.ownBlock ≠ q.1.ownBlock)) :
    (es.set k (es[k].1, x)).Pairwise (fun p q => p.1.ownBlock = none ∨ p.1.ownBlock ≠ q.1.ownBlock) := by
  rw [List.pairwise_iff_getElem] at h ⊢
  intro i j hi hj hij
  have h1 := h i j (by simpa using hi) (by simpa using hj) hij
  have e : ∀ m (hm : m < (es.set k (es[k].1, x)).length), ((es.set k (es[k].1, x))[m]).1 = (es[m]'(by simpa using hm)).1 := fun m hm => by
    rw [List.getElem_set]
    split
    · rename_i h2; subst h2; rfl
    · rfl
  rw [e, e]
  exact h1

section
variable {α : Type} {f : Value → α → List Value} {ord : α → List Int} {size : Nat}
/-- One inner slice: what it is, and what the whole is once it is written. -/
theorem OwnNest.inner (hsz : ∀ u x, (f u x).length = size) {e e1 : TypeId} {B : Nat} {w : World} {v : Value} {xs : List α} (h : OwnNest f ord size e e1 w B v xs) {k : Nat} (hk : k < xs.length) :
    ∃ u, OwnI e1 w B u (ord xs[k]) ∧ (∃ g cap, v = .slice (some ⟨g, 0, none⟩) xs.length cap ∧ g < w.heap.size ∧ ∀ j, j < size → w.cell? ⟨g, k * size + j, none⟩ = (f u xs[k])[j]?) ∧
      ∀ w' x', w.grownBy w' u.ownBlock → OwnI e1 w' B u (ord x') → f u x' = f u xs[k] → OwnNest f ord size e e1 w' B v (xs.set k x') := by
  obtain ⟨es, he, h2, h3, h4, h5⟩ := h
  have hel : es.length = xs.length := by rw [← he]; simp
  have hke : k < es.length := by omega
  have hx : xs[k] = es[k].2 := by simp [← he]
  refine ⟨es[k].1, by rw [hx]; exact h3 _ (List.getElem_mem hke), ?_, ?_⟩
  · rcases h2.2 with ⟨_, hn⟩ | ⟨g, cap, cur, hv, hB, hh, _⟩
    · omega
    · refine ⟨g, cap, by rw [hv, hel], (Array.getElem?_eq_some_iff.1 hh).1, fun j hj => ?_⟩
      rw [hv] at h2
      have hm : k * size + j < es.length * size := by
        have := Nat.mul_le_mul_right size (show k + 1 ≤ es.length from hke)
        rw [Nat.add_mul] at this
        omega
      rw [h2.cellAt _ hm, hx]
      exact flatm_get (fun p : Value × α => f p.1 p.2) size (fun p => hsz _ _) es k j hke hj
  · intro w' x' hg hu hf
    have hdk := h5 _ (List.getElem_mem hke)
    refine ⟨es.set k (es[k].1, x'), by rw [List.map_set, he], ?_, ?_, pw_set hke h4, ?_⟩
    · have e : ncs f (es.set k (es[k].1, x')) = ncs f es := flat_same (fun p : Value × α => f p.1 p.2) es k hke _ (by show f es[k].1 x' = f es[k].1 es[k].2; rw [hf, hx])
      rw [e, List.length_set]
      refine h2.kept hg ?_
      cases hv : v.ownBlock with
      | none => exact .inl rfl
      | some b =>
        refine .inr fun hc => ?_
        rcases hdk with h0 | h0
        · rw [h0] at hc; cases hc
        · rw [hv] at h0; exact h0 hc.symm
    · intro p hp
      obtain ⟨i, hi, rfl⟩ := List.mem_iff_getElem.1 hp
      have hi' : i < es.length := by simpa using hi
      by_cases hik : k = i
      · subst hik
        simpa using hu
      · rw [List.getElem_set_ne hik]
        exact (h3 _ (List.getElem_mem hi')).kept hg (by
          rcases Nat.lt_or_ge i k with hlt | hge
          · exact List.pairwise_iff_getElem.1 h4 i k hi' hke hlt
          · have := List.pairwise_iff_getElem.1 h4 k i hke hi' (by omega)
            rcases this with h0 | h0
            · rw [h0]; cases es[i].1.ownBlock <;> simp
            · exact .inr (fun e => h0 e.symm))
    · intro p hp
      obtain ⟨i, hi, rfl⟩ := List.mem_iff_getElem.1 hp
      have hi' : i < es.length := by simpa using hi
      by_cases hik : k = i
      · subst hik
        simpa using hdk
      · rw [List.getElem_set_ne hik]
        exact h5 _ (List.getElem_mem hi')

theorem pw_put {α : Type} {es : List (Value × α)} {k : Nat} {u : Value} {x : α} (hk : k < es.length) (h : es.Pairwise (fun p q => p.1.ownBlock = none ∨ p.1.ownBlock ≠ q.1.ownBlock)) (hne : ∀ p ∈ es, p.1.ownBlock = none ∨ p.1.ownBlock ≠ u.ownBlock) :
    (es.set k (u, x)).Pairwise (fun p q => p.1.ownBlock = none ∨ p.1.ownBlock ≠ q.1.ownBlock) := by
  rw [List.pairwise_iff_getElem] at h ⊢
  intro i j hi hj hij
  have hi' : i < es.length := by simpa using hi
  have hj' : j < es.length := by simpa using hj
  have h1 := h i j hi' hj' hij
  rw [List.getElem_set, List.getElem_set]
  split
  · rename_i h2
    split
    · omega
    · have := hne _ (List.getElem_mem hj')
      rcases this with h3 | h3
      · rw [h3]; cases u.ownBlock <;> simp
      · exact .inr (fun e => h3 e.symm)
  · split
    · exact hne _ (List.getElem_mem hi')
    · exact h1
/-- An element with a newer inner slice is put into its place. -/
theorem OwnNest.put (hsz : ∀ u x, (f u x).length = size) {e e1 : TypeId} {B g cap : Nat} {w0 w : World} {xs : List α} (h : OwnNest f ord size e e1 w0 B (.slice (some ⟨g, 0, none⟩) xs.length cap) xs) (hb : Below w0.heap.size w0 w) {k : Nat} (hk : k < xs.length) {u : Value} {x : α}
    (hu : OwnI e1 w w0.heap.size u (ord x)) (hB : B ≤ w0.heap.size) :
    OwnNest f ord size e e1 (w.setCells g (k * size) (f u x)) B (.slice (some ⟨g, 0, none⟩) xs.length cap) (xs.set k x) ∧ w.grownBy (w.setCells g (k * size) (f u x)) (some g) := by
  obtain ⟨es, he, h2, h3, h4, h5⟩ := h
  have hel : es.length = xs.length := by rw [← he]; simp
  have hke : k < es.length := by omega
  have hg0 := (h2.lt g rfl).2
  have hlt : ∀ p ∈ es, ∀ b, p.1.ownBlock = some b → b < w0.heap.size := fun p hp b hb' => ((h3 p hp).lt b hb').2
  have hne : ∀ p ∈ es, p.1.ownBlock = none ∨ p.1.ownBlock ≠ u.ownBlock := fun p hp => by
    cases hpb : p.1.ownBlock with
    | none => exact .inl rfl
    | some b =>
      refine .inr fun hc => ?_
      have h6 := hlt p hp b hpb
      have h7 := (hu.lt b hc.symm).1
      omega
  rw [hel] at h2
  have hm : k * size + size ≤ xs.length * size := by
    have := Nat.mul_le_mul_right size (show k + 1 ≤ xs.length from hk)
    rw [Nat.add_mul] at this
    omega
  have h1 := own_cellsN (f u x) w (k * size) _ (own_below h2 hb) (by rw [hsz]; omega)
  have hcs : (ncs f es).take (k * size) ++ f u x ++ (ncs f es).drop (k * size + (f u x).length) = ncs f (es.set k (u, x)) := by
    have hl := flatm_len (fun p : Value × α => f p.1 p.2) size (fun p => hsz _ _)
    have e1 : es = es.take k ++ es[k] :: es.drop (k + 1) := by rw [← drop_at hke, List.take_append_drop]
    have e2 : es.set k (u, x) = es.take k ++ (u, x) :: es.drop (k + 1) := by
      conv => lhs; rw [e1]
      exact set_mid _ _ _ _ _ (by simp; omega)
    have e3 : ncs f es = ncs f (es.take k) ++ (f es[k].1 es[k].2 ++ ncs f (es.drop (k + 1))) := by
      have e0 := congrArg (ncs f) e1
      rw [e0]
      simp only [ncs, List.flatMap_append, List.flatMap_cons]
    have e4 : (ncs f (es.take k)).length = k * size := by rw [show ncs f (es.take k) = (es.take k).flatMap (fun p => f p.1 p.2) from rfl, hl, List.length_take, Nat.min_eq_left (by omega)]
    rw [e2, e3, List.take_left' e4, hsz]
    have e5 : (ncs f (es.take k) ++ (f es[k].1 es[k].2 ++ ncs f (es.drop (k + 1)))).drop (k * size + size) = ncs f (es.drop (k + 1)) := by
      rw [← List.append_assoc]
      exact List.drop_left' (by rw [List.length_append, e4, hsz])
    rw [e5]
    simp [ncs]
  rw [hcs] at h1
  refine ⟨⟨es.set k (u, x), by rw [List.map_set, he], by rw [List.length_set, hel]; exact h1.1, ?_, pw_put hke h4 hne, ?_⟩, h1.2⟩
  · intro p hp
    obtain ⟨i, hi, rfl⟩ := List.mem_iff_getElem.1 hp
    have hi' : i < es.length := by simpa using hi
    by_cases hik : k = i
    · subst hik
      simp only [List.getElem_set_self]
      exact (own_base hu hB).kept h1.2 (by
        cases hub : u.ownBlock with
        | none => exact .inl rfl
        | some b =>
          refine .inr fun hc => ?_
          cases hc
          have := (hu.lt _ hub).1
          omega)
    · rw [List.getElem_set_ne hik]
      exact ((h3 _ (List.getElem_mem hi')).below hb).kept h1.2 (by simpa [Value.ownBlock] using h5 _ (List.getElem_mem hi'))
  · intro p hp
    obtain ⟨i, hi, rfl⟩ := List.mem_iff_getElem.1 hp
    have hi' : i < es.length := by simpa using hi
    by_cases hik : k = i
    · subst hik
      simp only [List.getElem_set_self]
      cases hub : u.ownBlock with
      | none => exact .inl rfl
      | some b =>
        refine .inr fun hc => ?_
        have hbg : b = g := by simpa [Value.ownBlock] using hc
        have := (hu.lt _ hub).1
        omega
    · rw [List.getElem_set_ne hik]
      exact h5 _ (List.getElem_mem hi')

theorem OwnNest.form2 {e e1 : TypeId} {B : Nat} {w : World} {v : Value} {xs : List α} (h : OwnNest f ord size e e1 w B v xs) (hn : 0 < xs.length) : ∃ g cap, v = .slice (some ⟨g, 0, none⟩) xs.length cap ∧ B ≤ g ∧ g < w.heap.size ∧ (∀ j, w.frozen? ⟨g, j, none⟩ = false) ∧ ∀ j, j < xs.length * size → ∃ y, w.cell? ⟨g, j, none⟩ = some y := by
  obtain ⟨es, he, h2, _⟩ := h
  have hel : es.length = xs.length := by rw [← he]; simp
  obtain ⟨g, c2, e1, e2, e3⟩ := World.ownsRow.form h2 (by omega)
  subst e1
  refine ⟨g, c2, by rw [hel], e2, e3, h2.frozenAt, fun j hj => ?_⟩
  rw [h2.cellAt j (by rw [hel]; exact hj)]
  exact ⟨_, List.getElem?_eq_getElem (by rw [h2.1, hel]; exact hj)⟩
theorem nest_blk {e e1 : TypeId} {B : Nat} {w : World} {v : Value} {xs : List α} (h : OwnNest f ord size e e1 w B v xs) : some w.heap.size ≠ v.ownBlock := by
  obtain ⟨es, he, h2, _⟩ := h
  intro hc
  have := (h2.lt w.heap.size hc.symm).2
  omega
/-- 'append(v, x)' at a step of a region that draws: x a struct around an inner slice u of the call's own. -/
theorem step_push_nest {P : Program} {w : World} {ops : Array Oper} {o : Oper} {a : Act} {K : Act → World → Prop} {Q : Exit → Act → World → Prop} {E : Prop} (hgd : o.guard = none) (s x : Operand) (t : TypeId)
    (ho : o.op = .call { callee := .builtin .append, args := #[s, x], argTypes := #[t, t] }) (hsz : ∀ u x, (f u x).length = size)
    (B : Nat) (e e1 e' : TypeId) (z : Value) (bytes : Nat) (hinfo : (P.info? e).map (fun i => (i.zero, i.size, i.bytes)) = some (some z, size, bytes)) (ht : P.underlying t = some (.slice e)) (hzs : z.cells.size = size) (hsp : 0 < size) (hby : bytes ≤ 1000)
    (v : Value) (xs : List α) (u : Value) (y : α) (arr : Array Value) (hs : a.eval s = v) (w0 : World) (hnest : OwnNest f ord size e e1 w0 B v xs) (hb0 : Below w0.heap.size w0 w) (hu : OwnI e1 w w0.heap.size u (ord y)) (har : arr.toList = f u y) (h1 : ∀ c ∈ f u y, c.oneCell' = true)
    (hx : a.eval x = .slice (some ⟨w.heap.size, 0, none⟩) 1 1) (hB : B ≤ w0.heap.size) (hn : xs.length ≤ 4000000)
    (h : ∀ v' w', OwnNest f ord size e e1 w' B v' (xs ++ [y]) → Below B w w' → w.grownBy w' v.ownBlock → K (a.put o.dst v') w') :
    if Region.wanted o (yielded ops a.tmps) = true then Oper.wp P o a (w.alloc (.cells arr e')) K Q else E := by
  obtain ⟨es, he, hrow0, hin0, hpw, hd⟩ := hnest
  have hel : es.length = xs.length := by rw [← he]; simp
  have hrow := own_below hrow0 hb0
  have hal : Below w.heap.size w (w.alloc (.cells arr e')) := (Below.refl _ _).alloc (Nat.le_refl _) _
  have har' : arr.size = size := by rw [← Array.length_toList, har, hsz]
  have hBw : B ≤ w.heap.size := Nat.le_trans hB hb0.size
  have hlt0 : ∀ p ∈ es, ∀ b, p.1.ownBlock = some b → b < w0.heap.size := fun p hp b hb' => ((hin0 p hp).lt b hb').2
  have hult : ∀ b, u.ownBlock = some b → w0.heap.size ≤ b ∧ b < w.heap.size := fun b hb' => hu.lt b hb'
  have hvlt : ∀ b, v.ownBlock = some b → b < w0.heap.size := fun b hb' => (hrow0.lt b hb').2
  have hnew : ∀ p ∈ es, p.1.ownBlock = none ∨ p.1.ownBlock ≠ u.ownBlock := fun p hp => by
    cases hpb : p.1.ownBlock with
    | none => exact .inl rfl
    | some b =>
      refine .inr fun hc => ?_
      have h6 := hlt0 p hp b hpb
      have h7 := hult b hc.symm
      omega
  have hdv : u.ownBlock = none ∨ u.ownBlock ≠ v.ownBlock := by
    cases hub : u.ownBlock with
    | none => exact .inl rfl
    | some b =>
      refine .inr fun hc => ?_
      have h6 := hvlt b hc.symm
      have h7 := hult b hub
      omega
  refine step_append_row hgd s x t ho B e z size bytes hinfo ht hzs hsp hby v es.length (ncs f es) hs (own_below hrow hal) _ 1 arr.toList hx (row_new w arr e' size har') (by rw [har]; exact h1) (by omega) (by omega) (by simp; omega) ?_
  intro v' w' h2 h3 h4
  have hg : w.grownBy w' v.ownBlock := by
    refine ⟨h3.os, h3.tape, h3.output, by have := h3.size; simp at this; omega, fun k hk hne => ?_⟩
    rw [h3.block k (by simp; omega) hne]
    exact hal.block k hk
  refine h v' w' ⟨es ++ [(u, y)], by rw [List.map_append, he]; rfl, ?_, ?_, ?_, ?_⟩ ((hal.mono hBw).grown h3 (by simp; omega) (fun k hk => (hrow.lt k hk).1)) hg
  · have : ncs f (es ++ [(u, y)]) = ncs f es ++ arr.toList := by simp [ncs, har]
    rw [this]
    simpa using h2
  · intro p hp
    rcases List.mem_append.1 hp with hp | hp
    · exact ((hin0 p hp).below hb0).kept hg (hd p hp)
    · simp only [List.mem_singleton] at hp
      subst hp
      exact (own_base hu hB).kept hg hdv
  · rw [List.pairwise_append]
    refine ⟨hpw, List.pairwise_singleton _ _, fun p hp q hq => ?_⟩
    simp only [List.mem_singleton] at hq
    subst hq
    exact hnew p hp
  · intro p hp
    have hlt : ∀ b, p.1.ownBlock = some b → b < w.heap.size := by
      intro b hb
      have hbs := hb0.size
      rcases List.mem_append.1 hp with hp | hp
      · have := hlt0 p hp b hb; omega
      · simp only [List.mem_singleton] at hp
        subst hp
        exact (hult b hb).2
    rcases h4 with h4 | h4
    · rw [h4]
      rcases List.mem_append.1 hp with hp | hp
      · exact hd p hp
      · simp only [List.mem_singleton] at hp
        subst hp
        exact hdv
    · cases hb : p.1.ownBlock with
      | none => exact .inl rfl
      | some b =>
        refine .inr fun hc => ?_
        have h5 := hlt b hb
        rw [h4] at hc
        simp only [World.size_alloc, Option.some.injEq] at hc
        omega
end

end Go.Proofs.Ytpjmcjdnobihbaa
