/- Slices of structs around inner slices of the call's own that may be shared: append, the first element. Of no program. No conditions beyond sizes. -/
import Derived.Test.YtpjmcjdnobihbaaNestP
import Derived.Test.YtpjmcjdnobihbaaCur
namespace Go.Proofs.Ytpjmcjdnobihbaa
open Go.RowKit
set_option linter.unusedVariables false
set_option linter.unusedSimpArgs false

section
variable {α : Type} (f : Value → α → List Value) (ord : α → List Int) (size : Nat)
/-- The row is the call's own; the inner slices are too, none in the row's block, but two may be one. -/
def LooseN (e e1 : TypeId) (w : World) (B : Nat) (v : Value) (xs : List α) : Prop :=
  ∃ es : List (Value × α), es.map Prod.snd = xs ∧ w.ownsRow B e size v es.length (ncs f es) ∧ (∀ p ∈ es, OwnI e1 w B p.1 (ord p.2)) ∧ ∀ p ∈ es, p.1.ownBlock = none ∨ p.1.ownBlock ≠ v.ownBlock
end

section
variable {α : Type} {f : Value → α → List Value} {ord : α → List Int} {size : Nat}
theorem LooseN.at_ {e e1 : TypeId} {w : World} {B : Nat} {v : Value} {xs : List α} (h : LooseN f ord size e e1 w B v xs) : NestAt f ord size w v xs := by
  obtain ⟨es, h1, h2, h3, _⟩ := h
  exact ⟨es, h1, rowAt_of_own h2, fun p hp => (h3 p hp).at_⟩
theorem LooseN.below {e e1 : TypeId} {w w' : World} {B : Nat} {v : Value} {xs : List α} (h : LooseN f ord size e e1 w B v xs) (hb : Below w.heap.size w w') : LooseN f ord size e e1 w' B v xs := by
  obtain ⟨es, h1, h2, h3, h4⟩ := h
  exact ⟨es, h1, own_below h2 hb, fun p hp => (h3 p hp).below hb, h4⟩
theorem LooseN.out {e e1 : TypeId} {w w' : World} {B lo hi : Nat} {v : Value} {xs : List α} (h : LooseN f ord size e e1 w B v xs) (ho : OutOf lo hi w w') (hB : hi ≤ B) : LooseN f ord size e e1 w' B v xs := by
  obtain ⟨es, h1, h2, h3, h4⟩ := h
  exact ⟨es, h1, own_outQ h2 ho hB, fun p hp => own_outQ (h3 p hp) ho hB, h4⟩
theorem LooseN.base {e e1 : TypeId} {w : World} {B B' : Nat} {v : Value} {xs : List α} (h : LooseN f ord size e e1 w B v xs) (hB : B' ≤ B) : LooseN f ord size e e1 w B' v xs := by
  obtain ⟨es, h1, h2, h3, h4⟩ := h
  exact ⟨es, h1, own_base h2 hB, fun p hp => own_base (h3 p hp) hB, h4⟩
theorem LooseN.lit (e e1 : TypeId) (w : World) : LooseN f ord size e e1 (w.alloc (.cells #[] e)) w.heap.size (.slice (some ⟨w.heap.size, 0, none⟩) 0 0) [] :=
  ⟨[], rfl, own_empty w e size, by simp, by simp⟩
theorem LooseN.form {e e1 : TypeId} {w : World} {B : Nat} {v : Value} {xs : List α} (h : LooseN f ord size e e1 w B v xs) : ∃ ao cap, v = .slice ao xs.length cap := NestAt.form (LooseN.at_ h)
theorem LooseN.blk {e e1 : TypeId} {w : World} {B : Nat} {v : Value} {xs : List α} (h : LooseN f ord size e e1 w B v xs) {b : Nat} (hb : v.ownBlock = some b) : B ≤ b ∧ b < w.heap.size := by
  obtain ⟨es, _, h2, _⟩ := h
  exact h2.lt b hb
/-- 'append(v, x)', x a struct around an inner slice u. -/
theorem wpList_push_loose {P : Program} {w : World} {ops : Array Oper} {rest : List Oper} {o : Oper} {a : Act} {Q : Exit → Act → World → Prop} (hgd : o.guard = none) (s x : Operand) (t : TypeId)
    (ho : o.op = .call { callee := .builtin .append, args := #[s, x], argTypes := #[t, t] }) (hsz : ∀ u x, (f u x).length = size)
    (B : Nat) (e e1 e' : TypeId) (z : Value) (bytes : Nat) (hinfo : (P.info? e).map (fun i => (i.zero, i.size, i.bytes)) = some (some z, size, bytes)) (ht : P.underlying t = some (.slice e)) (hzs : z.cells.size = size) (hsp : 0 < size) (hby : bytes ≤ 1000)
    (v : Value) (xs : List α) (u : Value) (y : α) (arr : Array Value) (hs : a.eval s = v) (hnest : LooseN f ord size e e1 w B v xs) (hu : OwnI e1 w B u (ord y)) (hdv : u.ownBlock = none ∨ u.ownBlock ≠ v.ownBlock) (har : arr.toList = f u y) (h1 : ∀ c ∈ f u y, c.oneCell' = true)
    (hx : a.eval x = .slice (some ⟨w.heap.size, 0, none⟩) 1 1) (hB : B ≤ w.heap.size) (hn : xs.length ≤ 4000000)
    (h : ∀ v' w', LooseN f ord size e e1 w' B v' (xs ++ [y]) → w.grownBy w' v.ownBlock → Below B w w' → wpList P ops Q rest (a.put o.dst v') w') :
    wpList P ops Q (o :: rest) a (w.alloc (.cells arr e')) := by
  obtain ⟨es, he, hrow, hin, hd⟩ := hnest
  obtain ⟨i0, hi, hz0, hz1, hz2⟩ := info_parts hinfo
  have hel : es.length = xs.length := by rw [← he]; simp
  have hal : Below w.heap.size w (w.alloc (.cells arr e')) := (Below.refl _ _).alloc (Nat.le_refl _) _
  have hbb : (es.length + 1) * bytes ≤ 4000001 * 1000 := Nat.mul_le_mul (by omega) hby
  have har' : arr.size = size := by rw [← Array.length_toList, har, hsz]
  refine wpList_append_row _ hgd s x t ho B e i0 z size bytes ht hi hz0 hz1 hz2 hzs hsp v es.length (ncs f es) hs (own_below hrow hal) _ 1 arr.toList hx (row_new w arr e' size har') (by rw [har]; exact h1) (by unfold maxLen; omega) (by omega) (by simp; omega) ?_
  intro v' w' h2 h3 h4
  have hg : w.grownBy w' v.ownBlock := by
    refine ⟨h3.os, h3.tape, h3.output, by have := h3.size; simp at this; omega, fun k hk hne => ?_⟩
    rw [h3.block k (by simp; omega) hne]
    exact hal.block k hk
  refine h v' w' ⟨es ++ [(u, y)], by rw [List.map_append, he]; rfl, ?_, ?_, ?_⟩ hg ((hal.mono hB).grown h3 (by simp; omega) (fun k hk => (hrow.lt k hk).1))
  · have : ncs f (es ++ [(u, y)]) = ncs f es ++ arr.toList := by simp [ncs, har]
    rw [this]
    simpa using h2
  · intro p hp
    rcases List.mem_append.1 hp with hp | hp
    · exact (hin p hp).kept hg (hd p hp)
    · simp only [List.mem_singleton] at hp
      subst hp
      exact hu.kept hg hdv
  · intro p hp
    have hlt : ∀ b, p.1.ownBlock = some b → b < w.heap.size := by
      intro b hb
      rcases List.mem_append.1 hp with hp | hp
      · exact ((hin p hp).lt b hb).2
      · simp only [List.mem_singleton] at hp
        subst hp
        exact (hu.lt b hb).2
    rcases h4 with h4 | h4
    · rw [h4]
      rcases List.mem_append.1 hp with hp | hp
      · exact hd p hp
      · simp only [List.mem_singleton] at hp
        subst hp
        exact hdv
    · cases hb : p.1.ownBlock with
      | none => exact .inl rfl
      | some b =>
        refine .inr fun hc => ?_
        have h5 := hlt b hb
        rw [h4] at hc
        simp only [World.size_alloc, Option.some.injEq] at hc
        omega
end

/-- The first of elements of two cells: where it lies; another is put in its place. -/
theorem loose_first {α : Type} {g2 : α → Value} {ord : α → List Int} {e e1 : TypeId} {w : World} {B : Nat} {v : Value} {xs : List α} (h : LooseN (fun u x => [u, g2 x]) ord 2 e e1 w B v xs) (h0 : 0 < xs.length) :
    ∃ g cap u0 x0 xr, v = .slice (some ⟨g, 0, none⟩) xs.length cap ∧ xs = x0 :: xr ∧ B ≤ g ∧ g < w.heap.size ∧ w.cell? ⟨g, 0, none⟩ = some u0 ∧ w.cell? ⟨g, 1, none⟩ = some (g2 x0) ∧ (∀ i, w.frozen? ⟨g, i, none⟩ = false) ∧ OwnI e1 w B u0 (ord x0) ∧ (u0.ownBlock = none ∨ u0.ownBlock ≠ some g) ∧ LooseN (fun u x => [u, g2 x]) ord 2 e e1 w B (.slice (some ⟨g, 0, none⟩) xs.length cap) (x0 :: xr) := by
  have hh := h
  obtain ⟨es, he, h2, h3, h4⟩ := h
  have hel : es.length = xs.length := by rw [← he]; simp
  rcases h2.2 with ⟨_, hn⟩ | ⟨g, cap, cur, hv, hB, hhp, _⟩
  · omega
  · cases es with
    | nil => simp at hel; omega
    | cons pr er =>
      obtain ⟨u0, x0⟩ := pr
      rw [hel] at hv
      have hx : xs = x0 :: er.map Prod.snd := by rw [← he]; rfl
      have h2' := h2
      rw [hv, ← hel] at h2'
      have c0 := h2'.cellAt 0 (by simp)
      have c1 := h2'.cellAt 1 (by simp; omega)
      refine ⟨g, cap, u0, x0, er.map Prod.snd, hv, hx, hB, (Array.getElem?_eq_some_iff.1 hhp).1, ?_, ?_, fun i => h2'.frozenAt i, h3 _ List.mem_cons_self, ?_, ?_⟩
      · rw [c0]; rfl
      · rw [c1]; rfl
      · have := h4 _ List.mem_cons_self; rw [hv] at this; exact this
      · rw [← hv, ← hx]; exact hh
theorem loose_put {α : Type} {g2 : α → Value} {ord : α → List Int} {e e1 : TypeId} {w : World} {B g cap n : Nat} {xr : List α} {x0 y : α} {u : Value} (h : LooseN (fun u x => [u, g2 x]) ord 2 e e1 w B (.slice (some ⟨g, 0, none⟩) n cap) (x0 :: xr)) (hu : OwnI e1 w B u (ord y)) (hd : u.ownBlock = none ∨ u.ownBlock ≠ some g) :
    LooseN (fun u x => [u, g2 x]) ord 2 e e1 ((w.setCell ⟨g, 0, none⟩ u).setCell ⟨g, 1, none⟩ (g2 y)) B (.slice (some ⟨g, 0, none⟩) n cap) (y :: xr) := by
  obtain ⟨es, he, h2, h3, h4⟩ := h
  match es, he with
  | (u0, x0') :: er, he =>
    simp only [List.map_cons, List.cons.injEq] at he
    obtain ⟨rfl, rfl⟩ := he
    obtain rfl : n = ((u0, x0') :: er).length := by obtain ⟨_, _, _, hv, _⟩ := rowAt_of_own h2; cases hv; rfl
    have s1 := h2.stored 0 u
    have s2 := s1.1.stored 1 (g2 y)
    have hg := World.grownBy.trans s1.2 s2.2
    refine ⟨(u, y) :: er, rfl, ?_, ?_, ?_⟩
    · exact s2.1
    · intro p hp
      rcases List.mem_cons.1 hp with rfl | hp
      · exact hu.kept hg hd
      · exact (h3 p (List.mem_cons_of_mem _ hp)).kept hg (h4 p (List.mem_cons_of_mem _ hp))
    · intro p hp
      rcases List.mem_cons.1 hp with rfl | hp
      · exact hd
      · exact h4 p (List.mem_cons_of_mem _ hp)

end Go.Proofs.Ytpjmcjdnobihbaa
