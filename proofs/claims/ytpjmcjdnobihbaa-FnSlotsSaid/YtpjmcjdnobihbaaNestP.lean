/- One slice more is appended to an owned slice of slices. Of no program. No conditions beyond sizes. -/
import Derived.Test.YtpjmcjdnobihbaaNest
namespace Go.Proofs.Ytpjmcjdnobihbaa
open Go.RowKit
set_option linter.unusedVariables false
set_option linter.unusedSimpArgs false

section
variable {α : Type} {f : Value → α → List Value} {ord : α → List Int} {size : Nat}

theorem OwnNest.lit (e e1 : TypeId) (w : World) : OwnNest f ord size e e1 (w.alloc (.cells #[] e)) w.heap.size (.slice (some ⟨w.heap.size, 0, none⟩) 0 0) [] :=
  ⟨[], rfl, own_empty w e size, by simp, List.Pairwise.nil, by simp⟩

/-- 'append(v, x)', x a struct around an inner slice u of the call's own. -/
theorem wpList_push_nest {P : Program} {w : World} {ops : Array Oper} {rest : List Oper} {o : Oper} {a : Act} {Q : Exit → Act → World → Prop} (hgd : o.guard = none) (s x : Operand) (t : TypeId)
    (ho : o.op = .call { callee := .builtin .append, args := #[s, x], argTypes := #[t, t] }) (hsz : ∀ u x, (f u x).length = size)
    (B : Nat) (e e1 e' : TypeId) (z : Value) (bytes : Nat) (hinfo : (P.info? e).map (fun i => (i.zero, i.size, i.bytes)) = some (some z, size, bytes)) (ht : P.underlying t = some (.slice e)) (hzs : z.cells.size = size) (hsp : 0 < size) (hby : bytes ≤ 1000)
    (v : Value) (xs : List α) (u : Value) (y : α) (arr : Array Value) (hs : a.eval s = v) (es : List (Value × α)) (he : es.map Prod.snd = xs) (hrow : w.ownsRow B e size v es.length (ncs f es)) (hin : ∀ p ∈ es, OwnI e1 w B p.1 (ord p.2)) (hpw : es.Pairwise (fun p q => p.1.ownBlock = none ∨ p.1.ownBlock ≠ q.1.ownBlock)) (hd : ∀ p ∈ es, p.1.ownBlock = none ∨ p.1.ownBlock ≠ v.ownBlock) (hu : OwnI e1 w B u (ord y)) (har : arr.toList = f u y) (h1 : ∀ c ∈ f u y, c.oneCell' = true)
    (hdv : u.ownBlock = none ∨ u.ownBlock ≠ v.ownBlock) (hnew : ∀ p ∈ es, p.1.ownBlock = none ∨ p.1.ownBlock ≠ u.ownBlock)
    (hx : a.eval x = .slice (some ⟨w.heap.size, 0, none⟩) 1 1) (hB : B ≤ w.heap.size) (hn : xs.length ≤ 4000000)
    (h : ∀ v' w', OwnNest f ord size e e1 w' B v' (xs ++ [y]) → w.grownBy w' v.ownBlock → (v'.ownBlock = v.ownBlock ∨ ∃ b, v'.ownBlock = some b ∧ w.heap.size ≤ b) → Below B w w' → wpList P ops Q rest (a.put o.dst v') w') :
    wpList P ops Q (o :: rest) a (w.alloc (.cells arr e')) := by
  obtain ⟨i0, hi, hz0, hz1, hz2⟩ := info_parts hinfo
  have hel : es.length = xs.length := by rw [← he]; simp
  have hal : Below w.heap.size w (w.alloc (.cells arr e')) := (Below.refl _ _).alloc (Nat.le_refl _) _
  have hbb : (es.length + 1) * bytes ≤ 4000001 * 1000 := Nat.mul_le_mul (by omega) hby
  have har' : arr.size = size := by rw [← Array.length_toList, har, hsz]
  refine wpList_append_row _ hgd s x t ho B e i0 z size bytes ht hi hz0 hz1 hz2 hzs hsp v es.length (ncs f es) hs (own_below hrow hal) _ 1 arr.toList hx (row_new w arr e' size har') (by rw [har]; exact h1) (by unfold maxLen; omega) (by omega) (by simp; omega) ?_
  intro v' w' h2 h3 h4
  have hg : w.grownBy w' v.ownBlock := by
    refine ⟨h3.os, h3.tape, h3.output, by have := h3.size; simp at this; omega, fun k hk hne => ?_⟩
    rw [h3.block k (by simp; omega) hne]
    exact hal.block k hk
  refine h v' w' ⟨es ++ [(u, y)], by rw [List.map_append, he]; rfl, ?_, ?_, ?_, ?_⟩ hg ?_ ((hal.mono hB).grown h3 (by simp; omega) (fun k hk => (hrow.lt k hk).1))
  · have : ncs f (es ++ [(u, y)]) = ncs f es ++ arr.toList := by simp [ncs, har]
    rw [this]
    simpa using h2
  · intro p hp
    rcases List.mem_append.1 hp with hp | hp
    · exact (hin p hp).kept hg (hd p hp)
    · simp only [List.mem_singleton] at hp
      subst hp
      exact hu.kept hg hdv
  · rw [List.pairwise_append]
    refine ⟨hpw, List.pairwise_singleton _ _, fun p hp q hq => ?_⟩
    simp only [List.mem_singleton] at hq
    subst hq
    exact hnew p hp
  · intro p hp
    have hlt : ∀ b, p.1.ownBlock = some b → b < w.heap.size := by
      intro b hb
      rcases List.mem_append.1 hp with hp | hp
      · exact ((hin p hp).lt b hb).2
      · simp only [List.mem_singleton] at hp
        subst hp
        exact (hu.lt b hb).2
    rcases h4 with h4 | h4
    · rw [h4]
      rcases List.mem_append.1 hp with hp | hp
      · exact hd p hp
      · simp only [List.mem_singleton] at hp
        subst hp
        exact hdv
    · cases hb : p.1.ownBlock with
      | none => exact .inl rfl
      | some b =>
        refine .inr fun hc => ?_
        have h5 := hlt b hb
        rw [h4] at hc
        simp only [World.size_alloc, Option.some.injEq] at hc
        omega
  · rcases h4 with h4 | h4
    · exact .inl h4
    · exact .inr ⟨_, h4, by simp⟩
end

end Go.Proofs.Ytpjmcjdnobihbaa
