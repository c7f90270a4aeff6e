/- One more element is appended to an owned slice of structs around int slices, as it was at an earlier world. Of no program. No conditions beyond sizes. -/
import Derived.Test.YtpjmcjdnobihbaaNestO
namespace Go.Proofs.Ytpjmcjdnobihbaa
open Go.RowKit
set_option linter.unusedVariables false
set_option linter.unusedSimpArgs false

section
variable {α : Type} {f : Value → α → List Value} {ord : α → List Int} {size : Nat}
/-- 'append(v, x)', the slice v as it was at an earlier world w0, x around an inner slice made since. -/
theorem wpList_push_nest0 {P : Program} {w : World} {ops : Array Oper} {rest : List Oper} {o : Oper} {a : Act} {Q : Exit → Act → World → Prop} (hgd : o.guard = none) (s x : Operand) (t : TypeId)
    (ho : o.op = .call { callee := .builtin .append, args := #[s, x], argTypes := #[t, t] }) (hsz : ∀ u x, (f u x).length = size)
    (B : Nat) (e e1 e' : TypeId) (z : Value) (bytes : Nat) (hinfo : (P.info? e).map (fun i => (i.zero, i.size, i.bytes)) = some (some z, size, bytes)) (ht : P.underlying t = some (.slice e)) (hzs : z.cells.size = size) (hsp : 0 < size) (hby : bytes ≤ 1000)
    (v : Value) (xs : List α) (u : Value) (y : α) (arr : Array Value) (hs : a.eval s = v) (w0 : World) (hnest : OwnNest f ord size e e1 w0 B v xs) (hb0 : Below w0.heap.size w0 w) (hu : OwnI e1 w w0.heap.size u (ord y)) (har : arr.toList = f u y) (h1 : ∀ c ∈ f u y, c.oneCell' = true)
    (hx : a.eval x = .slice (some ⟨w.heap.size, 0, none⟩) 1 1) (hB : B ≤ w0.heap.size) (hn : xs.length ≤ 4000000)
    (h : ∀ v' w', OwnNest f ord size e e1 w' B v' (xs ++ [y]) → Below B w w' → w.grownBy w' v.ownBlock → (v'.ownBlock = v.ownBlock ∨ ∃ b, v'.ownBlock = some b ∧ w.heap.size ≤ b) → wpList P ops Q rest (a.put o.dst v') w') :
    wpList P ops Q (o :: rest) a (w.alloc (.cells arr e')) := by
  obtain ⟨es, he, hrow0, hin0, hpw, hd⟩ := hnest
  have hBw : B ≤ w.heap.size := Nat.le_trans hB hb0.size
  have hlt0 : ∀ p ∈ es, ∀ b, p.1.ownBlock = some b → b < w0.heap.size := fun p hp b hb' => ((hin0 p hp).lt b hb').2
  have hult : ∀ b, u.ownBlock = some b → w0.heap.size ≤ b ∧ b < w.heap.size := fun b hb' => hu.lt b hb'
  have hvlt : ∀ b, v.ownBlock = some b → b < w0.heap.size := fun b hb' => (hrow0.lt b hb').2
  have hnew : ∀ p ∈ es, p.1.ownBlock = none ∨ p.1.ownBlock ≠ u.ownBlock := fun p hp => by
    cases hpb : p.1.ownBlock with
    | none => exact .inl rfl
    | some b =>
      refine .inr fun hc => ?_
      have h6 := hlt0 p hp b hpb
      have h7 := hult b hc.symm
      omega
  have hdv : u.ownBlock = none ∨ u.ownBlock ≠ v.ownBlock := by
    cases hub : u.ownBlock with
    | none => exact .inl rfl
    | some b =>
      refine .inr fun hc => ?_
      have h6 := hvlt b hc.symm
      have h7 := hult b hub
      omega
  exact wpList_push_nest hgd s x t ho hsz B e e1 e' z bytes hinfo ht hzs hsp hby v xs u y arr hs es he (own_below hrow0 hb0) (fun p hp => (hin0 p hp).below hb0) hpw hd (own_base hu hB) har h1 hdv hnew hx hBw hn (fun v' w' k1 k2 k3 k4 => h v' w' k1 k4 k2 k3)
end
section
variable {α : Type} {f : Value → α → List Value} {ord : α → List Int} {size : Nat}
/-- 'append(v, x)' at a step of a region that draws: x a struct around an inner slice u of the call's own. -/
theorem step_push_nest2 {P : Program} {w : World} {ops : Array Oper} {o : Oper} {a : Act} {K : Act → World → Prop} {Q : Exit → Act → World → Prop} {E : Prop} (hgd : o.guard = none) (s x : Operand) (t : TypeId)
    (ho : o.op = .call { callee := .builtin .append, args := #[s, x], argTypes := #[t, t] }) (hsz : ∀ u x, (f u x).length = size)
    (B : Nat) (e e1 e' : TypeId) (z : Value) (bytes : Nat) (hinfo : (P.info? e).map (fun i => (i.zero, i.size, i.bytes)) = some (some z, size, bytes)) (ht : P.underlying t = some (.slice e)) (hzs : z.cells.size = size) (hsp : 0 < size) (hby : bytes ≤ 1000)
    (v : Value) (xs : List α) (u : Value) (y : α) (arr : Array Value) (hs : a.eval s = v) (w0 : World) (hnest : OwnNest f ord size e e1 w0 B v xs) (hb0 : Below w0.heap.size w0 w) (hu : OwnI e1 w w0.heap.size u (ord y)) (har : arr.toList = f u y) (h1 : ∀ c ∈ f u y, c.oneCell' = true)
    (hx : a.eval x = .slice (some ⟨w.heap.size, 0, none⟩) 1 1) (hB : B ≤ w0.heap.size) (hn : xs.length ≤ 4000000)
    (h : ∀ v' w', OwnNest f ord size e e1 w' B v' (xs ++ [y]) → Below B w w' → w.grownBy w' v.ownBlock → (v'.ownBlock = v.ownBlock ∨ ∃ b, v'.ownBlock = some b ∧ w.heap.size ≤ b) → K (a.put o.dst v') w') :
    if Region.wanted o (yielded ops a.tmps) = true then Oper.wp P o a (w.alloc (.cells arr e')) K Q else E := by
  obtain ⟨es, he, hrow0, hin0, hpw, hd⟩ := hnest
  have hel : es.length = xs.length := by rw [← he]; simp
  have hrow := own_below hrow0 hb0
  have hal : Below w.heap.size w (w.alloc (.cells arr e')) := (Below.refl _ _).alloc (Nat.le_refl _) _
  have har' : arr.size = size := by rw [← Array.length_toList, har, hsz]
  have hBw : B ≤ w.heap.size := Nat.le_trans hB hb0.size
  have hlt0 : ∀ p ∈ es, ∀ b, p.1.ownBlock = some b → b < w0.heap.size := fun p hp b hb' => ((hin0 p hp).lt b hb').2
  have hult : ∀ b, u.ownBlock = some b → w0.heap.size ≤ b ∧ b < w.heap.size := fun b hb' => hu.lt b hb'
  have hvlt : ∀ b, v.ownBlock = some b → b < w0.heap.size := fun b hb' => (hrow0.lt b hb').2
  have hnew : ∀ p ∈ es, p.1.ownBlock = none ∨ p.1.ownBlock ≠ u.ownBlock := fun p hp => by
    cases hpb : p.1.ownBlock with
    | none => exact .inl rfl
    | some b =>
      refine .inr fun hc => ?_
      have h6 := hlt0 p hp b hpb
      have h7 := hult b hc.symm
      omega
  have hdv : u.ownBlock = none ∨ u.ownBlock ≠ v.ownBlock := by
    cases hub : u.ownBlock with
    | none => exact .inl rfl
    | some b =>
      refine .inr fun hc => ?_
      have h6 := hvlt b hc.symm
      have h7 := hult b hub
      omega
  refine step_append_row hgd s x t ho B e z size bytes hinfo ht hzs hsp hby v es.length (ncs f es) hs (own_below hrow hal) _ 1 arr.toList hx (row_new w arr e' size har') (by rw [har]; exact h1) (by omega) (by omega) (by simp; omega) ?_
  intro v' w' h2 h3 h4
  have hg : w.grownBy w' v.ownBlock := by
    refine ⟨h3.os, h3.tape, h3.output, by have := h3.size; simp at this; omega, fun k hk hne => ?_⟩
    rw [h3.block k (by simp; omega) hne]
    exact hal.block k hk
  refine h v' w' ⟨es ++ [(u, y)], by rw [List.map_append, he]; rfl, ?_, ?_, ?_, ?_⟩ ((hal.mono hBw).grown h3 (by simp; omega) (fun k hk => (hrow.lt k hk).1)) hg (h4.imp id fun h4 => ⟨_, h4, by simp⟩)
  · have : ncs f (es ++ [(u, y)]) = ncs f es ++ arr.toList := by simp [ncs, har]
    rw [this]
    simpa using h2
  · intro p hp
    rcases List.mem_append.1 hp with hp | hp
    · exact ((hin0 p hp).below hb0).kept hg (hd p hp)
    · simp only [List.mem_singleton] at hp
      subst hp
      exact (own_base hu hB).kept hg hdv
  · rw [List.pairwise_append]
    refine ⟨hpw, List.pairwise_singleton _ _, fun p hp q hq => ?_⟩
    simp only [List.mem_singleton] at hq
    subst hq
    exact hnew p hp
  · intro p hp
    have hlt : ∀ b, p.1.ownBlock = some b → b < w.heap.size := by
      intro b hb
      have hbs := hb0.size
      rcases List.mem_append.1 hp with hp | hp
      · have := hlt0 p hp b hb; omega
      · simp only [List.mem_singleton] at hp
        subst hp
        exact (hult b hb).2
    rcases h4 with h4 | h4
    · rw [h4]
      rcases List.mem_append.1 hp with hp | hp
      · exact hd p hp
      · simp only [List.mem_singleton] at hp
        subst hp
        exact hdv
    · cases hb : p.1.ownBlock with
      | none => exact .inl rfl
      | some b =>
        refine .inr fun hc => ?_
        have h5 := hlt b hb
        rw [h4] at hc
        simp only [World.size_alloc, Option.some.injEq] at hc
        omega
end


end Go.Proofs.Ytpjmcjdnobihbaa
