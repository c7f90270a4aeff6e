/- Slices of structs that hold one slice of ints each: what reads, what is owned. Of no program. No conditions. -/
import Derived.Test.YtpjmcjdnobihbaaFlat
namespace Go.Proofs.Ytpjmcjdnobihbaa
open Go.RowKit
set_option linter.unusedVariables false
set_option linter.unusedSimpArgs false

section
variable {α : Type} (f : Value → α → List Value) (ord : α → List Int) (size : Nat)

/-- The cells of elements, each with its inner slice's value. -/
def ncs (es : List (Value × α)) : List Value := es.flatMap fun p => f p.1 p.2
/-- The slice v reads as the elements xs; f lays an element out around its inner slice, which reads as 'ord'. -/
def NestAt (w : World) (v : Value) (xs : List α) : Prop :=
  ∃ es : List (Value × α), es.map Prod.snd = xs ∧ RowAt w v es.length size (ncs f es) ∧ ∀ p ∈ es, IntsAt w p.1 (ord p.2)
/-- The call owns, from block B on, the slice v and its inner slices, all in blocks of their own. -/
def OwnNest (e e1 : TypeId) (w : World) (B : Nat) (v : Value) (xs : List α) : Prop :=
  ∃ es : List (Value × α), es.map Prod.snd = xs ∧ w.ownsRow B e size v es.length (ncs f es) ∧ (∀ p ∈ es, OwnI e1 w B p.1 (ord p.2)) ∧
    es.Pairwise (fun p q => p.1.ownBlock = none ∨ p.1.ownBlock ≠ q.1.ownBlock) ∧ ∀ p ∈ es, p.1.ownBlock = none ∨ p.1.ownBlock ≠ v.ownBlock
end

section
variable {α : Type} {f : Value → α → List Value} {ord : α → List Int} {size : Nat}

theorem NestAt.below {w w' : World} {v : Value} {xs : List α} (h : NestAt f ord size w v xs) (hb : Below w.heap.size w w') : NestAt f ord size w' v xs := by
  obtain ⟨es, h1, h2, h3⟩ := h
  exact ⟨es, h1, h2.below hb, fun p hp => (h3 p hp).below hb⟩
theorem NestAt.form {w : World} {v : Value} {xs : List α} (h : NestAt f ord size w v xs) : ∃ ao cap, v = .slice ao xs.length cap := by
  obtain ⟨es, rfl, h2, _⟩ := h
  simpa using h2.form
theorem NestAt.len {w : World} {v : Value} {xs : List α} (h : NestAt f ord size w v xs) : xs.length ≤ maxLen := by
  obtain ⟨es, rfl, ⟨_, _, _, _, h1, h2, _⟩, _⟩ := h
  simp; omega
/-- One element: its cells, and its inner slice. -/
theorem NestAt.get (hsz : ∀ u x, (f u x).length = size) {w : World} {ao : Option Addr} {cap : Nat} {xs : List α} (h : NestAt f ord size w (.slice ao xs.length cap) xs) {k : Nat} (hk : k < xs.length) :
    ∃ b off u, ao = some ⟨b, off, none⟩ ∧ b < w.heap.size ∧ IntsAt w u (ord xs[k]) ∧ ∀ j, j < size → w.cell? ⟨b, off + k * size + j, none⟩ = (f u xs[k])[j]? := by
  obtain ⟨es, he, ⟨_, ao', cap', hs, h1, h2, h3⟩, h4⟩ := h
  have hke : k < es.length := by rw [← he] at hk; simpa using hk
  obtain ⟨b, off, rfl, hb, hc⟩ := h3 (by omega)
  simp only [Value.slice.injEq] at hs
  obtain ⟨rfl, _, _⟩ := hs
  have hx : xs[k] = es[k].2 := by subst he; simp
  refine ⟨b, off, es[k].1, rfl, hb, ?_, ?_⟩
  · rw [hx]; exact h4 _ (List.getElem_mem hke)
  · rw [hx]; exact CellsAt.flat (fun p : Value × α => f p.1 p.2) size (fun p => hsz _ _) hc hke
theorem OwnNest.at_ {e e1 : TypeId} {w : World} {B : Nat} {v : Value} {xs : List α} (h : OwnNest f ord size e e1 w B v xs) : NestAt f ord size w v xs := by
  obtain ⟨es, h1, h2, h3, _⟩ := h
  exact ⟨es, h1, rowAt_of_own h2, fun p hp => (h3 p hp).at_⟩
theorem OwnNest.below {e e1 : TypeId} {w w' : World} {B : Nat} {v : Value} {xs : List α} (h : OwnNest f ord size e e1 w B v xs) (hb : Below w.heap.size w w') : OwnNest f ord size e e1 w' B v xs := by
  obtain ⟨es, h1, h2, h3, h4⟩ := h
  exact ⟨es, h1, own_below h2 hb, fun p hp => (h3 p hp).below hb, h4⟩
theorem OwnNest.nil (e e1 : TypeId) (w : World) (B : Nat) : OwnNest f ord size e e1 w B (.slice none 0 0) [] :=
  ⟨[], rfl, World.ownsRow_nil w B e size, by simp, List.Pairwise.nil, by simp⟩

/-- One more element is laid into a row that was made. -/
theorem own_nest_step (hsz : ∀ u x, (f u x).length = size) {e e1 : TypeId} {g cap n k base : Nat} {w2 : World} {es : List (Value × α)} {u : Value} {x : α} {rest : List Value}
    (hl : es.length = k) (hk : k < n) (hr : rest.length = n * size)
    (hown : w2.ownsRow base e size (.slice (some ⟨g, 0, none⟩) n cap) n (ncs f es ++ rest.drop (k * size)))
    (hin : ∀ p ∈ es, OwnI e1 w2 (g + 1) p.1 (ord p.2)) (hu : OwnI e1 w2 (g + 1) u (ord x))
    (hpw : es.Pairwise (fun p q => p.1.ownBlock = none ∨ p.1.ownBlock ≠ q.1.ownBlock)) (hnew : ∀ p ∈ es, p.1.ownBlock = none ∨ p.1.ownBlock ≠ u.ownBlock) :
    (w2.setCells g (k * size) (f u x)).ownsRow base e size (.slice (some ⟨g, 0, none⟩) n cap) n (ncs f (es ++ [(u, x)]) ++ rest.drop ((k + 1) * size)) ∧
    (∀ p ∈ es ++ [(u, x)], OwnI e1 (w2.setCells g (k * size) (f u x)) (g + 1) p.1 (ord p.2)) ∧
    (es ++ [(u, x)]).Pairwise (fun p q => p.1.ownBlock = none ∨ p.1.ownBlock ≠ q.1.ownBlock) := by
  have h1 := own_flat (fun p : Value × α => f p.1 p.2) size (fun p => hsz _ _) (A := es) (p := (u, x)) hl hk hr hown
  have hot : OutOf g (g + 1) w2 (w2.setCells g (k * size) (f u x)) := OutOf.of_grown h1.2 (fun b hb => by cases hb; omega)
  refine ⟨h1.1, ?_, ?_⟩
  · intro p hp
    rcases List.mem_append.1 hp with hp | hp
    · exact fin_own2 (lo := g) (b := g) (hin p hp) (Below.refl _ _) hot (by omega)
    · simp only [List.mem_singleton] at hp
      subst hp
      exact fin_own2 (lo := g) (b := g) hu (Below.refl _ _) hot (by omega)
  · rw [List.pairwise_append]
    refine ⟨hpw, List.pairwise_singleton _ _, fun p hp q hq => ?_⟩
    simp only [List.mem_singleton] at hq
    subst hq
    exact hnew p hp
/-- The row is full. -/
theorem own_nest_done {e e1 : TypeId} {g cap base : Nat} {w2 : World} {es : List (Value × α)} {xs : List α} {rest : List Value} (he : es.map Prod.snd = xs) (hr : rest.length = xs.length * size) (hB : base ≤ g + 1)
    (hown : w2.ownsRow base e size (.slice (some ⟨g, 0, none⟩) xs.length cap) xs.length (ncs f es ++ rest.drop (xs.length * size)))
    (hin : ∀ p ∈ es, OwnI e1 w2 (g + 1) p.1 (ord p.2)) (hpw : es.Pairwise (fun p q => p.1.ownBlock = none ∨ p.1.ownBlock ≠ q.1.ownBlock)) :
    OwnNest f ord size e e1 w2 base (.slice (some ⟨g, 0, none⟩) xs.length cap) xs := by
  have hel : es.length = xs.length := by subst he; simp
  rw [List.drop_of_length_le (by omega), List.append_nil] at hown
  refine ⟨es, he, by rw [hel]; exact hown, fun p hp => own_base (hin p hp) hB, hpw, fun p hp => ?_⟩
  cases hb : p.1.ownBlock with
  | none => exact .inl rfl
  | some b =>
    refine .inr fun hc => ?_
    have := ((hin p hp).lt b hb).1
    simp only [Value.ownBlock, Option.some.injEq] at hc
    omega
end

end Go.Proofs.Ytpjmcjdnobihbaa
