/- Slices of structs around inner slices that the call owns: one cell of an element is written. Of no program. No conditions beyond sizes. -/
import Derived.Test.YtpjmcjdnobihbaaNestO
namespace Go.Proofs.Ytpjmcjdnobihbaa
open Go.RowKit
set_option linter.unusedVariables false
set_option linter.unusedSimpArgs false

section
variable {α : Type} {f : Value → α → List Value} {ord : α → List Int} {size : Nat}
/-- The cell of an inner slice: a newer one is put there. -/
theorem OwnNest.put1 (hsz : ∀ u x, (f u x).length = size) {e e1 : TypeId} {B g cap : Nat} {w0 w : World} {xs : List α} (h : OwnNest f ord size e e1 w0 B (.slice (some ⟨g, 0, none⟩) xs.length cap) xs) (hb : Below w0.heap.size w0 w) {k : Nat} (hk : k < xs.length) {j : Nat} (hj : j < size) {u y : Value} {x : α}
    (hf : ∀ u0, (f u0 xs[k]).set j y = f u x) (hu : OwnI e1 w w0.heap.size u (ord x)) (hB : B ≤ w0.heap.size) :
    OwnNest f ord size e e1 (w.setCell ⟨g, k * size + j, none⟩ y) B (.slice (some ⟨g, 0, none⟩) xs.length cap) (xs.set k x) ∧ w.grownBy (w.setCell ⟨g, k * size + j, none⟩ y) (some g) := by
  obtain ⟨es, he, h2, h3, h4, h5⟩ := h
  have hel : es.length = xs.length := by rw [← he]; simp
  have hke : k < es.length := by omega
  have hx : xs[k] = es[k].2 := by simp [← he]
  have hg0 := (h2.lt g rfl).2
  have hlt : ∀ p ∈ es, ∀ b, p.1.ownBlock = some b → b < w0.heap.size := fun p hp b hb' => ((h3 p hp).lt b hb').2
  have hne : ∀ p ∈ es, p.1.ownBlock = none ∨ p.1.ownBlock ≠ u.ownBlock := fun p hp => by
    cases hpb : p.1.ownBlock with
    | none => exact .inl rfl
    | some b =>
      refine .inr fun hc => ?_
      have h6 := hlt p hp b hpb
      have h7 := (hu.lt b hc.symm).1
      omega
  rw [hel] at h2
  have h1 := (own_below h2 hb).stored (k * size + j) y
  have hcs : (ncs f es).set (k * size + j) y = ncs f (es.set k (u, x)) :=
    flat_set (fun p : Value × α => f p.1 p.2) size (fun p => hsz _ _) es k j hke hj (u, x) y (by show (f es[k].1 es[k].2).set j y = f u x; rw [← hx]; exact hf _)
  rw [hcs] at h1
  refine ⟨⟨es.set k (u, x), by rw [List.map_set, he], by rw [List.length_set, hel]; exact h1.1, ?_, pw_put hke h4 hne, ?_⟩, h1.2⟩
  · intro p hp
    obtain ⟨i, hi, rfl⟩ := List.mem_iff_getElem.1 hp
    have hi' : i < es.length := by simpa using hi
    by_cases hik : k = i
    · subst hik
      simp only [List.getElem_set_self]
      exact (own_base hu hB).kept h1.2 (by
        cases hub : u.ownBlock with
        | none => exact .inl rfl
        | some b =>
          refine .inr fun hc => ?_
          cases hc
          have := (hu.lt _ hub).1
          omega)
    · rw [List.getElem_set_ne hik]
      exact ((h3 _ (List.getElem_mem hi')).below hb).kept h1.2 (by simpa [Value.ownBlock] using h5 _ (List.getElem_mem hi'))
  · intro p hp
    obtain ⟨i, hi, rfl⟩ := List.mem_iff_getElem.1 hp
    have hi' : i < es.length := by simpa using hi
    by_cases hik : k = i
    · subst hik
      simp only [List.getElem_set_self]
      cases hub : u.ownBlock with
      | none => exact .inl rfl
      | some b =>
        refine .inr fun hc => ?_
        have hbg : b = g := by simpa [Value.ownBlock] using hc
        have := (hu.lt _ hub).1
        omega
    · rw [List.getElem_set_ne hik]
      exact h5 _ (List.getElem_mem hi')
/-- A cell besides the inner slice's. -/
theorem OwnNest.put2 (hsz : ∀ u x, (f u x).length = size) {e e1 : TypeId} {B g cap : Nat} {w : World} {xs : List α} (h : OwnNest f ord size e e1 w B (.slice (some ⟨g, 0, none⟩) xs.length cap) xs) {k : Nat} (hk : k < xs.length) {j : Nat} (hj : j < size) {y : Value} {x : α}
    (hf : ∀ u0, (f u0 xs[k]).set j y = f u0 x) (ho : ord x = ord xs[k]) :
    OwnNest f ord size e e1 (w.setCell ⟨g, k * size + j, none⟩ y) B (.slice (some ⟨g, 0, none⟩) xs.length cap) (xs.set k x) ∧ w.grownBy (w.setCell ⟨g, k * size + j, none⟩ y) (some g) := by
  obtain ⟨es, he, h2, h3, h4, h5⟩ := h
  have hel : es.length = xs.length := by rw [← he]; simp
  have hke : k < es.length := by omega
  have hx : xs[k] = es[k].2 := by simp [← he]
  rw [hel] at h2
  have h1 := h2.stored (k * size + j) y
  have hcs : (ncs f es).set (k * size + j) y = ncs f (es.set k (es[k].1, x)) :=
    flat_set (fun p : Value × α => f p.1 p.2) size (fun p => hsz _ _) es k j hke hj (es[k].1, x) y (by show (f es[k].1 es[k].2).set j y = f es[k].1 x; rw [← hx]; exact hf _)
  rw [hcs] at h1
  refine ⟨⟨es.set k (es[k].1, x), by rw [List.map_set, he], by rw [List.length_set, hel]; exact h1.1, ?_, pw_set hke h4, ?_⟩, h1.2⟩
  · intro p hp
    obtain ⟨i, hi, rfl⟩ := List.mem_iff_getElem.1 hp
    have hi' : i < es.length := by simpa using hi
    by_cases hik : k = i
    · subst hik
      simp only [List.getElem_set_self]
      have := (h3 _ (List.getElem_mem hke)).kept h1.2 (by simpa [Value.ownBlock] using h5 _ (List.getElem_mem hke))
      rw [ho, hx]
      exact this
    · rw [List.getElem_set_ne hik]
      exact (h3 _ (List.getElem_mem hi')).kept h1.2 (by simpa [Value.ownBlock] using h5 _ (List.getElem_mem hi'))
  · intro p hp
    obtain ⟨i, hi, rfl⟩ := List.mem_iff_getElem.1 hp
    have hi' : i < es.length := by simpa using hi
    by_cases hik : k = i
    · subst hik
      simp only [List.getElem_set_self]
      exact h5 _ (List.getElem_mem hke)
    · rw [List.getElem_set_ne hik]
      exact h5 _ (List.getElem_mem hi')
/-- An inner slice is grown (in its memory or in new), and put back into its cell. -/
theorem OwnNest.inner3 (hsz : ∀ u x, (f u x).length = size) {e e1 : TypeId} {B g cap : Nat} {w : World} {xs : List α} (h : OwnNest f ord size e e1 w B (.slice (some ⟨g, 0, none⟩) xs.length cap) xs) {k : Nat} (hk : k < xs.length) (hgB : g < w.heap.size) :
    ∃ u, OwnI e1 w B u (ord xs[k]) ∧ (∀ j, j < size → w.cell? ⟨g, k * size + j, none⟩ = (f u xs[k])[j]?) ∧ (u.ownBlock = none ∨ u.ownBlock ≠ some g) ∧
      ∀ w' u' x', w.grownBy w' u.ownBlock → OwnI e1 w' B u' (ord x') → (u'.ownBlock = u.ownBlock ∨ ∃ b, u'.ownBlock = some b ∧ w.heap.size ≤ b) → ∀ j y, j < size → (f u xs[k]).set j y = f u' x' →
        OwnNest f ord size e e1 (w'.setCell ⟨g, k * size + j, none⟩ y) B (.slice (some ⟨g, 0, none⟩) xs.length cap) (xs.set k x') ∧ w'.grownBy (w'.setCell ⟨g, k * size + j, none⟩ y) (some g) := by
  obtain ⟨es, he, h2, h3, h4, h5⟩ := h
  have hel : es.length = xs.length := by rw [← he]; simp
  have hke : k < es.length := by omega
  have hx : xs[k] = es[k].2 := by simp [← he]
  have hdk := h5 _ (List.getElem_mem hke)
  rw [hel] at h2
  refine ⟨es[k].1, by rw [hx]; exact h3 _ (List.getElem_mem hke), ?_, hdk, ?_⟩
  · intro j hj
    have hm : k * size + j < xs.length * size := by
      have := Nat.mul_le_mul_right size (show k + 1 ≤ xs.length from hk)
      rw [Nat.add_mul] at this
      omega
    rw [h2.cellAt _ hm, hx]
    exact flatm_get (fun p : Value × α => f p.1 p.2) size (fun p => hsz _ _) es k j hke hj
  · intro w' u' x' hg hu hd' j y hj hf
    have hrow : w'.ownsRow B e size (.slice (some ⟨g, 0, none⟩) xs.length cap) xs.length (ncs f es) := by
      refine h2.kept hg ?_
      refine .inr fun hc => ?_
      rcases hdk with h0 | h0
      · rw [h0] at hc; cases hc
      · exact h0 hc.symm
    have h1 := hrow.stored (k * size + j) y
    have hcs : (ncs f es).set (k * size + j) y = ncs f (es.set k (u', x')) :=
      flat_set (fun p : Value × α => f p.1 p.2) size (fun p => hsz _ _) es k j hke hj (u', x') y (by show (f es[k].1 es[k].2).set j y = f u' x'; rw [← hx]; exact hf)
    rw [hcs] at h1
    have hug : u'.ownBlock = none ∨ u'.ownBlock ≠ some g := by
      rcases hd' with h0 | ⟨b, h0, hb⟩
      · rw [h0]; exact hdk
      · refine .inr fun hc => ?_
        rw [h0] at hc
        cases hc
        omega
    have hne : ∀ i (hi : i < es.length), i ≠ k → es[i].1.ownBlock = none ∨ es[i].1.ownBlock ≠ es[k].1.ownBlock := fun i hi hik => by
      rcases Nat.lt_or_ge i k with hlt | hge
      · exact List.pairwise_iff_getElem.1 h4 i k hi hke hlt
      · have := List.pairwise_iff_getElem.1 h4 k i hke hi (by omega)
        rcases this with h0 | h0
        · rw [h0]; cases es[i].1.ownBlock <;> simp
        · exact .inr (fun e => h0 e.symm)
    have hne' : ∀ i (hi : i < es.length), i ≠ k → es[i].1.ownBlock = none ∨ es[i].1.ownBlock ≠ u'.ownBlock := fun i hi hik => by
      rcases hd' with h0 | ⟨b, h0, hb⟩
      · rw [h0]; exact hne i hi hik
      · cases hib : es[i].1.ownBlock with
        | none => exact .inl rfl
        | some b' =>
          refine .inr fun hc => ?_
          rw [h0] at hc
          cases hc
          have := ((h3 _ (List.getElem_mem hi)).lt _ hib).2
          omega
    refine ⟨⟨es.set k (u', x'), by rw [List.map_set, he], by rw [List.length_set, hel]; exact h1.1, ?_, ?_, ?_⟩, h1.2⟩
    · intro p hp
      obtain ⟨i, hi, rfl⟩ := List.mem_iff_getElem.1 hp
      have hi' : i < es.length := by simpa using hi
      by_cases hik : k = i
      · subst hik
        simp only [List.getElem_set_self]
        exact hu.kept h1.2 hug
      · rw [List.getElem_set_ne hik]
        exact ((h3 _ (List.getElem_mem hi')).kept hg (hne i hi' (by omega))).kept h1.2 (by simpa [Value.ownBlock] using h5 _ (List.getElem_mem hi'))
    · rw [List.pairwise_iff_getElem] at h4 ⊢
      intro i j hi hj hij
      have hi' : i < es.length := by simpa using hi
      have hj' : j < es.length := by simpa using hj
      have h1 := h4 i j hi' hj' hij
      rw [List.getElem_set, List.getElem_set]
      split
      · rename_i h2
        split
        · omega
        · have := hne' j hj' (by omega)
          rcases this with h3 | h3
          · rw [h3]; cases u'.ownBlock <;> simp
          · exact .inr (fun e => h3 e.symm)
      · split
        · exact hne' i hi' (by omega)
        · exact h1
    · intro p hp
      obtain ⟨i, hi, rfl⟩ := List.mem_iff_getElem.1 hp
      have hi' : i < es.length := by simpa using hi
      by_cases hik : k = i
      · subst hik
        simp only [List.getElem_set_self]
        exact hug
      · rw [List.getElem_set_ne hik]
        exact h5 _ (List.getElem_mem hi')
end

end Go.Proofs.Ytpjmcjdnobihbaa
