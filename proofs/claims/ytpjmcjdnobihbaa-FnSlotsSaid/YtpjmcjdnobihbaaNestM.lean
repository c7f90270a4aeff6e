/- Slices of structs around inner slices of ints, within bounds: what is written when they are marked. Of no program. No conditions. -/
import Derived.Test.YtpjmcjdnobihbaaNestP
import Derived.Test.YtpjmcjdnobihbaaInts2
namespace Go.Proofs.Ytpjmcjdnobihbaa
open Go.RowKit
set_option linter.unusedVariables false
set_option linter.unusedSimpArgs false

/-! ### lists -/
section
variable {α : Type}
def sumG (cnt : α → Nat) (xs : List α) : Nat := (xs.map cnt).sum
theorem sumG_at {cnt : α → Nat} {xs : List α} {k : Nat} (h : k < xs.length) : sumG cnt (xs.take (k + 1)) = sumG cnt (xs.take k) + cnt xs[k] := by
  unfold sumG
  rw [take_at h, List.map_append, List.sum_append]
  simp only [List.map_cons, List.map_nil, List.sum_cons, List.sum_nil]
  omega
theorem sumG_take_le (cnt : α → Nat) (xs : List α) (k : Nat) : sumG cnt (xs.take k) ≤ sumG cnt xs := by
  unfold sumG
  have h : xs.map cnt = (xs.take k).map cnt ++ (xs.drop k).map cnt := by rw [← List.map_append, List.take_append_drop]
  rw [h, List.sum_append]
  omega
theorem sumG_le {cnt : α → Nat} {xs : List α} {m : Nat} (h : ∀ x ∈ xs, cnt x ≤ m) : sumG cnt xs ≤ m * xs.length := by
  induction xs with
  | nil => simp [sumG]
  | cons a r ih =>
    have h1 := h a (by simp)
    have h2 := ih (fun x hx => h x (by simp [hx]))
    simp only [sumG, List.map_cons, List.sum_cons, List.length_cons, Nat.mul_add] at *
    omega
/-- The elements marked one after the other. -/
def mkG (cnt : α → Nat) (mk : Int → α → α) : Int → List α → List α
  | _, [] => []
  | k, r :: rs => mk k r :: mkG cnt mk (k + cnt r) rs
@[simp] theorem mkG_len (cnt : α → Nat) (mk : Int → α → α) (k : Int) (xs : List α) : (mkG cnt mk k xs).length = xs.length := by
  induction xs generalizing k with
  | nil => rfl
  | cons a r ih => simp [mkG, ih]
theorem mkG_get (cnt : α → Nat) (mk : Int → α → α) (k : Int) (xs : List α) (i : Nat) (h : i < xs.length) : (mkG cnt mk k xs)[i]'(by simpa using h) = mk (k + sumG cnt (xs.take i)) xs[i] := by
  induction xs generalizing k i with
  | nil => simp at h
  | cons a r ih =>
    cases i with
    | zero => simp [mkG, sumG]
    | succ i =>
      simp only [mkG, List.getElem_cons_succ, List.take_succ_cons]
      rw [ih _ _ (by simpa using h)]
      congr 1
      simp only [sumG, List.map_cons, List.sum_cons]
      omega
/-- The first j marked, the others not yet. -/
def mixG (cnt : α → Nat) (mk : Int → α → α) (k : Int) (xs : List α) (j : Nat) : List α := (mkG cnt mk k xs).take j ++ xs.drop j
@[simp] theorem mixG_zero (cnt : α → Nat) (mk : Int → α → α) (k : Int) (xs : List α) : mixG cnt mk k xs 0 = xs := by simp [mixG]
theorem mixG_done (cnt : α → Nat) (mk : Int → α → α) (k : Int) (xs : List α) : mixG cnt mk k xs xs.length = mkG cnt mk k xs := by
  unfold mixG
  rw [List.drop_length, List.append_nil, List.take_of_length_le (by simp)]
theorem mixG_len (cnt : α → Nat) (mk : Int → α → α) (k : Int) (xs : List α) (j : Nat) (h : j ≤ xs.length) : (mixG cnt mk k xs j).length = xs.length := by
  simp [mixG]; omega
theorem mixG_at (cnt : α → Nat) (mk : Int → α → α) (k : Int) (xs : List α) (j : Nat) (h : j < xs.length) : (mixG cnt mk k xs j)[j]'(by rw [mixG_len _ _ _ _ _ (by omega)]; exact h) = xs[j] := by
  simp only [mixG]
  rw [List.getElem_append_right (by simp; omega)]
  simp
  congr 1; omega
theorem mixG_next (cnt : α → Nat) (mk : Int → α → α) (k : Int) (xs : List α) (j : Nat) (h : j < xs.length) : mixG cnt mk k xs (j + 1) = (mixG cnt mk k xs j).set j (mk (k + sumG cnt (xs.take j)) xs[j]) := by
  have hj : j < (mkG cnt mk k xs).length := by simpa using h
  simp only [mixG]
  rw [take_at hj, drop_at h, set_mid _ _ _ _ _ (by simp; omega), mkG_get _ _ _ _ _ h]
  simp
end

theorem flat_set {α : Type} (f : α → List Value) (size : Nat) (hsz : ∀ x, (f x).length = size) (xs : List α) (k i : Nat) (hk : k < xs.length) (hi : i < size) (y : α) (v : Value) (h : (f xs[k]).set i v = f y) :
    (xs.flatMap f).set (k * size + i) v = (xs.set k y).flatMap f := by
  induction xs generalizing k with
  | nil => simp at hk
  | cons a r ih =>
    have hl := hsz a
    cases k with
    | zero =>
      simp only [List.flatMap_cons, List.set_cons_zero, Nat.zero_mul, Nat.zero_add]
      rw [List.set_append_left _ _ (by omega)]
      simpa using h
    | succ k =>
      simp only [List.flatMap_cons, List.set_cons_succ]
      rw [List.set_append_right _ _ (by rw [hl, Nat.add_mul]; omega)]
      have e : (k + 1) * size + i - (f a).length = k * size + i := by rw [hl, Nat.add_mul]; omega
      rw [e, ih k (by simpa using hk) (by simpa using h)]
theorem zip_set {α β : Type} (us : List α) (xs : List β) (j : Nat) (h : us.length = xs.length) (hj : j < us.length) (y : β) : us.zip (xs.set j y) = (us.zip xs).set j (us[j], y) := by
  refine List.ext_getElem (by simp) fun i h1 h2 => ?_
  simp only [List.getElem_zip, List.getElem_set]
  by_cases hij : j = i
  · subst hij; simp
  · simp [hij]

/-! ### inner slices -/
/-- The inner slices us hold the lists L, all in blocks from lo to hi. -/
def Inn (e1 : TypeId) (w : World) (lo hi : Nat) (us : List Value) (L : List (List Int)) : Prop :=
  us.length = L.length ∧ ∀ i (h : i < us.length) (h' : i < L.length), OwnR e1 w lo hi us[i] L[i]
def Apart (us : List Value) : Prop := us.Pairwise (fun p q => p.ownBlock = none ∨ p.ownBlock ≠ q.ownBlock)
theorem Apart.ne {us : List Value} (h : Apart us) {i j : Nat} (hi : i < us.length) (hj : j < us.length) (hne : i ≠ j) : us[i].ownBlock = none ∨ us[i].ownBlock ≠ us[j].ownBlock := by
  rcases Nat.lt_or_ge i j with h1 | h1
  · exact List.pairwise_iff_getElem.1 h i j hi hj h1
  · have := List.pairwise_iff_getElem.1 h j i hj hi (by omega)
    rcases this with h2 | h2
    · rw [h2]; cases us[i].ownBlock <;> simp
    · exact .inr (fun e => h2 e.symm)
theorem Inn.keep {e1 : TypeId} {w w' : World} {lo hi : Nat} {us : List Value} {L : List (List Int)} (h : Inn e1 w lo hi us L) (hs : SameIn lo hi w w') : Inn e1 w' lo hi us L :=
  ⟨h.1, fun i h1 h2 => (h.2 i h1 h2).keep hs⟩
theorem OwnR.kept' {e1 : TypeId} {w w' : World} {lo hi : Nat} {u : Value} {xs : List Int} (h : OwnR e1 w lo hi u xs) {row : Option Nat} (hg : w.grownBy w' row) (hd : u.ownBlock = none ∨ u.ownBlock ≠ row) : OwnR e1 w' lo hi u xs :=
  ⟨h.1.kept hg hd, h.2.1, Nat.le_trans h.2.2 hg.size⟩
/-- One inner slice is written. -/
theorem Inn.mark {e1 : TypeId} {w w' : World} {lo hi : Nat} {us : List Value} {L : List (List Int)} (h : Inn e1 w lo hi us L) (hp : Apart us) {i : Nat} (hi' : i < us.length) {ys : List Int} (hg : w.grownBy w' us[i].ownBlock) (hy : OwnR e1 w' lo hi us[i] ys) : Inn e1 w' lo hi us (L.set i ys) := by
  refine ⟨by simpa using h.1, fun j h1 h2 => ?_⟩
  by_cases hij : i = j
  · subst hij; simpa using hy
  · have h3 := h.2 j h1 (by simpa using h2)
    rw [List.getElem_set_ne (by omega)]
    exact h3.kept' hg (hp.ne h1 hi' (by omega))
/-- The outer row is written. -/
theorem Inn.grown {e1 : TypeId} {w w' : World} {lo hi : Nat} {us : List Value} {L : List (List Int)} (h : Inn e1 w lo hi us L) {row : Option Nat} (hg : w.grownBy w' row) (hd : ∀ u ∈ us, u.ownBlock = none ∨ u.ownBlock ≠ row) : Inn e1 w' lo hi us L :=
  ⟨h.1, fun j h1 h2 => (h.2 j h1 h2).kept' hg (hd _ (List.getElem_mem h1))⟩

section
variable {α : Type} (f : Value → α → List Value) (ord : α → List Int) (size : Nat)
/-- A slice of elements with inner slices, all in blocks from lo to hi, apart from one another. -/
def OwnNN (e e1 : TypeId) (w : World) (lo hi : Nat) (v : Value) (xs : List α) : Prop :=
  ∃ us : List Value, us.length = xs.length ∧ OwnIn e size lo hi w v xs.length (ncs f (us.zip xs)) ∧ Inn e1 w lo hi us (xs.map ord) ∧ Apart us ∧ ∀ u ∈ us, u.ownBlock = none ∨ u.ownBlock ≠ v.ownBlock
end

section
variable {α : Type} {f : Value → α → List Value} {ord : α → List Int} {size : Nat}
theorem OwnNN.keep {e e1 : TypeId} {lo hi : Nat} {w w' : World} {v : Value} {xs : List α} (h : OwnNN f ord size e e1 w lo hi v xs) (hs : SameIn lo hi w w') : OwnNN f ord size e e1 w' lo hi v xs := by
  obtain ⟨us, h1, h2, h3, h4⟩ := h
  exact ⟨us, h1, h2.keep hs, h3.keep hs, h4⟩
theorem OwnNN.hiLe {e e1 : TypeId} {lo hi : Nat} {w : World} {v : Value} {xs : List α} (h : OwnNN f ord size e e1 w lo hi v xs) : hi ≤ w.heap.size := by
  obtain ⟨us, h1, h2, _⟩ := h
  exact h2.2.2
theorem OwnNN.at_ {e e1 : TypeId} {lo hi : Nat} {w : World} {v : Value} {xs : List α} (h : OwnNN f ord size e e1 w lo hi v xs) : NestAt f ord size w v xs := by
  obtain ⟨us, h1, h2, h3, _⟩ := h
  have hl : (us.zip xs).length = xs.length := by simp [h1]
  refine ⟨us.zip xs, List.map_snd_zip (by omega), by rw [hl]; exact h2.at_, fun p hp => ?_⟩
  obtain ⟨i, hi', rfl⟩ := List.mem_iff_getElem.1 hp
  rw [hl] at hi'
  have := (h3.2 i (by omega) (by simpa using hi')).at_
  simpa using this
theorem OwnNest.base {e e1 : TypeId} {B B' : Nat} {w : World} {v : Value} {xs : List α} (h : OwnNest f ord size e e1 w B v xs) (hB : B' ≤ B) : OwnNest f ord size e e1 w B' v xs := by
  obtain ⟨es, h1, h2, h3, h4⟩ := h
  exact ⟨es, h1, own_base h2 hB, fun p hp => own_base (h3 p hp) hB, h4⟩
theorem OwnNest.toR {e e1 : TypeId} {B : Nat} {w : World} {v : Value} {xs : List α} (h : OwnNest f ord size e e1 w B v xs) : OwnNN f ord size e e1 w B w.heap.size v xs := by
  obtain ⟨es, h1, h2, h3, h4, h5⟩ := h
  have hz : es = (es.map Prod.fst).zip xs := List.zip_of_prod rfl h1
  have hl : es.length = xs.length := by rw [← h1]; simp
  refine ⟨es.map Prod.fst, by simpa using hl, by rw [← hz, ← hl]; exact OwnIn.of h2, ⟨by simpa using hl, fun i hi1 hi2 => ?_⟩, ?_, ?_⟩
  · have hi1' : i < es.length := by simpa using hi1
    have := h3 _ (List.getElem_mem hi1')
    have hx : xs[i]'(by omega) = es[i].2 := by simp [← h1]
    simp only [List.getElem_map, hx]
    exact this.toR
  · unfold Apart
    rw [List.pairwise_map]
    exact h4
  · intro u hu
    obtain ⟨p, hp, rfl⟩ := List.mem_map.1 hu
    exact h5 p hp
end

end Go.Proofs.Ytpjmcjdnobihbaa
