/- Rows of structs that the call owns: more cells written, a list of structs in a row. Of no program. No conditions. -/
import Derived.Test.YtpjmcjdnobihbaaMem
namespace Go.Proofs.Ytpjmcjdnobihbaa
open Go.RowKit
set_option linter.unusedVariables false
set_option linter.unusedSimpArgs false

theorem flatm_len {α : Type} (f : α → List Value) (size : Nat) (hsz : ∀ x, (f x).length = size) (xs : List α) : (xs.flatMap f).length = xs.length * size := by
  induction xs with
  | nil => simp
  | cons a r ih => simp only [List.flatMap_cons, List.length_append, ih, hsz, List.length_cons, Nat.add_mul]; omega
theorem flatm_get {α : Type} (f : α → List Value) (size : Nat) (hsz : ∀ x, (f x).length = size) (xs : List α) (k j : Nat) (hk : k < xs.length) (hj : j < size) : (xs.flatMap f)[k * size + j]? = (f xs[k])[j]? := by
  induction xs generalizing k with
  | nil => simp at hk
  | cons a r ih =>
    have hl := hsz a
    simp only [List.flatMap_cons]
    cases k with
    | zero => rw [List.getElem?_append_left (by omega)]; simp
    | succ k =>
      rw [List.getElem?_append_right (by rw [hl, Nat.add_mul]; omega)]
      have e : (k + 1) * size + j - (f a).length = k * size + j := by rw [hl, Nat.add_mul]; omega
      rw [e]
      simpa using ih k (by simpa using hk)
theorem CellsAt.flat {α : Type} (f : α → List Value) (size : Nat) (hsz : ∀ x, (f x).length = size) {w : World} {b off k : Nat} {xs : List α} (h : CellsAt w b off (xs.flatMap f)) (hk : k < xs.length) :
    ∀ j, j < size → w.cell? ⟨b, off + k * size + j, none⟩ = (f xs[k])[j]? := by
  intro j hj
  have hl : k * size + j < (xs.flatMap f).length := by
    rw [flatm_len f size hsz]
    have := Nat.mul_le_mul_right size (show k + 1 ≤ xs.length from hk)
    rw [Nat.add_mul] at this
    omega
  rw [← flatm_get f size hsz xs k j hk hj, List.getElem?_eq_getElem hl, ← h _ hl, Nat.add_assoc]

/-- Some cells in a row are written into an owned slice. -/
theorem own_cellsN {e base size g cap N : Nat} (news : List Value) : ∀ (w : World) (i : Nat) (cs : List Value), w.ownsRow base e size (.slice (some ⟨g, 0, none⟩) N cap) N cs → i + news.length ≤ N * size →
    (w.setCells g i news).ownsRow base e size (.slice (some ⟨g, 0, none⟩) N cap) N (cs.take i ++ news ++ cs.drop (i + news.length)) ∧ w.grownBy (w.setCells g i news) (some g) := by
  induction news with
  | nil => intro w i cs h hi; exact ⟨by simpa [World.setCells] using h, World.grownBy.refl _ _⟩
  | cons v r ih =>
    intro w i cs h hi
    simp only [List.length_cons] at hi
    have h1 := h.stored i v
    have h2 := ih _ (i + 1) _ h1.1 (by omega)
    have hl : cs.length = N * size := h.1
    refine ⟨?_, h1.2.trans h2.2⟩
    have e1 : (cs.set i v).take (i + 1) ++ r ++ (cs.set i v).drop (i + 1 + r.length) = cs.take i ++ v :: r ++ cs.drop (i + (r.length + 1)) := by
      have hd : (cs.set i v).drop (i + 1 + r.length) = cs.drop (i + (r.length + 1)) := by
        rw [List.drop_set, if_pos (by omega)]
        congr 1; omega
      have ht : (cs.set i v).take (i + 1) = cs.take i ++ [v] := by
        rw [List.take_set, take_at (by omega : i < cs.length), set_mid _ _ _ [] _ (by simp; omega)]
      rw [hd, ht]
      simp
    have e2 : i + (v :: r).length = i + (r.length + 1) := by simp
    rw [e2, ← e1]
    exact h2.1

/-- One more struct is written behind the first ones. -/
theorem own_flat {α : Type} (f : α → List Value) (size : Nat) (hsz : ∀ x, (f x).length = size) {base e g cap n k : Nat} {w : World} {A : List α} (p : α) {cs : List Value} (hA : A.length = k) (hk : k < n) (hc : cs.length = n * size)
    (h : w.ownsRow base e size (.slice (some ⟨g, 0, none⟩) n cap) n (A.flatMap f ++ cs.drop (k * size))) :
    (w.setCells g (k * size) (f p)).ownsRow base e size (.slice (some ⟨g, 0, none⟩) n cap) n ((A ++ [p]).flatMap f ++ cs.drop ((k + 1) * size)) ∧ w.grownBy (w.setCells g (k * size) (f p)) (some g) := by
  have hm : k * size + size ≤ n * size := by
    have := Nat.mul_le_mul_right size (show k + 1 ≤ n from hk)
    rw [Nat.add_mul] at this
    omega
  have h1 := own_cellsN (f p) w (k * size) _ h (by rw [hsz]; omega)
  refine ⟨?_, h1.2⟩
  have hl : (A.flatMap f).length = k * size := by rw [flatm_len f size hsz, hA]
  have e1 : (A.flatMap f ++ cs.drop (k * size)).take (k * size) = A.flatMap f := by
    rw [List.take_append_of_le_length (by omega), List.take_of_length_le (by omega)]
  have e2 : (A.flatMap f ++ cs.drop (k * size)).drop (k * size + (f p).length) = cs.drop ((k + 1) * size) := by
    rw [List.drop_append, List.drop_of_length_le (by rw [hl, hsz]; omega), hl, List.drop_drop, hsz, List.nil_append, Nat.add_mul]
    congr 1
    omega
  rw [e1, e2] at h1
  simpa using h1.1

theorem own_empty (w : World) (e : TypeId) (size : Nat) : (w.alloc (.cells #[] e)).ownsRow w.heap.size e size (.slice (some ⟨w.heap.size, 0, none⟩) 0 0) 0 [] :=
  World.ownsRow_lit (base := w.heap.size) (e := e) (size := size) w #[] 0 (Nat.le_refl _) (by simp [maxLen]) (by simp)

/-- A new row of one struct reads. -/
theorem row_new (w : World) (arr : Array Value) (t : TypeId) (size : Nat) (hs : arr.size = size) : RowAt (w.alloc (.cells arr t)) (.slice (some ⟨w.heap.size, 0, none⟩) 1 1) 1 size arr.toList :=
  ⟨by simp [hs], _, _, rfl, Nat.le_refl _, by unfold maxLen; omega, fun _ => ⟨w.heap.size, 0, rfl, by simp, fun k hk => by
    have hk' : k < arr.size := by simpa using hk
    have := (BoxAt.new w arr t).cells (0 + k)
    rw [Nat.zero_add] at this ⊢
    rw [this, Array.getElem?_eq_getElem hk']
    simp⟩⟩

/-- 'append(v, x)': one struct is appended to an owned slice. -/
theorem wpList_push_flat {P : Program} {w : World} {ops : Array Oper} {rest : List Oper} {o : Oper} {a : Act} {Q : Exit → Act → World → Prop} (hgd : o.guard = none) (s x : Operand) (t : TypeId)
    (ho : o.op = .call { callee := .builtin .append, args := #[s, x], argTypes := #[t, t] })
    (B : Nat) (e e' : TypeId) (z : Value) (size bytes : Nat) (hinfo : (P.info? e).map (fun i => (i.zero, i.size, i.bytes)) = some (some z, size, bytes)) (ht : P.underlying t = some (.slice e)) (hzs : z.cells.size = size) (hsz : 0 < size) (hby : bytes ≤ 1000)
    (v : Value) (n : Nat) (cs : List Value) (arr : Array Value) (hs : a.eval s = v) (hown : w.ownsRow B e size v n cs) (har : arr.size = size) (h1 : ∀ u ∈ arr.toList, u.oneCell' = true) (hx : a.eval x = .slice (some ⟨w.heap.size, 0, none⟩) 1 1) (hB : B ≤ w.heap.size) (hn : n ≤ 4000000)
    (h : ∀ v' w', w'.ownsRow B e size v' (n + 1) (cs ++ arr.toList) → Below B w w' → wpList P ops Q rest (a.put o.dst v') w') :
    wpList P ops Q (o :: rest) a (w.alloc (.cells arr e')) := by
  obtain ⟨i0, hi, hz0, hz1, hz2⟩ := info_parts hinfo
  have hal : Below w.heap.size w (w.alloc (.cells arr e')) := (Below.refl _ _).alloc (Nat.le_refl _) _
  have hbb : (n + 1) * bytes ≤ 4000001 * 1000 := Nat.mul_le_mul (by omega) hby
  refine wpList_append_row _ hgd s x t ho B e i0 z size bytes ht hi hz0 hz1 hz2 hzs hsz v n cs hs (own_below hown hal) _ 1 arr.toList hx (row_new w arr e' size har) h1 (by unfold maxLen; omega) (by omega) (by simp; omega) ?_
  intro v' w' h1 h2 _
  exact h v' w' h1 ((hal.mono hB).grown h2 (by simp; omega) (fun k hk => (hown.lt k hk).1))

/-- 'append([]T{}, v...)': a copy of what reads. -/
theorem wpList_copy_flat {P : Program} {w : World} {ops : Array Oper} {rest : List Oper} {o : Oper} {a : Act} {Q : Exit → Act → World → Prop} (hgd : o.guard = none) (s x : Operand) (t : TypeId)
    (ho : o.op = .call { callee := .builtin .append, args := #[s, x], argTypes := #[t, t] })
    (e : TypeId) (z : Value) (size bytes : Nat) (hinfo : (P.info? e).map (fun i => (i.zero, i.size, i.bytes)) = some (some z, size, bytes)) (ht : P.underlying t = some (.slice e)) (hzs : z.cells.size = size) (hsz : 0 < size) (hby : bytes ≤ 1000)
    (v : Value) (n : Nat) (cs : List Value) (hs : a.eval s = .slice (some ⟨w.heap.size, 0, none⟩) 0 0) (hx : a.eval x = v) (hr : RowAt w v n size cs) (h1 : ∀ u ∈ cs, u.oneCell' = true) (hn : n ≤ 4000000)
    (h : ∀ v' w', w'.ownsRow w.heap.size e size v' n cs → Below w.heap.size w w' → wpList P ops Q rest (a.put o.dst v') w') :
    wpList P ops Q (o :: rest) a (w.alloc (.cells #[] e)) := by
  obtain ⟨i0, hi, hz0, hz1, hz2⟩ := info_parts hinfo
  have hal : Below w.heap.size w (w.alloc (.cells #[] e)) := (Below.refl _ _).alloc (Nat.le_refl _) _
  have hbb : (0 + n) * bytes ≤ 4000000 * 1000 := Nat.mul_le_mul (by omega) hby
  refine wpList_append_row _ hgd s x t ho w.heap.size e i0 z size bytes ht hi hz0 hz1 hz2 hzs hsz (.slice (some ⟨w.heap.size, 0, none⟩) 0 0) 0 [] hs (own_empty w e size) v n cs hx (hr.alloc _) h1 (by unfold maxLen; omega) (by omega) (by simp) ?_
  intro v' w' h1 h2 _
  exact h v' w' (by simpa using h1) (hal.grown h2 (by simp) (by simp [Value.ownBlock]))

end Go.Proofs.Ytpjmcjdnobihbaa
