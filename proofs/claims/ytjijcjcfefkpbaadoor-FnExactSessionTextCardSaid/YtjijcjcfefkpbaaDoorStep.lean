/- append at a step of a region that draws its order: what is appended may be nil. Of no program. No conditions. -/
import Derived.Test.YtjijcjcfefkpbaaDoorMem
import Derived.Deep.RegionLaw
import Derived.Deep.AppendLies
namespace Go.Proofs.YtjijcjcfefkpbaaDoor
open Go.RowKit
set_option linter.unusedVariables false
set_option linter.unusedSimpArgs false

section
variable {P : Program} {w : World}

theorem step_append_row {ops : Array Oper} {o : Oper} {a : Act} {K : Act → World → Prop} {Q : Exit → Act → World → Prop} {E : Prop} (hgd : o.guard = none) (s x : Operand) (t : TypeId)
    (ho : o.op = .call { callee := .builtin .append, args := #[s, x], argTypes := #[t, t] })
    (base : Nat) (e : TypeId) (z : Value) (size bytes : Nat) (hinfo : (P.info? e).map (fun i => (i.zero, i.size, i.bytes)) = some (some z, size, bytes)) (ht : P.underlying t = some (.slice e))
    (hzs : z.cells.size = size) (hsz : 0 < size) (hby : bytes ≤ 1000)
    (v : Value) (n : Nat) (xs : List Value) (hs : a.eval s = v) (hown : w.ownsRow base e size v n xs)
    (u : Value) (m : Nat) (news : List Value) (hx : a.eval x = u) (hr : RowAt w u m size news) (h1 : ∀ u ∈ news, u.oneCell' = true)
    (hn : n ≤ 4000000) (hm : m ≤ 4000000) (hbase : base ≤ w.heap.size)
    (h : ∀ v' w', w'.ownsRow base e size v' (n + m) (xs ++ news) → w.grownBy w' v.ownBlock → (v'.ownBlock = v.ownBlock ∨ v'.ownBlock = some w.heap.size) → K (a.put o.dst v') w') :
    if Region.wanted o (yielded ops a.tmps) = true then Oper.wp P o a w K Q else E := by
  have hw : Region.wanted o (yielded ops a.tmps) = true := by simp [Region.wanted, hgd]
  rw [if_pos hw]
  obtain ⟨i0, hi, hz0, hz1, hz2⟩ := info_parts hinfo
  have hbb : (n + m) * bytes ≤ 8000000 * 1000 := Nat.mul_le_mul (by omega) hby
  obtain ⟨v', w', hr', h2, h3, h4⟩ := run_append_row (P := P) w base t o.type e i0 z size bytes ht hi hz0 hz1 hz2 hzs hsz v n xs hown u m news hr h1 (by unfold maxLen; omega) (by omega) hbase
  unfold Oper.wp execOp
  simp only [ho, resolve, invoke, builtin, Sem.run_bind, Sem.run_pure, Result.andThen_ok, List.map_toArray, List.map_cons, List.map_nil, hs, hx, hr']
  exact h v' w' h2 h3 h4
end

theorem RowAt.drew {w : World} {v : Value} {n size : Nat} {cs : List Value} (h : RowAt w v n size cs) : RowAt w.drew v n size cs := h
theorem RowAt.grown {w w' : World} {b off n cap size : Nat} {cs : List Value} {row : Option Nat} (h : RowAt w (.slice (some ⟨b, off, none⟩) n cap) n size cs) (hg : w.grownBy w' row) (hne : some b ≠ row) : RowAt w' (.slice (some ⟨b, off, none⟩) n cap) n size cs := by
  obtain ⟨hl, ao, cap', hv, h1, h2, h3⟩ := h
  cases hv
  refine ⟨hl, _, _, rfl, h1, h2, fun hn => ?_⟩
  obtain ⟨b', off', ha, hlt, hc⟩ := h3 hn
  cases ha
  refine ⟨b, off, rfl, Nat.lt_of_lt_of_le hlt hg.size, fun k hk => ?_⟩
  exact (World.cell?_of_block (w := w) (a := ⟨b, off + k, none⟩) (hg.block b hlt hne)).trans (hc k hk)
/-- A slice's head; what is behind it. -/
theorem RowAt.head {w : World} {ao : Option Addr} {n cap size k : Nat} {cs : List Value} (h : RowAt w (.slice ao n cap) n size cs) (hk : k ≤ n) : RowAt w (.slice ao k cap) k size (cs.take (k * size)) := by
  obtain ⟨hl, ao', cap', hv, h1, h2, h3⟩ := h
  cases hv
  have hks := Nat.mul_le_mul_right size hk
  refine ⟨by rw [List.length_take, hl]; omega, _, _, rfl, by omega, h2, fun hn => ?_⟩
  obtain ⟨b, off, ha, hlt, hc⟩ := h3 (by omega)
  refine ⟨b, off, ha, hlt, fun j hj => ?_⟩
  rw [hc j (by rw [List.length_take] at hj; omega), List.getElem_take]
theorem RowAt.tail {w : World} {ao : Option Addr} {n cap size k : Nat} {cs : List Value} (h : RowAt w (.slice ao n cap) n size cs) (hk : k ≤ n) : RowAt w (.slice (if cap = k then ao else ao.map (·.add (k * size))) (n - k) (cap - k)) (n - k) size (cs.drop (k * size)) := by
  obtain ⟨hl, ao', cap', hv, h1, h2, h3⟩ := h
  cases hv
  refine ⟨by rw [List.length_drop, hl, Nat.sub_mul], _, _, rfl, by omega, by omega, fun hn => ?_⟩
  obtain ⟨b, off, rfl, hlt, hc⟩ := h3 (by omega)
  rw [if_neg (by omega)]
  refine ⟨b, off + k * size, by simp [Addr.add_lit], hlt, fun j hj => ?_⟩
  rw [List.length_drop] at hj
  rw [List.getElem_drop, Nat.add_assoc]
  exact hc _ (by omega)

/-! ### an empty slice and a row of one element, laid in either order -/
section
variable (W : World) (e : TypeId) (size : Nat) (arr : Array Value) (o : Obj)
theorem own_emptyA : (W.alloc (.cells #[] e)).ownsRow W.heap.size e size (.slice (some ⟨W.heap.size, 0, none⟩) 0 0) 0 [] := World.ownsRow_lit (base := W.heap.size) (e := e) (size := size) W #[] 0 (Nat.le_refl _) (by simp [maxLen]) (by simp)
theorem own_emptyB : ((W.alloc (.cells #[] e)).alloc o).ownsRow W.heap.size e size (.slice (some ⟨W.heap.size, 0, none⟩) 0 0) 0 [] := own_below (own_emptyA W e size) ((Below.refl _ _).alloc (Nat.le_refl _) o)
theorem own_emptyC : ((W.alloc o).alloc (.cells #[] e)).ownsRow W.heap.size e size (.slice (some ⟨W.heap.size + 1, 0, none⟩) 0 0) 0 [] := by
  have h := own_base (base' := W.heap.size) (own_emptyA (W.alloc o) e size) (by simp)
  simpa using h
theorem row_oneN (hs : arr.size = size) : RowAt (W.alloc (.cells arr e)) (.slice (some ⟨W.heap.size, 0, none⟩) 1 1) 1 size arr.toList :=
  ⟨by simp [hs], _, _, rfl, Nat.le_refl _, by unfold maxLen; omega, fun _ => ⟨W.heap.size, 0, rfl, by simp, fun k hk => by
    have hk' : k < arr.size := by simpa using hk
    have := (BoxAt.new W arr e).cells (0 + k)
    rw [Nat.zero_add] at this ⊢
    rw [this, Array.getElem?_eq_getElem hk']
    simp⟩⟩
theorem row_oneA (hs : arr.size = size) : RowAt ((W.alloc o).alloc (.cells arr e)) (.slice (some ⟨W.heap.size + 1, 0, none⟩) 1 1) 1 size arr.toList := by
  have h := row_oneN (W.alloc o) e size arr hs
  simpa using h
theorem row_oneB (hs : arr.size = size) : RowAt ((W.alloc (.cells arr e)).alloc o) (.slice (some ⟨W.heap.size, 0, none⟩) 1 1) 1 size arr.toList := (row_oneN W e size arr hs).alloc o
end
theorem some_ne_own {a b : Nat} (h : a ≠ b) (n c : Nat) : some a ≠ (Value.slice (some ⟨b, 0, none⟩) n c).ownBlock := fun e => h (by simpa [Value.ownBlock] using e)
theorem own_ge {B b : Nat} (h : B ≤ b) (n c : Nat) : ∀ k, (Value.slice (some ⟨b, 0, none⟩) n c).ownBlock = some k → B ≤ k := fun k e => by
  have : b = k := by simpa [Value.ownBlock] using e
  omega

end Go.Proofs.YtjijcjcfefkpbaaDoor
