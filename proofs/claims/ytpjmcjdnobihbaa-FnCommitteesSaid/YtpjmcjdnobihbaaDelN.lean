/- clear at whatever elements; one element taken out of a row that the call owns. Of no program. No conditions. -/
import Derived.Test.YtpjmcjdnobihbaaFlat
import Derived.Deep.RegionLaw
import Derived.Lib.SliceRun
namespace Go.Proofs.Ytpjmcjdnobihbaa
open Go.RowKit
set_option linter.unusedVariables false
set_option linter.unusedSimpArgs false

theorem zeroCells_len (z : Array Value) (n : Nat) : (Builtin.zeroCells z n).toList.length = n * z.size := by simp [Builtin.zeroCells]
theorem zeroCells_mem {z : Array Value} {n : Nat} {v : Value} (h : v ∈ (Builtin.zeroCells z n).toList) : v ∈ z.toList := by
  simp only [Builtin.zeroCells, Array.toList_map, List.mem_map] at h
  obtain ⟨i, hi, rfl⟩ := h
  have hz : 0 < z.size := by
    rcases Nat.eq_zero_or_pos z.size with h0 | h0
    · rw [h0] at hi; simp at hi
    · exact h0
  have hm : i % z.size < z.size := Nat.mod_lt _ hz
  rw [getElem!_pos z (i % z.size) hm]
  simp

theorem own_cutN {w : World} {base e size n m cap : Nat} {ao : Option Addr} {cs : List Value} (h : w.ownsRow base e size (.slice ao n cap) n cs) (hm : m ≤ n) (hne : ao ≠ none) : w.ownsRow base e size (.slice ao m cap) m (cs.take (m * size)) := by
  obtain ⟨hl, h2⟩ := h
  rcases h2 with ⟨hv, _⟩ | ⟨g, cap', cur, hv, hg, hh, h1, h3, h4, h5⟩
  · injection hv with h6; exact absurd h6 hne
  · injection hv with h6 h7 h8
    subst h6 h8
    have hms : m * size ≤ n * size := Nat.mul_le_mul_right _ hm
    refine ⟨by rw [List.length_take, hl]; omega, .inr ⟨g, _, cur, rfl, hg, hh, by omega, h3, h4, ?_⟩⟩
    rw [← h5, List.take_take, Nat.min_eq_left hms]

section
variable {P : Program}
theorem wpList_clearG {w : World} {ops : Array Oper} {rest : List Oper} {o : Oper} {a : Act} {Q : Exit → Act → World → Prop} (hgd : o.guard = none) (x : Operand) (t : TypeId)
    (ho : o.op = .call { callee := .builtin .clear, args := #[x], argTypes := #[t] }) (e : TypeId) (z : Value) (size : Nat) (ht : P.underlying t = some (.slice e)) (hv : ∀ w, (zeroValue e).run P w = .ok z w) (hz : z.cells.size = size) (h1 : ∀ v ∈ z.cells.toList, v.oneCell' = true)
    (b off n c : Nat) (hx : a.eval x = .slice (some ⟨b, off, none⟩) n c) (hn : 0 < n)
    (hc : ∀ j, j < n * size → (w.cell? ⟨b, off + j, none⟩).isSome = true) (hf : ∀ j, j < n * size → w.frozen? ⟨b, off + j, none⟩ = false)
    (h : wpList P ops Q rest (a.put o.dst (.tuple #[])) (w.setCells b off (Builtin.zeroCells z.cells n).toList)) : wpList P ops Q (o :: rest) a w := by
  refine wpList_plain hgd fun _ hK => ?_
  have hzl := zeroCells_len z.cells n
  rw [hz] at hzl
  have hst := run_storeCells_cells (P := P) b off (Builtin.zeroCells z.cells n).toList 0 w (by rw [hzl]; simpa using hc) (by rw [hzl]; simpa using hf) (fun v hv' => h1 v (zeroCells_mem hv'))
  simp only [Nat.add_zero] at hst
  have hr : (Builtin.clear_ #[t] o.type #[.slice (some ⟨b, off, none⟩) n c]).run P w = .ok (.tuple #[]) (w.setCells b off (Builtin.zeroCells z.cells n).toList) := by
    obtain ⟨m, rfl⟩ : ∃ m, n = m + 1 := ⟨n - 1, by omega⟩
    simp [Builtin.clear_, run_underlying ht, hv, hst]
  unfold Oper.wp execOp
  simp only [ho, resolve, invoke, builtin, Sem.run_bind, Sem.run_pure, Result.andThen_ok, List.map_toArray, List.map_cons, List.map_nil, hx, hr]
  exact hK _ _ h
end

/-- What is behind an element is laid over it; the last one is cleared. -/
theorem own_del {w : World} {base e size g n cap i : Nat} {cs Z : List Value} (h : w.ownsRow base e size (.slice (some ⟨g, 0, none⟩) n cap) n cs) (hi : i < n) (hZ : Z.length = size) :
    ((w.setCells g (i * size) (cs.drop ((i + 1) * size))).setCells g ((n - 1) * size) Z).ownsRow base e size (.slice (some ⟨g, 0, none⟩) (n - 1) cap) (n - 1) (cs.take (i * size) ++ cs.drop ((i + 1) * size)) ∧
    w.grownBy ((w.setCells g (i * size) (cs.drop ((i + 1) * size))).setCells g ((n - 1) * size) Z) (some g) := by
  have hl := h.1
  have e1 : (i + 1) * size ≤ n * size := Nat.mul_le_mul_right _ hi
  have e2 : (i + 1) * size = i * size + size := by rw [Nat.add_mul]; omega
  have e3 : n * size = (n - 1) * size + size := by
    have : n = (n - 1) + 1 := by omega
    conv => lhs; rw [this, Nat.add_mul]
    omega
  have h1 := own_cellsN (cs.drop ((i + 1) * size)) w (i * size) cs h (by rw [List.length_drop]; omega)
  have h2 := own_cellsN Z _ ((n - 1) * size) _ h1.1 (by omega)
  refine ⟨?_, h1.2.trans h2.2⟩
  have h3 := own_cutN h2.1 (m := n - 1) (by omega) (by simp)
  have e4 : ((cs.take (i * size) ++ cs.drop ((i + 1) * size) ++ cs.drop (i * size + (cs.drop ((i + 1) * size)).length)).take ((n - 1) * size)) = cs.take (i * size) ++ cs.drop ((i + 1) * size) := by
    have : (cs.take (i * size) ++ cs.drop ((i + 1) * size)).length = (n - 1) * size := by rw [List.length_append, List.length_take, List.length_drop]; omega
    rw [← this, List.take_left]
  rw [List.append_assoc, List.take_append_of_le_length (by rw [List.length_take, List.length_append, List.length_append, List.length_take, List.length_drop]; omega), List.take_take, Nat.min_self, e4] at h3
  exact h3

end Go.Proofs.Ytpjmcjdnobihbaa
