/- Contract: slices.Delete of one element, at ints that the call owns. No conditions beyond sizes. -/
import Derived.Test.YtgjgdephpliolaaDelN
import Derived.Test.YtgjgdephpliolaaIntS
namespace Go.Proofs.Ytgjgdephpliolaa
open Go.RowKit
set_option linter.unusedVariables false
set_option linter.unusedSimpArgs false

theorem ints_erase (xs : List Int) (i : Nat) : (ints xs).take (i * 1) ++ (ints xs).drop ((i + 1) * 1) = ints (xs.eraseIdx i) := by
  rw [Nat.mul_one, Nat.mul_one, List.eraseIdx_eq_take_drop_succ]
  simp [ints, List.map_take, List.map_drop]

set_option maxHeartbeats 1000000 in
theorem slices_Delete_int (v : Value) (xs : List Int) (i B : Nat) (w : World) (h : OwnInts w B v xs) (hi : i < xs.length) (hB : B ≤ w.heap.size) :
    Calls Try.prog 73 #[v, .int .i64 (i : Int), .int .i64 ((i : Int) + 1)] w fun e w' => ∃ u, e = .returned u ∧ OwnInts w' B u (xs.eraseIdx i) ∧ u.ownBlock = v.ownBlock ∧ w.grownBy w' v.ownBlock := by
  obtain ⟨i0, hi0, hz0, hz1, hz2⟩ := info_parts int_info
  have hmx := h
  rcases hmx.2 with ⟨rfl, hnil⟩ | ⟨g, cp, cur, rfl, hgB, hh, hc1, hc2, hc3, hc4⟩
  · exfalso
    have : xs = [] := by simpa [ints] using hnil
    subst this
    simp at hi
  · unfold maxLen at hc2
    clear hh hc3 hc4
    obtain ⟨n, hn⟩ : ∃ n, n = xs.length := ⟨_, rfl⟩
    obtain ⟨cs, hcs⟩ : ∃ cs, cs = ints xs := ⟨_, rfl⟩
    have hown : w.ownsRow B 3 1 (.slice (some ⟨g, 0, none⟩) n cp) n cs := by rw [hn, hcs]; exact h
    have hcl : cs.length = n := by rw [hcs, hn]; simp
    have h1 : ∀ u ∈ cs, u.oneCell' = true := by rw [hcs]; exact ints_one xs
    have hzv : ∀ w, (zeroValue 3).run Try.prog w = .ok (Value.int .i64 0) w := by intro w; simp [zeroValue, typeInfo, hi0, hz0]
    have hdel := own_del (w := w.drew) (Z := (Builtin.zeroCells (Value.int .i64 0).cells 1).toList) hown (hn ▸ hi) (by rw [zeroCells_len]; rfl)
    have hdI : cs.take (i * 1) ++ cs.drop ((i + 1) * 1) = ints (xs.eraseIdx i) := by rw [hcs]; exact ints_erase xs i
    rw [hdI] at hdel
    have hel : (xs.eraseIdx i).length = n - 1 := by rw [List.length_eraseIdx, if_pos hi, hn]
    have hin : i < n := by omega
    rw [← hn] at hc1
    have hgs := (hown.lt g rfl).2
    obtain ⟨A, hA, hsrc⟩ : ∃ A : Addr, (if cp = i + 1 then some (⟨g, 0, none⟩ : Addr) else some ⟨g, i + 1, none⟩) = some A ∧ Hid (∀ t u, (cs.drop ((i + 1) * 1))[t]? = some u → w.drew.cell? (A.add t) = some u) := by
      by_cases hq : cp = i + 1
      · refine ⟨⟨g, 0, none⟩, by simp [hq], fun t u hu => ?_⟩
        rw [List.getElem?_eq_none (by rw [List.length_drop]; omega)] at hu
        cases hu
      · refine ⟨⟨g, i + 1, none⟩, by simp [hq], fun t u hu => ?_⟩
        rw [List.getElem?_drop] at hu
        have hlt := (List.getElem?_eq_some_iff.1 hu).1
        rw [Addr.add_lit]
        show w.cell? _ = _
        rw [show i + 1 + t = (i + 1) * 1 + t by omega, hown.cellAt ((i + 1) * 1 + t) (by omega), hu]
    have s1 : Hid ((cs.drop ((i + 1) * 1)).length = (n - (i + 1)) * 1) := by rw [Hid, List.length_drop]; omega
    have s2 : Hid (∀ u ∈ cs.drop ((i + 1) * 1), u.oneCell' = true) := fun u hu => h1 u (List.mem_of_mem_drop hu)
    have hsome : ∀ j, j < n → (w.cell? ⟨g, j, none⟩).isSome = true := fun j hj => by rw [hown.cellAt j (by omega), List.getElem?_eq_getElem (by omega)]; rfl
    have s3 : Hid (∀ t, t < (cs.drop ((i + 1) * 1)).length → (w.drew.cell? ⟨g, 0 + i * 1 + t, none⟩).isSome = true ∧ w.drew.frozen? ⟨g, 0 + i * 1 + t, none⟩ = false) := by
      intro t ht
      rw [List.length_drop] at ht
      exact ⟨hsome _ (by omega), hown.frozenAt _⟩
    obtain ⟨W1, hW1⟩ : ∃ W1, W1 = w.drew.setCells g (0 + i * 1) (cs.drop ((i + 1) * 1)) := ⟨_, rfl⟩
    have hown1 := own_cellsN (cs.drop ((i + 1) * 1)) w.drew (i * 1) cs hown (by rw [List.length_drop]; omega)
    rw [← show 0 + i * 1 = i * 1 by omega, ← hW1] at hown1
    have hsome1 : Hid (∀ j, j < 1 * 1 → (W1.cell? ⟨g, n - 1 + j, none⟩).isSome = true) := fun j hj => by
      rw [hown1.1.cellAt (n - 1 + j) (by omega), List.getElem?_eq_getElem (by rw [hown1.1.1]; omega)]; rfl
    have hfz1 : Hid (∀ j, j < 1 * 1 → W1.frozen? ⟨g, n - 1 + j, none⟩ = false) := fun j hj => hown1.1.frozenAt _
    have hfin : Hid ((W1.setCells g (n - 1) (Builtin.zeroCells (Value.int .i64 0).cells 1).toList).ownsRow B 3 1 (.slice (some ⟨g, 0, none⟩) (n - 1) cp) (n - 1) (ints (xs.eraseIdx i)) ∧ w.grownBy (W1.setCells g (n - 1) (Builtin.zeroCells (Value.int .i64 0).cells 1).toList) (some g)) := by
      rw [hW1, Nat.zero_add]
      rw [show (n - 1) * 1 = n - 1 from Nat.mul_one _] at hdel
      exact ⟨hdel.1, hdel.2.os, hdel.2.tape, hdel.2.output, hdel.2.size, hdel.2.block⟩
    have hW : Hid (W1 = w.drew.setCells g (0 + i * 1) (cs.drop ((i + 1) * 1))) := hW1
    have HZ := Lib.hid hzv; clear hzv
    have HEL := Lib.hid hel
    have HN := Lib.hid hn
    have e9 : Hid (n - (n - 1) = 1) := by rw [Hid]; omega
    rw [← hn]
    have hadd : i + (n - (i + 1)) = n - 1 := by omega
    have hne : ((i : Int) == (i : Int) + 1) = false := by simp only [beq_eq_false_iff_ne]; omega
    clear hW1 hdel hown hown1 hcl hcs hdI hel hn h1 hsome h hmx hi
    have hic : i ≤ cp := by omega
    have hjc : i + 1 ≤ cp := by omega
    have hj0 : (0 : Int) ≤ (i : Int) + 1 := by omega
    have hjn : (i : Int) + 1 ≤ (n : Int) := by omega
    go_enter Try.func73, Try.ntmps73
    go_wp2_with fail
    go_region_law (refine step_append_room rfl (.tmp 22) (.tmp 25) 27 rfl 3 i0 1 Try.underlying27 hi0 hz1 g 0 i cp (by simp [Act.eval, Act.put]) A (n - (i + 1)) (cp - (i + 1)) (cs.drop ((i + 1) * 1)) (by simp [Act.eval, Act.put]) s1.out hsrc.out s2.out (by omega) s3.out ?_; rw [← hW.out])
    go_wp2_with ((with_reducible change Go.wpList _ _ _ (Oper.mk _ (Op.call _) _ _ _ _ :: _) _ _); refine wpList_clearG rfl (.tmp 31) _ rfl 3 (.int .i64 0) 1 Try.underlying27 HZ.out rfl (by simp [Value.cells, Value.oneCell']) g (n - 1) 1 (cp - (n - 1)) (by simp [Act.eval, Act.put]; omega) (by omega) hsome1.out hfz1.out ?_)
    go_ret
    refine ⟨_, rfl, ?_, rfl, hfin.out.2⟩
    unfold OwnInts OwnI
    rw [HEL.out]
    exact hfin.out.1

end Go.Proofs.Ytgjgdephpliolaa
