/- Contract: slices.Delete of one element, at committees that the call owns. No conditions beyond sizes. -/
import Derived.Test.YtpjmcjdnobihbaaDelN
import Derived.Test.YtpjmcjdnobihbaaCommI
namespace Go.Proofs.Ytpjmcjdnobihbaa
open Go.RowKit
set_option linter.unusedVariables false
set_option linter.unusedSimpArgs false

set_option maxHeartbeats 1000000 in
theorem slices_Delete_row (v : Value) (n : Nat) (cs : List Value) (i B : Nat) (w : World) (h : w.ownsRow B 40 3 v n cs) (h1 : ∀ u ∈ cs, u.oneCell' = true) (hi : i < n) (hB : B ≤ w.heap.size) :
    Calls Try.prog 56 #[v, .int .i64 (i : Int), .int .i64 ((i : Int) + 1)] w fun e w' => ∃ u, e = .returned u ∧ w'.ownsRow B 40 3 u (n - 1) (cs.take (i * 3) ++ cs.drop ((i + 1) * 3)) ∧ u.ownBlock = v.ownBlock ∧ w.grownBy w' v.ownBlock := by
  obtain ⟨i0, hi0, hz0, hz1, hz2⟩ := info_parts comm_info
  have hmx := h
  rcases hmx.2 with ⟨rfl, hnil⟩ | ⟨g, cp, cur, rfl, hgB, hh, hc1, hc2, hc3, hc4⟩
  · exfalso
    omega
  · unfold maxLen at hc2
    clear hh hc3 hc4
    have hown := h
    have hin : i < n := hi
    have hcl : cs.length = n * 3 := h.1
    have hzv : ∀ w, (zeroValue 40).run Try.prog w = .ok (Value.agg #[.string ⟨#[]⟩, .slice none 0 0, .int .i64 0]) w := by intro w; simp [zeroValue, typeInfo, hi0, hz0]
    have hdel := own_del (w := w.drew) (Z := (Builtin.zeroCells (Value.agg #[.string ⟨#[]⟩, .slice none 0 0, .int .i64 0]).cells 1).toList) hown hi (by rw [zeroCells_len]; rfl)
    have hgs := (hown.lt g rfl).2
    obtain ⟨A, hA, hsrc⟩ : ∃ A : Addr, (if cp = i + 1 then some (⟨g, 0, none⟩ : Addr) else some ⟨g, (i + 1) * 3, none⟩) = some A ∧ Hid (∀ t u, (cs.drop ((i + 1) * 3))[t]? = some u → w.drew.cell? (A.add t) = some u) := by
      by_cases hq : cp = i + 1
      · refine ⟨⟨g, 0, none⟩, by simp [hq], fun t u hu => ?_⟩
        rw [List.getElem?_eq_none (by rw [List.length_drop]; omega)] at hu
        cases hu
      · refine ⟨⟨g, (i + 1) * 3, none⟩, by simp [hq], fun t u hu => ?_⟩
        rw [List.getElem?_drop] at hu
        have hlt := (List.getElem?_eq_some_iff.1 hu).1
        rw [Addr.add_lit]
        show w.cell? _ = _
        rw [hown.cellAt ((i + 1) * 3 + t) (by omega), hu]
    have s1 : Hid ((cs.drop ((i + 1) * 3)).length = (n - (i + 1)) * 3) := by rw [Hid, List.length_drop]; omega
    have s2 : Hid (∀ u ∈ cs.drop ((i + 1) * 3), u.oneCell' = true) := fun u hu => h1 u (List.mem_of_mem_drop hu)
    have hsome : ∀ j, j < n * 3 → (w.cell? ⟨g, j, none⟩).isSome = true := fun j hj => by rw [hown.cellAt j (by omega), List.getElem?_eq_getElem (by omega)]; rfl
    have s3 : Hid (∀ t, t < (cs.drop ((i + 1) * 3)).length → (w.drew.cell? ⟨g, 0 + i * 3 + t, none⟩).isSome = true ∧ w.drew.frozen? ⟨g, 0 + i * 3 + t, none⟩ = false) := by
      intro t ht
      rw [List.length_drop] at ht
      exact ⟨hsome _ (by omega), hown.frozenAt _⟩
    obtain ⟨W1, hW1⟩ : ∃ W1, W1 = w.drew.setCells g (0 + i * 3) (cs.drop ((i + 1) * 3)) := ⟨_, rfl⟩
    have hown1 := own_cellsN (cs.drop ((i + 1) * 3)) w.drew (i * 3) cs hown (by rw [List.length_drop]; omega)
    rw [← show 0 + i * 3 = i * 3 by omega, ← hW1] at hown1
    have hsome1 : Hid (∀ j, j < 1 * 3 → (W1.cell? ⟨g, (n - 1) * 3 + j, none⟩).isSome = true) := fun j hj => by
      rw [hown1.1.cellAt ((n - 1) * 3 + j) (by omega), List.getElem?_eq_getElem (by rw [hown1.1.1]; omega)]; rfl
    have hfz1 : Hid (∀ j, j < 1 * 3 → W1.frozen? ⟨g, (n - 1) * 3 + j, none⟩ = false) := fun j hj => hown1.1.frozenAt _
    have hfin : Hid ((W1.setCells g ((n - 1) * 3) (Builtin.zeroCells (Value.agg #[.string ⟨#[]⟩, .slice none 0 0, .int .i64 0]).cells 1).toList).ownsRow B 40 3 (.slice (some ⟨g, 0, none⟩) (n - 1) cp) (n - 1) (cs.take (i * 3) ++ cs.drop ((i + 1) * 3)) ∧ w.grownBy (W1.setCells g ((n - 1) * 3) (Builtin.zeroCells (Value.agg #[.string ⟨#[]⟩, .slice none 0 0, .int .i64 0]).cells 1).toList) (some g)) := by
      rw [hW1, Nat.zero_add]
      exact ⟨hdel.1, hdel.2.os, hdel.2.tape, hdel.2.output, hdel.2.size, hdel.2.block⟩
    have hW : Hid (W1 = w.drew.setCells g (0 + i * 3) (cs.drop ((i + 1) * 3))) := hW1
    have HZ := Lib.hid hzv; clear hzv
    have e9 : Hid (n - (n - 1) = 1) := by rw [Hid]; omega
    have hadd : i + (n - (i + 1)) = n - 1 := by omega
    have hne : ((i : Int) == (i : Int) + 1) = false := by simp only [beq_eq_false_iff_ne]; omega
    clear hW1 hdel hown hown1 hcl h1 hsome h hmx hi
    have hic : i ≤ cp := by omega
    have hjc : i + 1 ≤ cp := by omega
    have hj0 : (0 : Int) ≤ (i : Int) + 1 := by omega
    have hjn : (i : Int) + 1 ≤ (n : Int) := by omega
    go_enter Try.func56, Try.ntmps56
    go_wp2_with fail
    go_region_law (refine step_append_room rfl (.tmp 22) (.tmp 25) 24 rfl 40 i0 3 Try.underlying24 hi0 hz1 g 0 i cp (by simp [Act.eval, Act.put]) A (n - (i + 1)) (cp - (i + 1)) (cs.drop ((i + 1) * 3)) (by simp [Act.eval, Act.put]) s1.out hsrc.out s2.out (by omega) s3.out ?_; rw [← hW.out])
    go_wp2_with ((with_reducible change Go.wpList _ _ _ (Oper.mk _ (Op.call _) _ _ _ _ :: _) _ _); refine wpList_clearG rfl (.tmp 31) _ rfl 40 (Value.agg #[.string ⟨#[]⟩, .slice none 0 0, .int .i64 0]) 3 Try.underlying24 HZ.out rfl (by simp [Value.cells, Value.oneCell']) g ((n - 1) * 3) 1 (cp - (n - 1)) (by simp [Act.eval, Act.put]; omega) (by omega) hsome1.out hfz1.out ?_)
    go_ret
    exact ⟨_, rfl, hfin.out.1, rfl, hfin.out.2⟩

theorem ncs_erase {α : Type} {f : Value → α → List Value} {size : Nat} (hsz : ∀ u x, (f u x).length = size) (es : List (Value × α)) (i : Nat) (hi : i < es.length) : (ncs f es).take (i * size) ++ (ncs f es).drop ((i + 1) * size) = ncs f (es.eraseIdx i) := by
  have hl := flatm_len (fun p : Value × α => f p.1 p.2) size (fun p => hsz _ _)
  have e1 : ∀ k, k ≤ es.length → (ncs f es).take (k * size) = ncs f (es.take k) ∧ (ncs f es).drop (k * size) = ncs f (es.drop k) := fun k hk => by
    have e : ncs f es = ncs f (es.take k) ++ ncs f (es.drop k) := by
      unfold ncs
      rw [← List.flatMap_append, List.take_append_drop]
    have el : (ncs f (es.take k)).length = k * size := by
      rw [show ncs f (es.take k) = (es.take k).flatMap (fun p => f p.1 p.2) from rfl, hl, List.length_take, Nat.min_eq_left hk]
    rw [e]
    exact ⟨List.take_left' el, List.drop_left' el⟩
  rw [(e1 i (by omega)).1, (e1 (i + 1) hi).2, List.eraseIdx_eq_take_drop_succ]
  unfold ncs
  rw [List.flatMap_append]
theorem slices_Delete_comm (v : Value) (xs : List DCommittee) (i B : Nat) (w : World) (h : OwnComms w B v xs) (hi : i < xs.length) (hB : B ≤ w.heap.size) :
    Calls Try.prog 56 #[v, .int .i64 (i : Int), .int .i64 ((i : Int) + 1)] w fun e w' => ∃ u, e = .returned u ∧ OwnComms w' B u (xs.eraseIdx i) ∧ w.grownBy w' v.ownBlock := by
  obtain ⟨es, he, hrow, hin, hpw, hd⟩ := h
  have hel : es.length = xs.length := by rw [← he]; simp
  refine (slices_Delete_row v es.length (ncs ccell es) i B w hrow ?_ (by omega) hB).mono ?_
  · intro y hy
    obtain ⟨p, hp, hy⟩ := List.mem_flatMap.1 hy
    obtain ⟨a, k, hf⟩ := (hin p hp).at_.form
    simp only [ccell, List.mem_cons, List.not_mem_nil, or_false] at hy
    rcases hy with rfl | rfl | rfl
    · rfl
    · rw [hf]; rfl
    · rfl
  · rintro e w' ⟨u, rfl, ho, hb, hg⟩
    refine ⟨u, rfl, ⟨es.eraseIdx i, by rw [← he, List.eraseIdx_eq_take_drop_succ, List.eraseIdx_eq_take_drop_succ, List.map_append, List.map_take, List.map_drop], ?_, fun p hp => (hin p (List.mem_of_mem_eraseIdx hp)).kept hg (hd p (List.mem_of_mem_eraseIdx hp)), hpw.sublist (List.eraseIdx_sublist _ _), fun p hp => by rw [hb]; exact hd p (List.mem_of_mem_eraseIdx hp)⟩, hg⟩
    rw [ncs_erase (f := ccell) (size := 3) (fun _ _ => rfl) es i (by omega)] at ho
    rw [List.length_eraseIdx, if_pos (by omega)]
    exact ho

end Go.Proofs.Ytpjmcjdnobihbaa
