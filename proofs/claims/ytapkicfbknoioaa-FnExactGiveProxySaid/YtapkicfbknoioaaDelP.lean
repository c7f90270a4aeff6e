/- Contracts: slices.DeleteFunc at proxies (two cells an element). No conditions beyond sizes. -/
import Derived.Test.YtapkicfbknoioaaVoteF
import Derived.Test.YtapkicfbknoioaaDelete
namespace Go.Proofs.Ytapkicfbknoioaa
open Go.RowKit
set_option linter.unusedVariables false
set_option linter.unusedSimpArgs false

theorem qcs_put (cs : List DProxy) (a : Nat) (p : DProxy) : ((qcs cs).set (a * 2) (.int .i64 p.fr)).set (a * 2 + 1) (.int .i64 p.to) = qcs (cs.set a p) := by
  induction cs generalizing a with
  | nil => simp [qcs]
  | cons c r ih =>
    cases a with
    | zero => simp [qcs, DProxy.cs]
    | succ a =>
      have e : (a + 1) * 2 = a * 2 + 1 + 1 := by omega
      have := ih a
      simp only [qcs, List.flatMap_cons, DProxy.cs, List.cons_append, List.nil_append, e, List.set_cons_succ] at this ⊢
      rw [this]
theorem qcs_take (cs : List DProxy) (a : Nat) : (qcs cs).take (a * 2) = qcs (cs.take a) := by
  induction cs generalizing a with
  | nil => simp [qcs]
  | cons c r ih =>
    cases a with
    | zero => simp [qcs]
    | succ a =>
      have e : (a + 1) * 2 = a * 2 + 1 + 1 := by omega
      have := ih a
      simp only [qcs, List.flatMap_cons, DProxy.cs, List.cons_append, List.nil_append, e, List.take_succ_cons] at this ⊢
      rw [this]

/-- Where a removal stands. -/
def KeptG {α : Type} (p : α → Bool) (xs cs : List α) (i j : Nat) : Prop := cs.length = xs.length ∧ i < j ∧ j ≤ xs.length ∧ cs.take i = keepF p (xs.take j) ∧ cs.drop j = xs.drop j
section
variable {α : Type}
theorem KeptG.get {p : α → Bool} {xs cs : List α} {i j : Nat} (h : KeptG p xs cs i j) (hj : j < xs.length) : cs[j]'(by rw [h.1]; exact hj) = xs[j] := by
  obtain ⟨h1, h2, h3, h4, h5⟩ := h
  rw [drop_at hj, drop_at (by omega)] at h5
  exact (List.cons.inj h5).1
theorem KeptG.out {p : α → Bool} {xs cs : List α} {i j : Nat} (h : KeptG p xs cs i j) (hj : j < xs.length) (hp : p xs[j] = true) : KeptG p xs cs i (j + 1) := by
  obtain ⟨h1, h2, h3, h4, h5⟩ := h
  refine ⟨h1, by omega, by omega, by rw [keep_out p hj hp]; exact h4, ?_⟩
  rw [drop_at hj, drop_at (by omega)] at h5
  exact (List.cons.inj h5).2
theorem KeptG.into {p : α → Bool} {xs cs : List α} {i j : Nat} (h : KeptG p xs cs i j) (hj : j < xs.length) (hp : p xs[j] = false) : KeptG p xs (cs.set i xs[j]) (i + 1) (j + 1) := by
  obtain ⟨h1, h2, h3, h4, h5⟩ := h
  refine ⟨by simpa using h1, by omega, by omega, ?_, ?_⟩
  · rw [keep_in p hj hp, ← h4, List.take_set, take_at (by omega : i < cs.length), set_mid _ _ _ [] _ (by simp; omega)]
  · rw [drop_at hj, drop_at (by omega)] at h5
    rw [List.drop_set, if_pos (by omega)]
    exact (List.cons.inj h5).2
theorem KeptG.done {p : α → Bool} {xs cs : List α} {i : Nat} (h : KeptG p xs cs i xs.length) : cs.take i = keepF p xs ∧ (keepF p xs).length = i := by
  obtain ⟨h1, h2, h3, h4, h5⟩ := h
  rw [List.take_length] at h4
  exact ⟨h4, by rw [← h4]; simp; omega⟩
end

section
variable {P : Program}
/-- clear at elements of two like cells. -/
theorem wpList_clear2 {w : World} {ops : Array Oper} {rest : List Oper} {o : Oper} {a : Act} {Q : Exit → Act → World → Prop} (hgd : o.guard = none) (x : Operand) (t : TypeId)
    (ho : o.op = .call { callee := .builtin .clear, args := #[x], argTypes := #[t] }) (e : TypeId) (z c0 : Value) (ht : P.underlying t = some (.slice e)) (hv : ∀ w, (zeroValue e).run P w = .ok z w) (hz : z.cells = #[c0, c0]) (h1 : c0.oneCell' = true)
    (b off n c : Nat) (hx : a.eval x = .slice (some ⟨b, off, none⟩) n c) (hn : 0 < n)
    (hc : ∀ j, j < n * 2 → (w.cell? ⟨b, off + j, none⟩).isSome = true) (hf : ∀ j, j < n * 2 → w.frozen? ⟨b, off + j, none⟩ = false)
    (h : wpList P ops Q rest (a.put o.dst (.tuple #[])) (w.setCells b off (List.replicate (n * 2) c0))) : wpList P ops Q (o :: rest) a w := by
  refine wpList_plain hgd fun _ hK => ?_
  have hzc : (Builtin.zeroCells z.cells n).toList = List.replicate (n * 2) c0 := by
    rw [hz]
    simp only [Builtin.zeroCells]
    apply List.ext_getElem
    · simp
    · intro i h1 h2
      have : i % 2 < 2 := Nat.mod_lt _ (by omega)
      have h3 : i % 2 = 0 ∨ i % 2 = 1 := by omega
      rcases h3 with h3 | h3 <;> simp [h3]
  have hst := run_storeCells_cells (P := P) b off (List.replicate (n * 2) c0) 0 w (by simpa using hc) (by simpa using hf) (by intro v hv'; rw [List.eq_of_mem_replicate hv']; exact h1)
  simp only [Nat.add_zero] at hst
  have hr : (Builtin.clear_ #[t] o.type #[.slice (some ⟨b, off, none⟩) n c]).run P w = .ok (.tuple #[]) (w.setCells b off (List.replicate (n * 2) c0)) := by
    obtain ⟨m, rfl⟩ : ∃ m, n = m + 1 := ⟨n - 1, by omega⟩
    simp [Builtin.clear_, run_underlying ht, hv, hzc, hst]
  unfold Oper.wp execOp
  simp only [ho, resolve, invoke, builtin, Sem.run_bind, Sem.run_pure, Result.andThen_ok, List.map_toArray, List.map_cons, List.map_nil, hx, hr]
  exact hK _ _ h
end

set_option maxHeartbeats 2000000 in
theorem DeleteFunc_proxy (cf : Nat) (hcf : Enters Try.prog cf) (cap : List Value) (p : DProxy → Bool) (B : Nat) (v : Value) (xs : List DProxy) (w : World) (h : OwnProxs w B v xs) (hB : B ≤ w.heap.size)
    (hp : ∀ x w', Below B w w' → Calls Try.prog cf (vProxy x :: cap).toArray w' fun e w'' => e = .returned (.bool (p x)) ∧ Below w'.heap.size w' w'') :
    Calls Try.prog 77 #[v, .func (.func cf) #[] cap.toArray] w fun e w' => ∃ u, e = .returned u ∧ OwnProxs w' B u (keepF p xs) ∧ Below B w w' := by
  have hI := h.at_
  have hq := IndexFunc_proxy cf hcf cap p v xs w hI (fun x w' hb => hp x w' (hb.mono hB))
  have HQ := Lib.hid hq; clear hq
  have HP := Lib.hid hp; clear hp
  have hcf := hcf.out
  cases hid : idxBy p xs with
  | negSucc m =>
    have hk : keepF p xs = xs := by
      have h1 := idxBy_neg p xs
      rw [hid] at h1
      have h2 : xs.any p = false := by rw [← h1]; simp
      unfold keepF
      rw [List.filter_eq_self]
      intro x hx
      have := List.any_eq_false.1 h2 x hx
      simpa using this
    have hm : m = 0 := by
      unfold idxBy at hid
      split at hid
      · cases hid
      · injection hid with h1; omega
    subst hm
    have hid' : idxBy p xs = -1 := hid
    have HI := Lib.hid hid'; clear hid hid'
    have HK := Lib.hid hk; clear hk
    rw [HK.out]
    obtain ⟨ao, n, rfl⟩ := hI.form
    go_enter Try.func77, Try.ntmps77
    go_wp2_with fail
    refine HQ.out.mono ?_
    rw [HI.out]
    rintro e w1 ⟨rfl, hb1⟩
    go_wp2_with fail
    go_ret
    exact ⟨_, rfl, own_below h hb1, hb1.mono hB⟩
  | ofNat i0 =>
    have hid' : idxFrom p 0 xs = i0 := by rw [idxFrom_eq]; exact hid
    obtain ⟨hi0, hk0⟩ := keep_idx p xs i0 hid'
    have hid2 : idxBy p xs = (i0 : Int) := hid
    have HI := Lib.hid hid2; clear hid hid' hid2
    have HK : Hid (KeptG p xs xs i0 (i0 + 1)) := ⟨rfl, by omega, by omega, hk0.symm, rfl⟩
    clear hk0
    have hmx := h
    rcases hmx.2 with ⟨rfl, hnil⟩ | ⟨g, cp, cur, rfl, hgB, hh, hc1, hc2, hc3, hc4⟩
    · exfalso
      omega
    · unfold maxLen at hc2
      clear hh hc3 hc4
      have hne : (((i0 : Nat) : Int) == -1) = false := by simp
      go_enter Try.func77, Try.ntmps77
      go_wp2_with fail
      refine HQ.out.mono ?_
      rw [HI.out]
      rintro e w1 ⟨rfl, hb1⟩
      have h1 := own_below h hb1
      have hb1' := hb1.mono hB
      go_wp2_with fail
      go_loopw [5, 6] (fun i j wr => ∃ (cs : List DProxy) (a b : Nat), i = .int .i64 a ∧ j = .int .i64 b ∧ a < b ∧ b ≤ xs.length ∧ Hid (KeptG p xs cs a b) ∧ wr.ownsRow B 61 2 (.slice (some ⟨g, 0, none⟩) xs.length cp) xs.length (qcs cs) ∧ Below B w wr) (fun _ j _ => xs.length - (intOf j).toNat)
      case atStart => exact ⟨xs, i0, i0 + 1, rfl, by go_num, by omega, by omega, HK, h1, hb1'⟩
      case round =>
        obtain ⟨cs, a, b, rfl, rfl, hab, hbn, hK, hown, hb⟩ := hrel
        clear h1 hb1' hb1
        have hcl : cs.length = xs.length := hK.out.1
        have HQL : Hid ((qcs cs).length = xs.length * 2) := by rw [Hid, qcs_length, hcl]
        by_cases hlt : b < xs.length
        · have hget := hK.out.get hlt
          have hrow := (rowAt_of_own hown)
          obtain ⟨_, ao', cp', hv', _, _, hcells⟩ := hrow
          obtain ⟨g', off', hg', _, hcells⟩ := hcells (by omega)
          cases hv'
          cases hg'
          obtain ⟨q0, q1⟩ := hcells.prox (show b < cs.length by omega)
          rw [hget, Nat.zero_add] at q0
          rw [hget, Nat.zero_add] at q1
          have HCL := Lib.hid hcl
          clear hget hcl hcells
          have hsz := hb.size
          cases hpx : p xs[b] with
          | true =>
            have HK' : Hid (KeptG p xs cs a (b + 1)) := hK.out.out hlt hpx
            have HPX := Lib.hid hpx; clear hpx hK
            generalize xs[b] = x at *
            obtain ⟨fr, to⟩ := x
            go_wp2_with fail
            refine (HP.out ⟨fr, to⟩ _ (hb.alloc (by omega) _)).mono ?_
            rw [HPX.out]
            rintro e w2 ⟨rfl, hb2⟩
            have hown2 := own_below (own_below hown ((Below.refl _ _).alloc (Nat.le_refl _) _)) hb2
            have hb' : Below B w w2 := (hb.alloc (by omega) _).trans (hb2.mono (by simp; omega))
            go_wp2_with fail
            go_roundw
            case rel => exact ⟨cs, a, b + 1, rfl, by go_num, by omega, by omega, HK', hown2, hb'⟩
            case measure => simp [intOf]; omega
          | false =>
            have HK' : Hid (KeptG p xs (cs.set a xs[b]) (a + 1) (b + 1)) := hK.out.into hlt hpx
            have HPX := Lib.hid hpx; clear hpx hK
            generalize xs[b] = x at *
            obtain ⟨fr, to⟩ := x
            go_wp2_with fail
            refine (HP.out ⟨fr, to⟩ _ (hb.alloc (by omega) _)).mono ?_
            rw [HPX.out]
            rintro e w2 ⟨rfl, hb2⟩
            have hown2 := own_below (own_below hown ((Below.refl _ _).alloc (Nat.le_refl _) _)) hb2
            have hb' : Below B w w2 := (hb.alloc (by omega) _).trans (hb2.mono (by simp; omega))
            have hbox := ((BoxAt.new wr #[.int .i64 fr, .int .i64 to] 61).below hb2).cells
            obtain ⟨y0, hy0⟩ : ∃ y, w2.cell? ⟨g, a * 2, none⟩ = some y := by
              rw [hown2.cellAt (a * 2) (by omega)]; exact ⟨_, List.getElem?_eq_getElem (by have := HQL.out; omega)⟩
            obtain ⟨y1, hy1⟩ : ∃ y, w2.cell? ⟨g, a * 2 + 1, none⟩ = some y := by
              rw [hown2.cellAt (a * 2 + 1) (by omega)]; exact ⟨_, List.getElem?_eq_getElem (by have := HQL.out; omega)⟩
            have hf2 := hown2.frozenAt (a * 2)
            have hf3 := hown2.frozenAt (a * 2 + 1)
            have hst0 := hown2.stored (a * 2) (.int .i64 fr)
            have hst1 := hst0.1.stored (a * 2 + 1) (.int .i64 to)
            have hput := qcs_put cs a ⟨fr, to⟩
            have hst := hst1.1
            rw [hput] at hst
            have hbe : Below B w ((w2.setCell ⟨g, a * 2, none⟩ (.int .i64 fr)).setCell ⟨g, a * 2 + 1, none⟩ (.int .i64 to)) := (hb'.setCell (p := ⟨g, a * 2, none⟩) hgB _).setCell (p := ⟨g, a * 2 + 1, none⟩) hgB _
            clear q0 q1 hst0 hst1
            go_wp2_with fail
            go_roundw
            case rel => exact ⟨cs.set a ⟨fr, to⟩, a + 1, b + 1, by go_num, by go_num, by omega, by omega, HK', hst, hbe⟩
            case measure => simp [intOf]; omega
        · have hbx : b = xs.length := by omega
          have HK' : Hid (KeptG p xs cs a xs.length) := by rw [← hbx]; exact hK
          have hax : a < xs.length := by omega
          clear hK hlt
          obtain ⟨ii, hii, hz0, hz1, hz2⟩ := info_parts proxy_info
          have hzv : ∀ w, (zeroValue 61).run Try.prog w = .ok (vProxy ⟨0, 0⟩) w := by intro w; simp [zeroValue, typeInfo, hii, hz0]
          have hset := own_cellsN (List.replicate ((xs.length - a) * 2) (Value.int .i64 0)) wr (a * 2) (qcs cs) hown (by simp; omega)
          have hcut := own_cut hset.1 (m := a) (by omega) (by simp)
          have hbe : Below B w (wr.setCells g (a * 2) (List.replicate ((xs.length - a) * 2) (Value.int .i64 0))) := hb.grown hset.2 (by have := hb.size; omega) (by simpa using hgB)
          have hres : OwnProxs (wr.setCells g (a * 2) (List.replicate ((xs.length - a) * 2) (Value.int .i64 0))) B (.slice (some ⟨g, 0, none⟩) a cp) (keepF p xs) := by
            unfold OwnProxs
            rw [HK'.out.done.2]
            have e1 : ((qcs cs).take (a * 2) ++ List.replicate ((xs.length - a) * 2) (Value.int .i64 0) ++ (qcs cs).drop (a * 2 + (List.replicate ((xs.length - a) * 2) (Value.int .i64 0)).length)).take (a * 2) = qcs (keepF p xs) := by
              rw [← HK'.out.done.1, List.append_assoc, List.take_append_of_le_length (by have := HQL.out; simp; omega), List.take_take, Nat.min_self, qcs_take]
            rw [← e1]
            exact hcut
          clear hcut
          have hcc : ∀ j, j < (xs.length - a) * 2 → (wr.cell? ⟨g, a * 2 + j, none⟩).isSome = true := by
            intro j hj
            rw [hown.cellAt (a * 2 + j) (by omega), List.getElem?_eq_getElem (by have := HQL.out; omega)]; rfl
          have hff : ∀ j, j < (xs.length - a) * 2 → wr.frozen? ⟨g, a * 2 + j, none⟩ = false := fun j hj => hown.frozenAt (a * 2 + j)
          have HC := Lib.hid hcc; clear hcc
          have HF := Lib.hid hff; clear hff
          have HR := Lib.hid hres; clear hres hset
          have HZ := Lib.hid hzv; clear hzv
          go_wp2_with ((with_reducible change Go.wpList _ _ _ (Oper.mk _ (Op.call _) _ _ _ _ :: _) _ _); refine wpList_clear2 rfl (.tmp 38) _ rfl 61 (vProxy ⟨0, 0⟩) (.int .i64 0) Try.underlying27 HZ.out rfl rfl g (a * 2) (xs.length - a) (cp - a) rfl (by omega) HC.out HF.out ?_)
          go_ret
          exact ⟨_, rfl, HR.out, hbe⟩

end Go.Proofs.Ytapkicfbknoioaa
