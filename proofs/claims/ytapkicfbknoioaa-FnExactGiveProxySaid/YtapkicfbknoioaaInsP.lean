/- Contract: slices.Insert at proxies that the call owns, of one. No conditions beyond sizes. -/
import Derived.Test.YtapkicfbknoioaaVoteR
import Derived.Lib.Overlaps
import Derived.Lib.AppendZerosOnto
import Derived.Laws.IdiomCopy
namespace Go.Proofs.Ytapkicfbknoioaa
open Go.RowKit
set_option linter.unusedVariables false
set_option linter.unusedSimpArgs false

section
variable {P : Program}
/-- 'copy' of elements of some cells each. -/
theorem run_copy_many (w : World) (dT sT ty elem : TypeId) (size : Nat) (b o dLen dCap : Nat) (a : Addr) (sLen sCap m : Nat) (cs : List Value)
    (hu : P.underlying dT = some (.slice elem)) (hs : (P.info? elem).map (·.size) = some size) (hn : m = Nat.min sLen dLen) (hl : cs.length = m * size)
    (hsrc : ∀ j v, cs[j]? = some v → w.cell? (a.add j) = some v) (hc : ∀ j, j < cs.length → (w.cell? ⟨b, o + j, none⟩).isSome = true) (hf : ∀ j, j < cs.length → w.frozen? ⟨b, o + j, none⟩ = false) (h1 : ∀ v ∈ cs, v.oneCell' = true) :
    (Builtin.copy_ #[dT, sT] ty #[.slice (some ⟨b, o, none⟩) dLen dCap, .slice (some a) sLen sCap]).run P w = .ok (goInt m) (w.setCells b o cs) := by
  have hl2 := run_loadCells_list (P := P) w a cs hsrc
  have hst := run_storeCells_cells (P := P) b o cs 0 w (by simpa using hc) (by simpa using hf) h1
  cases hq : P.info? elem with
  | none => simp [hq] at hs
  | some i =>
    have hi : i.size = size := by simpa [hq] using hs
    rw [hl] at hl2
    simp [Builtin.copy_, run_underlying hu, Builtin.lenOf, Builtin.firstCells, sizeOf, typeInfo, hq, hi, ← hn, hl2, hst]
/-- Cells laid into a row that the call owns. -/
theorem own_copy {w : World} {base e size g N cap m k : Nat} {cs news : List Value} (h : w.ownsRow base e size (.slice (some ⟨g, 0, none⟩) N cap) N cs) (hl : news.length = m * size) (hk : k + m ≤ N) :
    (w.setCells g (k * size) news).ownsRow base e size (.slice (some ⟨g, 0, none⟩) N cap) N (cs.take (k * size) ++ news ++ cs.drop ((k + m) * size)) ∧ w.grownBy (w.setCells g (k * size) news) (some g) ∧
      (∀ j, j < news.length → (w.cell? ⟨g, k * size + j, none⟩).isSome = true) ∧ (∀ j, j < news.length → w.frozen? ⟨g, k * size + j, none⟩ = false) := by
  have hm := Nat.mul_le_mul_right size hk
  rw [Nat.add_mul] at hm
  have h1 := own_cellsN news w (k * size) cs h (by omega)
  rw [hl, ← Nat.add_mul] at h1
  refine ⟨h1.1, h1.2, fun j hj => ?_, fun j _ => h.frozenAt _⟩
  rw [h.cellAt _ (by omega), List.getElem?_eq_getElem (by rw [h.1]; omega)]
  rfl
theorem wpList_copy_many (w : World) {ops : Array Oper} {rest : List Oper} {o : Oper} {a : Act} {Q : Exit → Act → World → Prop} (hgd : o.guard = none) (d s : Operand) (t t' : TypeId)
    (ho : o.op = .call { callee := .builtin .copy, args := #[d, s], argTypes := #[t, t'] }) (elem : TypeId) (size : Nat) (hu : P.underlying t = some (.slice elem)) (hs : (P.info? elem).map (·.size) = some size)
    (g k dLen dCap : Nat) (ad : Addr) (sLen sCap m : Nat) (hd : a.eval d = .slice (some ⟨g, k * size, none⟩) dLen dCap) (hv : a.eval s = .slice (some ad) sLen sCap)
    (base e N cap : Nat) (cs news : List Value) (hown : w.ownsRow base e size (.slice (some ⟨g, 0, none⟩) N cap) N cs) (hn : m = Nat.min sLen dLen) (hl : news.length = m * size) (hk : k + m ≤ N)
    (hsrc : ∀ j v, news[j]? = some v → w.cell? (ad.add j) = some v) (h1 : ∀ v ∈ news, v.oneCell' = true)
    (h : ∀ w', w'.ownsRow base e size (.slice (some ⟨g, 0, none⟩) N cap) N (cs.take (k * size) ++ news ++ cs.drop ((k + m) * size)) → w.grownBy w' (some g) → wpList P ops Q rest (a.put o.dst (goInt m)) w') : wpList P ops Q (o :: rest) a w := by
  obtain ⟨c1, c2, c3, c4⟩ := own_copy hown hl hk
  have hr := run_copy_many (P := P) w t t' o.type elem size g (k * size) dLen dCap ad sLen sCap m news hu hs hn hl hsrc c3 c4 h1
  refine wpList_plain hgd fun K hK => ?_
  unfold Oper.wp execOp
  simp only [ho, resolve, invoke, builtin, Sem.run_bind, Sem.run_pure, Result.andThen_ok, List.map_toArray, List.map_cons, List.map_nil, hd, hv, hr]
  exact hK _ _ (h _ c1 c2)
theorem step_copy_many {w : World} {ops : Array Oper} {o : Oper} {a : Act} {K : Act → World → Prop} {Q : Exit → Act → World → Prop} {E : Prop} (hgd : o.guard = none) (d s : Operand) (t t' : TypeId)
    (ho : o.op = .call { callee := .builtin .copy, args := #[d, s], argTypes := #[t, t'] }) (elem : TypeId) (size : Nat) (hu : P.underlying t = some (.slice elem)) (hs : (P.info? elem).map (·.size) = some size)
    (g k dLen dCap : Nat) (ad : Addr) (sLen sCap m : Nat) (hd : a.eval d = .slice (some ⟨g, k * size, none⟩) dLen dCap) (hv : a.eval s = .slice (some ad) sLen sCap)
    (base e N cap : Nat) (cs news : List Value) (hown : w.ownsRow base e size (.slice (some ⟨g, 0, none⟩) N cap) N cs) (hn : m = Nat.min sLen dLen) (hl : news.length = m * size) (hk : k + m ≤ N)
    (hsrc : ∀ j v, news[j]? = some v → w.cell? (ad.add j) = some v) (h1 : ∀ v ∈ news, v.oneCell' = true)
    (h : ∀ w', w'.ownsRow base e size (.slice (some ⟨g, 0, none⟩) N cap) N (cs.take (k * size) ++ news ++ cs.drop ((k + m) * size)) → w.grownBy w' (some g) → K (a.put o.dst (goInt m)) w') :
    if Region.wanted o (yielded ops a.tmps) = true then Oper.wp P o a w K Q else E := by
  obtain ⟨c1, c2, c3, c4⟩ := own_copy hown hl hk
  have hr := run_copy_many (P := P) w t t' o.type elem size g (k * size) dLen dCap ad sLen sCap m news hu hs hn hl hsrc c3 c4 h1
  rw [if_pos (by simp [Region.wanted, hgd])]
  unfold Oper.wp execOp
  simp only [ho, resolve, invoke, builtin, Sem.run_bind, Sem.run_pure, Result.andThen_ok, List.map_toArray, List.map_cons, List.map_nil, hd, hv, hr]
  exact h _ c1 c2
/-- One more element of a row: whatever lies there. -/
theorem own_more {w : World} {base e size g n cap : Nat} {cs : List Value} (h : w.ownsRow base e size (.slice (some ⟨g, 0, none⟩) n cap) n cs) (hc : n + 1 ≤ cap) : ∃ ex : List Value, ex.length = size ∧ w.ownsRow base e size (.slice (some ⟨g, 0, none⟩) (n + 1) cap) (n + 1) (cs ++ ex) := by
  obtain ⟨hl, h2⟩ := h
  rcases h2 with ⟨h3, _⟩ | ⟨g', cap', cur, hv, hB, hh, h4, h5, h6, h7⟩
  · cases h3
  · cases hv
    have hm := Nat.mul_le_mul_right size hc
    rw [Nat.add_mul, Nat.one_mul] at hm
    have hcl : cur.toList.length = cap * size := by simpa using h6
    refine ⟨(cur.toList.drop (n * size)).take size, by rw [List.length_take, List.length_drop]; omega, by rw [List.length_append, List.length_take, List.length_drop, hl, Nat.add_mul]; omega, .inr ⟨g, cap, cur, rfl, hB, hh, hc, h5, h6, ?_⟩⟩
    rw [← h7, Nat.add_mul, Nat.one_mul, List.take_add]
/-- A row that has been made. -/
theorem own_newrow (w : World) (e size n cap : Nat) (cur : Array Value) (hs : cur.size = cap * size) (hn : n ≤ cap) (hm : cap ≤ maxLen) : (w.alloc (.cells cur e)).ownsRow w.heap.size e size (.slice (some ⟨w.heap.size, 0, none⟩) n cap) n (cur.toList.take (n * size)) := by
  have := Nat.mul_le_mul_right size hn
  exact ⟨by rw [List.length_take]; simp; omega, .inr ⟨w.heap.size, cap, cur, rfl, Nat.le_refl _, heap_alloc_new w _, hn, hm, hs, rfl⟩⟩
theorem ownBlock_cap (ao : Option Addr) (n c c' : Nat) : (Value.slice ao n c).ownBlock = (Value.slice ao n c').ownBlock := by cases ao <;> rfl
theorem grownBy_trans {a b c : World} {row : Option Nat} (h : a.grownBy b row) (k : b.grownBy c row) : a.grownBy c row :=
  ⟨k.os.trans h.os, k.tape.trans h.tape, k.output.trans h.output, Nat.le_trans h.size k.size, fun j hj hr => (k.block j (Nat.lt_of_lt_of_le hj h.size) hr).trans (h.block j hj hr)⟩
theorem qcs_app (a b : List DProxy) : qcs (a ++ b) = qcs a ++ qcs b := by simp [qcs]
theorem zeroCells_size (zs : Array Value) (k : Nat) : (Builtin.zeroCells zs k).size = k * zs.size := by
  simp [Builtin.zeroCells]
end

set_option maxRecDepth 100000 in
set_option maxHeartbeats 4000000 in
theorem slices_Insert_proxy (B : Nat) (v : Value) (ps : List DProxy) (i vb : Nat) (p : DProxy) (w : World) (hi : i ≤ ps.length) (h : w.ownsRow B 61 2 v ps.length (qcs ps)) (hB : B ≤ w.heap.size) (hn : ps.length ≤ 1048576) (hv : BoxAt w vb #[.int .i64 p.fr, .int .i64 p.to]) (hsh : w.shape? vb = some (61, 2)) (hvb : v.ownBlock ≠ some vb) :
    Calls Try.prog 49 #[v, .int .i64 i, .slice (some ⟨vb, 0, none⟩) 1 1] w fun e w' => ∃ u, e = .returned u ∧ w'.ownsRow B 61 2 u (ps.length + 1) (qcs (ps.take i ++ p :: ps.drop i)) ∧ w.grownBy w' v.ownBlock ∧ (u.ownBlock = v.ownBlock ∨ ∀ q, u.ownBlock = some q → w.heap.size ≤ q) := by
  obtain ⟨i0, hi0, hz0, hz1, hz2⟩ := info_parts proxy_info
  obtain ⟨ao, cap, rfl⟩ := (rowAt_of_own h).form
  have hrow := rowAt_of_own h
  obtain ⟨hlq, _, _, hve, q1, q2, q3⟩ := hrow
  cases hve
  have q2' := q2
  unfold maxLen at q2'
  have hRV : RowAt w (.slice (some ⟨vb, 0, none⟩) 1 1) 1 2 p.cs := ⟨rfl, _, _, rfl, Nat.le_refl _, by unfold maxLen; omega, fun _ => ⟨vb, 0, rfl, hv.1, fun k hk => by
    have := hv.cells k
    rw [Nat.zero_add, this]
    match k, hk with
    | 0, _ => rfl
    | 1, _ => rfl⟩⟩
  have h1p : ∀ u ∈ p.cs, u.oneCell' = true := by simp [DProxy.cs, Value.oneCell']
  have hcs : qcs (ps.take i ++ p :: ps.drop i) = qcs (ps.take i) ++ p.cs ++ qcs (ps.drop i) := by simp [qcs]
  have hiI : (i : Int) ≤ (ps.length : Int) := by omega
  have hicI : (ps.length : Int) ≤ (cap : Int) := by omega
  have hiw : IntKind.i64.wrap (i : Int) = (i : Int) := IntWalk.i64_in _ (by omega)
  rcases Nat.lt_or_ge i ps.length with hlt | hge
  · have hne : ((i : Int) == (ps.length : Int)) = false := by rw [beq_eq_false_iff_ne]; omega
    have hn0 : ¬ (i : Int) = (ps.length : Int) := by omega
    have hiP : (i : Int) < (ps.length : Int) := by omega
    have hci : ¬ cap = i := by omega
    obtain ⟨g, hao⟩ : ∃ g, ao = some ⟨g, 0, none⟩ := by
      rcases h.2 with ⟨_, h0⟩ | ⟨g, _, _, hve, _⟩
      · omega
      · cases hve; exact ⟨g, rfl⟩
    subst hao
    have hgb : vb ≠ g := fun e => hvb (by rw [e]; rfl)
    have hgw : g < w.heap.size := (h.lt g rfl).2
    have hdl : (qcs (ps.drop i)).length = (ps.length - i) * 2 := by rw [qcs_length, List.length_drop]
    have hcell : ∀ j u, (qcs (ps.drop i))[j]? = some u → w.cell? ⟨g, i * 2 + j, none⟩ = some u := fun j u hj => by
      have hj2 : j < (qcs (ps.drop i)).length := (List.getElem?_eq_some_iff.1 hj).1
      rw [h.cellAt _ (by omega)]
      have hsplit : qcs ps = qcs (ps.take i) ++ qcs (ps.drop i) := by rw [← qcs_app, List.take_append_drop]
      rw [hsplit, List.getElem?_append_right (by rw [qcs_length, List.length_take]; omega), qcs_length, List.length_take]
      rw [show i * 2 + j - min i ps.length * 2 = j by omega]
      exact hj
    have hone := qcs_one (ps.drop i)
    have e1 : qcs (ps.take i) = (qcs ps).take (i * 2) := (qcs_take ps i).symm
    have hgN : some g ≠ some w.heap.size := fun e => by cases e; omega
    have HV1 : Hid (∀ W1, Below w.heap.size w W1 → ∀ j u, p.cs[j]? = some u → W1.cell? ((⟨vb, 0, none⟩ : Addr).add j) = some u) := fun W1 hb1 j u hj => by
      rw [Addr.add_lit, Nat.zero_add]
      refine ((hb1.cell (p := ⟨vb, j, none⟩) hv.1).trans (hv.cells j)).trans ?_
      rw [← hj]
      match j with
      | 0 => rfl
      | 1 => rfl
      | j + 2 => rfl
    have HCE : Hid (∀ w2 : World, (∀ j, w2.cell? ⟨g, j, none⟩ = w.cell? ⟨g, j, none⟩) → ∀ j u, (qcs (ps.drop i))[j]? = some u → w2.cell? ((⟨g, i * 2, none⟩ : Addr).add j) = some u) := fun w2 h2 j u hj => by
      rw [Addr.add_lit, h2]
      exact hcell j u hj
    rcases Nat.lt_or_ge cap (ps.length + 1) with hcap | hcap
    · have hst : i + (ps.length + 1 - i) = ps.length + 1 := by omega
      have hol : ((qcs ps).take (i * 2)).length = i * 2 := by rw [List.length_take, qcs_length]; omega
      have hold : (Builtin.firstCells i0.size i (.slice (some ⟨g, 0, none⟩) i cap)).run Try.prog w.drew = .ok ((qcs ps).take (i * 2)).toArray w.drew := by
        rw [hz1]
        exact run_firstCells_some w.drew 2 i ⟨g, 0, none⟩ i cap ((qcs ps).take (i * 2)) hol (fun j u hj => by
          rw [Addr.add_lit, Nat.zero_add]
          rw [List.getElem?_take] at hj
          split at hj
          · have : w.cell? ⟨g, j, none⟩ = (qcs ps)[j]? := h.cellAt j (by omega)
            exact this.trans hj
          · cases hj)
      obtain ⟨G, hG⟩ : ∃ G, G = grownCap w (ps.length + 1) cap 61 := ⟨_, rfl⟩
      have hGn : ps.length + 1 ≤ G := by rw [hG]; exact grownCap_ge w _ _ _
      have hG63 : G ≤ maxLen := by rw [hG]; exact grownCap_le_maxLen w _ _ _ (by unfold maxLen; omega)
      obtain ⟨ROW, hROW⟩ : ∃ ROW : Array Value, ROW = ((qcs ps).take (i * 2)).toArray ++ Builtin.zeroCells (vProxy ⟨0, 0⟩).cells (ps.length + 1 - i) ++ Builtin.zeroCells (vProxy ⟨0, 0⟩).cells (G - (ps.length + 1)) := ⟨_, rfl⟩
      have hrz : ∀ ty, (Builtin.append_ #[27, 3] ty #[.slice (some ⟨g, 0, none⟩) i cap, .int .i64 ((ps.length : Int) + 1 - (i : Int))]).run Try.prog w = .ok (.slice (some ⟨w.heap.size, 0, none⟩) (ps.length + 1) G) (w.drew.alloc (.cells ROW 61)) := fun ty => by
        have h9 := Lib.run_append_grow_zeros w 27 3 ty 61 i0 _ .i64 .i64 Try.underlying27 Try.underlying3 hi0 hz0 (some ⟨g, 0, none⟩) i cap ((qcs ps).take (i * 2)) hold (ps.length + 1 - i) (by omega) (by rw [hz1]; omega) (by omega) (by omega) (by rw [hz2]; omega) (by rw [hz2, hst]; exact growslice_fits hcap (by omega))
        rw [hst, ← hG, ← hROW] at h9
        have hkk : (ps.length : Int) + 1 - (i : Int) = ((ps.length + 1 - i : Nat) : Int) := by omega
        rw [hkk]
        exact h9
      have hRs : ROW.size = G * 2 := by
        have e2 : (vProxy ⟨0, 0⟩).cells.size = 2 := rfl
        rw [hROW]
        simp only [Array.size_append, zeroCells_size, e2, List.size_toArray, hol]
        omega
      have hRt : ROW.toList.take (i * 2) = (qcs ps).take (i * 2) := by
        rw [hROW]
        simp only [Array.toList_append, List.append_assoc]
        rw [List.take_append_of_le_length (by simpa using Nat.le_of_eq hol.symm), List.take_of_length_le (by simpa using Nat.le_of_eq hol)]
      have o1 := own_newrow w.drew 61 2 (ps.length + 1) G ROW hRs hGn hG63
      obtain ⟨W1, hW1⟩ : ∃ W1, W1 = w.drew.alloc (.cells ROW 61) := ⟨_, rfl⟩
      rw [← hW1] at hrz o1
      have hb1 : Below w.heap.size w W1 := by rw [hW1]; exact (Below.drew (Below.refl _ _)).alloc (Nat.le_refl _) _
      obtain ⟨C1, hC1⟩ : ∃ C1, C1 = ROW.toList.take ((ps.length + 1) * 2) := ⟨_, rfl⟩
      have o1' : W1.ownsRow w.heap.size 61 2 (.slice (some ⟨w.heap.size, 0, none⟩) (ps.length + 1) G) (ps.length + 1) C1 := by rw [hC1]; exact o1
      have hC1t : C1.take (i * 2) = (qcs ps).take (i * 2) := by rw [hC1, List.take_take, Nat.min_eq_left (by omega), hRt]
      have hC1l : C1.length = (ps.length + 1) * 2 := o1'.1
      have HC1 := Lib.hid hC1t; have HC1l := Lib.hid hC1l
      clear hW1 hROW hRs hRt o1 hold hG hC1 hC1t hC1l hst hol
      have hGi : ¬ G = i := by omega
      have hGi1 : ¬ G = i + 1 := by omega
      have hGI : (ps.length : Int) + 1 ≤ (G : Int) := by omega
      have hcapI : (cap : Int) < (ps.length : Int) + 1 := by omega
      have htn : ((i : Int) + 1).toNat = i + 1 := by omega
      have hi0I : (0 : Int) ≤ (i : Int) := by omega
      have hi1I : (0 : Int) ≤ (i : Int) + 1 := by omega
      have hi2I : (i : Int) + 1 ≤ (ps.length : Int) + 1 := by omega
      have hi3I : (i : Int) ≤ (ps.length : Int) + 1 := by omega
      have hi4I : (i : Int) + 1 ≤ (G : Int) := by omega
      unfold maxLen at hG63
      have hw1 : IntKind.i64.wrap ((i : Int) + 1) = (i : Int) + 1 := IntWalk.i64_in _ (by omega)
      go_enter Try.func49, Try.ntmps49
      go_wp2_with (first
        | (at_builtin; refine Lib.wpList_append_run _ rfl _ _ _ _ rfl _ _ rfl rfl _ _ (hrz _) ?_)
        | (with_reducible change Go.wpList _ _ _ (Oper.mk _ (Op.call _) _ _ _ _ :: _) _ _; refine wpList_copy_many _ rfl (.tmp 43) (.tmp 44) 27 27 rfl 61 2 Try.underlying27 (by rw [hi0]; simp [hz1]) w.heap.size i (ps.length + 1 - i) (G - i) ⟨vb, 0, none⟩ 1 1 1 rfl rfl w.heap.size 61 (ps.length + 1) G C1 p.cs o1' (by simp only [Nat.min_def]; split <;> omega) rfl (by omega) (HV1.out W1 hb1) h1p ?_; intro w2 o2 g2; have hcel2 := HCE.out w2 (fun j => (World.cell?_of_block (w := W1) (a := ⟨g, j, none⟩) (g2.block g (by have := hb1.size; omega) hgN)).trans (hb1.cell (p := ⟨g, j, none⟩) hgw))))
      go_region_law (refine step_copy_many (by rfl) (.tmp 50) (.tmp 53) 27 27 (by rfl) 61 2 Try.underlying27 (by rw [hi0]; simp [hz1]) w.heap.size (i + 1) (ps.length - i) (G - (i + 1)) ⟨g, i * 2, none⟩ (ps.length - i) (cap - i) (ps.length - i) (by simp [Act.eval, Act.put]) (by simp [Act.eval, Act.put]) w.heap.size 61 (ps.length + 1) G (C1.take (i * 2) ++ p.cs ++ C1.drop ((i + 1) * 2)) (qcs (ps.drop i)) (by first | exact o2 | exact World.ownsRow.drew o2) (by simp only [Nat.min_def]; split <;> omega) hdl (by omega) (by first | exact hcel2 | exact fun j u hj => hcel2 j u hj) hone ?_; intro w3 o3 g3)
      all_goals go_wp2_with fail
      all_goals go_ret
      all_goals
        have hpl : p.cs.length = 2 := rfl
        have h1 : (C1.take (i * 2)).length = i * 2 := by rw [List.length_take, HC1l.out]; omega
        have e3 : (C1.take (i * 2) ++ p.cs ++ C1.drop ((i + 1) * 2)).take ((i + 1) * 2) = C1.take (i * 2) ++ p.cs := by
          rw [List.take_append_of_le_length (by rw [List.length_append, h1, hpl]; omega), List.take_of_length_le (by rw [List.length_append, h1, hpl]; omega)]
        have e4 : (C1.take (i * 2) ++ p.cs ++ C1.drop ((i + 1) * 2)).drop ((i + 1 + (ps.length - i)) * 2) = [] := by
          rw [List.drop_of_length_le]
          rw [List.length_append, List.length_append, h1, hpl, List.length_drop, HC1l.out]
          omega
        rw [e3, e4, List.append_nil, HC1.out, ← e1, ← hcs] at o3
        have g3' : w2.grownBy w3 (some w.heap.size) := ⟨g3.os, g3.tape, g3.output, g3.size, g3.block⟩
        refine ⟨_, rfl, own_base o3 hB, below_grown ((hb1.grown g2 (by have := hb1.size; omega) (fun k hk => ?_)).grown g3' ?_ (fun k hk => ?_)) _, .inr (fun q hq => (o3.lt q hq).1)⟩
        · cases hk; exact Nat.le_refl _
        · have := hb1.size; have := g2.size; omega
        · cases hk; exact Nat.le_refl _
    · have hgB : B ≤ g := (h.lt g rfl).1
      obtain ⟨ex, hexl, o0⟩ := own_more h hcap
      have hshg : ∃ kB, w.shape? g = some (61, kB) ∧ kB ≠ 0 := by
        obtain ⟨_, h2⟩ := o0
        rcases h2 with ⟨h3, _⟩ | ⟨g', cap', cur, hv', hB', hh, h4, h5, h6, h7⟩
        · cases h3
        · cases hv'
          exact ⟨cur.size, by simp [World.shape?, hh], by omega⟩
      obtain ⟨kB, hsg, hkB⟩ := hshg
      have hov : ∀ lb cb, (callFunc 79 #[.slice (some ⟨vb, 0, none⟩) 1 1, .slice (some ⟨g, (i + 1) * 2, none⟩) lb cb]).run Try.prog w = .ok (.value (.bool false)) w := fun lb cb => by
        rw [run_callFunc_extern Try.func79 (by kernel_rfl) (by kernel_rfl) (by kernel_rfl) (e := Extern.SlicesOverlaps.overlaps #[27, 27] #[4]) (by kernel_rfl),
          Lib.run_overlaps_apart w 27 4 61 Try.underlying27 2 (fun w => by kernel_rfl) ⟨vb, 0, none⟩ ⟨g, (i + 1) * 2, none⟩ 1 1 lb cb hgb _ _ _ _ hsh hsg hkB (hv.free 0) (hv.free 2)]
        rfl
      have hcelW := HCE.out w (fun _ => rfl)
      have hVB : ∀ w3 : World, w.drew.grownBy w3 (some g) → ∀ j u, p.cs[j]? = some u → w3.cell? ((⟨vb, 0, none⟩ : Addr).add j) = some u := fun w3 g3 j u hj => by
        have hx := HV1.out w (Below.refl _ _) j u hj
        rw [Addr.add_lit] at hx ⊢
        exact (World.cell?_of_block (w := w.drew) (a := ⟨vb, 0 + j, none⟩) (g3.block vb hv.1 (fun e => hgb (by cases e; rfl)))).trans hx
      have HVB := Lib.hid hVB
      obtain ⟨C0, hC0⟩ : ∃ C0, C0 = qcs ps ++ ex := ⟨_, rfl⟩
      rw [← hC0] at o0
      have hqlen : (qcs ps).length = ps.length * 2 := qcs_length ps
      have hC0t : C0.take (i * 2) = qcs (ps.take i) := by rw [hC0, List.take_append_of_le_length (by omega), e1]
      have hC0l : C0.length = (ps.length + 1) * 2 := o0.1
      have HC0 := Lib.hid hC0t; have HC0l := Lib.hid hC0l; have HDL := Lib.hid hdl; have HQT := Lib.hid hcs
      clear hVB hC0 hC0t hC0l hdl hcell hexl e1 hcs hqlen
      have hcap1 : ¬ cap = i + 1 := by omega
      have hcapI : ¬ (cap : Int) < (ps.length : Int) + 1 := by omega
      have hcapI2 : (ps.length : Int) + 1 ≤ (cap : Int) := by omega
      have htn : ((i : Int) + 1).toNat = i + 1 := by omega
      have htn2 : ((ps.length : Int) + 1).toNat = ps.length + 1 := by omega
      have hi0I : (0 : Int) ≤ (i : Int) := by omega
      have hi1I : (0 : Int) ≤ (i : Int) + 1 := by omega
      have hi2I : (i : Int) + 1 ≤ (ps.length : Int) + 1 := by omega
      have hi3I : (i : Int) ≤ (ps.length : Int) + 1 := by omega
      have hw1 : IntKind.i64.wrap ((i : Int) + 1) = (i : Int) + 1 := IntWalk.i64_in _ (by omega)
      go_enter Try.func49, Try.ntmps49
      go_wp2_with (simp only [hov])
      go_region_law (refine step_copy_many (by rfl) (.tmp 73) (.tmp 76) 27 27 (by rfl) 61 2 Try.underlying27 (by rw [hi0]; simp [hz1]) g (i + 1) (ps.length - i) (cap - (i + 1)) ⟨g, i * 2, none⟩ (ps.length + 1 - i) (cap - i) (ps.length - i) (by simp [Act.eval, Act.put]) (by simp [Act.eval, Act.put]) B 61 (ps.length + 1) cap C0 (qcs (ps.drop i)) (by first | exact o0 | exact World.ownsRow.drew o0) (by simp only [Nat.min_def]; split <;> omega) HDL.out (by omega) (by first | exact hcelW | exact fun j u hj => hcelW j u hj) hone ?_; intro w3 o3 g3)
      all_goals go_wp2_with (with_reducible change Go.wpList _ _ _ (Oper.mk _ (Op.call _) _ _ _ _ :: _) _ _; refine wpList_copy_many _ rfl (.tmp 80) (.tmp 81) 27 27 rfl 61 2 Try.underlying27 (by rw [hi0]; simp [hz1]) g i (ps.length + 1 - i) (cap - i) ⟨vb, 0, none⟩ 1 1 1 rfl rfl B 61 (ps.length + 1) cap _ p.cs o3 (by simp only [Nat.min_def]; split <;> omega) rfl (by omega) (HVB.out _ g3) h1p ?_; intro w4 o4 g4)
      all_goals go_ret
      all_goals
        have hpl : p.cs.length = 2 := rfl
        have h1 : (C0.take ((i + 1) * 2)).length = (i + 1) * 2 := by rw [List.length_take, HC0l.out]; omega
        have e4 : C0.drop ((i + 1 + (ps.length - i)) * 2) = [] := by
          rw [List.drop_of_length_le]
          rw [HC0l.out]
          omega
        rw [e4, List.append_nil, List.take_append_of_le_length (by rw [h1]; omega), List.take_take, Nat.min_eq_left (by omega), HC0.out, List.drop_append_of_le_length (by rw [h1]; omega), List.drop_of_length_le (by rw [h1]; omega), List.nil_append, ← HQT.out] at o4
        have g3' : w.grownBy w3 (some g) := ⟨g3.os, g3.tape, g3.output, g3.size, g3.block⟩
        exact ⟨_, rfl, o4, grownBy_trans g3' g4, .inl rfl⟩
  · obtain rfl : i = ps.length := by omega
    have hq0 : qcs (ps.take ps.length ++ p :: ps.drop ps.length) = qcs ps ++ p.cs := by simp [qcs]
    rw [hq0]
    have HLT := h.lt
    have hcc : (if cap = ps.length then ao else ao.map (·.add (ps.length * 2))) = (if cap = ps.length then ao else ao.map (·.add (ps.length * 2))) := rfl
    go_enter Try.func49, Try.ntmps49
    go_wp2_with (at_builtin; refine wpList_append_row _ rfl (.tmp 23) (.tmp 24) _ rfl B 61 i0 _ 2 16 Try.underlying27 hi0 hz0 hz1 hz2 rfl (by omega) (.slice ao ps.length cap) ps.length (qcs ps) rfl h _ 1 p.cs rfl hRV h1p (by unfold maxLen; omega) (by omega) hB ?_; intro v' w' k1 k2 k3; have K2 := Lib.hid k2; have K3 := Lib.hid k3)
    all_goals go_ret
    all_goals exact ⟨_, rfl, k1, by first | exact K2.out | (rw [ownBlock_cap ao _ _ cap]; exact K2.out), (K3.out).elim (fun e => .inl (by first | exact e | (rw [ownBlock_cap ao _ _ cap]; exact e))) (fun e => .inr (fun q hq => by have hq' : v'.ownBlock = some q := hq; rw [e] at hq'; cases hq'; exact Nat.le_refl _))⟩

end Go.Proofs.Ytapkicfbknoioaa
