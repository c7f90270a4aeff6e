/- Contracts: draws of voters. Condition: fewer than a thousand million choices. -/
import Derived.Test.YtapkicfbknoioaaDrawV
import Derived.Test.YtapkicfbknoioaaGiveS
import Derived.Deep.RegionLaw
import Derived.Deep.DeepCutAuto
import Derived.Deep.CutBlock
namespace Go.Proofs.Ytapkicfbknoioaa
open Go.RowKit
set_option linter.unusedVariables false
set_option linter.unusedSimpArgs false

theorem box_keepQ {b B : Nat} {cs : Array Value} {w w' : World} (h : BoxAt w b cs) (hb : Below B w w') (hB : b < B) : BoxAt w' b cs :=
  ⟨by have := h.1; have := hb.size; omega, fun i => (hb.cell (p := ⟨b, i, none⟩) hB).trans (h.2.1 i), fun i => (hb.frozen (p := ⟨b, i, none⟩) hB).trans (h.2.2 i)⟩
theorem box_grownQ {b : Nat} {cs : Array Value} {w w' : World} {row : Option Nat} (h : BoxAt w b cs) (hg : w.grownBy w' row) (hne : some b ≠ row) : BoxAt w' b cs :=
  ⟨by have := h.1; have := hg.size; omega, fun i => (World.cell?_of_block (w := w) (a := ⟨b, i, none⟩) (hg.block b h.1 hne)).trans (h.2.1 i), fun i => (World.frozen?_of_block (w := w) (a := ⟨b, i, none⟩) (hg.block b h.1 hne)).trans (h.2.2 i)⟩
theorem own_grownQ {w w' : World} {B e n size : Nat} {v : Value} {cs : List Value} {row : Option Nat} (h : w.ownsRow B e size v n cs) (hg : w.grownBy w' row) (hne : v.ownBlock = none ∨ row ≠ v.ownBlock) : w'.ownsRow B e size v n cs := by
  refine ⟨h.1, ?_⟩
  rcases h.2 with h2 | ⟨g, cap, cur, rfl, hB, hgg, r⟩
  · exact .inl h2
  · refine .inr ⟨g, cap, cur, rfl, hB, (hg.block g (Array.getElem?_eq_some_iff.1 hgg).1 (fun e => ?_)).trans hgg, r⟩
    rcases hne with h3 | h3
    · simp [Value.ownBlock] at h3
    · exact h3 (by simpa [Value.ownBlock] using e.symm)
/-- A call of a Go function with two operands, three operands, as a step of a region that draws. -/
theorem step_call2 {P : Program} {w : World} {ops : Array Oper} {o : Oper} {a : Act} {K : Act → World → Prop} {Q : Exit → Act → World → Prop} {E : Prop} (hgd : o.guard = none) (f : Nat) (s x : Operand) (t t' : TypeId)
    (ho : o.op = .call { callee := .value (.func f), args := #[s, x], argTypes := #[t, t'] }) (hf : Enters P f) (vs vx : Value) (hs : a.eval s = vs) (hx : a.eval x = vx)
    (h : Calls P f #[vs, vx] w fun e w' => ∃ v, e = .returned v ∧ K (a.put o.dst v) w') :
    if Region.wanted o (yielded ops a.tmps) = true then Oper.wp P o a w K Q else E := by
  rw [if_pos (by simp [Region.wanted, hgd])]
  unfold Oper.wp execOp
  have hf' := hf.out
  have hfv : a.eval (.func f) = .func (.func f) #[] #[] := rfl
  simp only [ho, resolve, hfv, Deferred.ofValue, invoke, Sem.run_bind, Sem.run_pure, Result.andThen_ok, List.map_toArray, List.map_cons, List.map_nil, hs, hx, List.append_nil, Array.append_empty, hf', Oper.upon_enter]
  refine h.mono ?_
  rintro e w' ⟨v, rfl, hk⟩
  exact hk
theorem step_call3 {P : Program} {w : World} {ops : Array Oper} {o : Oper} {a : Act} {K : Act → World → Prop} {Q : Exit → Act → World → Prop} {E : Prop} (hgd : o.guard = none) (f : Nat) (s x y : Operand) (t t' t'' : TypeId)
    (ho : o.op = .call { callee := .value (.func f), args := #[s, x, y], argTypes := #[t, t', t''] }) (hf : Enters P f) (vs vx vy : Value) (hs : a.eval s = vs) (hx : a.eval x = vx) (hy : a.eval y = vy)
    (h : Calls P f #[vs, vx, vy] w fun e w' => ∃ v, e = .returned v ∧ K (a.put o.dst v) w') :
    if Region.wanted o (yielded ops a.tmps) = true then Oper.wp P o a w K Q else E := by
  rw [if_pos (by simp [Region.wanted, hgd])]
  unfold Oper.wp execOp
  have hf' := hf.out
  have hfv : a.eval (.func f) = .func (.func f) #[] #[] := rfl
  simp only [ho, resolve, hfv, Deferred.ofValue, invoke, Sem.run_bind, Sem.run_pure, Result.andThen_ok, List.map_toArray, List.map_cons, List.map_nil, hs, hx, hy, List.append_nil, Array.append_empty, hf', Oper.upon_enter]
  refine h.mono ?_
  rintro e w' ⟨v, rfl, hk⟩
  exact hk

/-- Voters in the making: their variable lies in block s, its slices behind it; the result's variable in block r; the cursor in block b. -/
structure VotAt (W0 : World) (cv : Value) (w w' : World) (b m r s : Nat) (p q : Value) (d : DVoters) : Prop where
  cur : CurAt W0 cv w' b m
  tow : CurTo b w w'
  res : BoxAt w' r #[.slice none 0 0, .slice none 0 0]
  box : BoxAt w' s #[p, q]
  own : OwnV w' (s + 1) p q d
  ord : b < w.heap.size ∧ w.heap.size ≤ r ∧ r < s
section
variable {W0 : World} {cv : Value} {w w1 w2 : World} {b m m' r s : Nat} {p q p' q' : Value} {d : DVoters}
theorem VotAt.step (h : VotAt W0 cv w w1 b m r s p q d) (hb : Below w1.heap.size w1 w2) : VotAt W0 cv w w2 b m r s p q d :=
  ⟨h.cur.step hb, curTo_below h.tow (hb.mono h.tow.size), h.res.below hb, h.box.below hb, h.own.below hb, h.ord⟩
theorem VotAt.went (h : VotAt W0 cv w w1 b m r s p q d) (k : CurAt W0 cv w2 b m') (t : CurTo b w1 w2) : VotAt W0 cv w w2 b m' r s p q d :=
  ⟨k, h.tow.trans t, OutOf.box t h.res (.inr (by have := h.ord; omega)), OutOf.box t h.box (.inr (by have := h.ord; omega)), ⟨own_outQ h.own.1 t (by have := h.ord; omega), own_outQ h.own.2.1 t (by have := h.ord; omega), h.own.2.2⟩, h.ord⟩
theorem VotAt.more (h : VotAt W0 cv w w1 b m r s p q d) (hm : m ≤ m') : VotAt W0 cv w w1 b m' r s p q d := ⟨h.cur.more hm, h.tow, h.res, h.box, h.own, h.ord⟩
theorem VotAt.boxed (h : VotAt W0 cv w w1 b m r s p q d) {i : Nat} {v : Value} (hi : i < 2) (hc : (#[p, q] : Array Value).setIfInBounds i v = #[p', q']) {d' : DVoters} (ho : OwnV w1 (s + 1) p' q' d') : VotAt W0 cv w (w1.setCell ⟨s, i, none⟩ v) b m r s p' q' d' := by
  have hd := h.ord
  have hb : Below s w1 (w1.setCell ⟨s, i, none⟩ v) := (Below.refl _ _).setCell (p := ⟨s, i, none⟩) (Nat.le_refl _) v
  have ht : OutOf s (s + 1) w1 (w1.setCell ⟨s, i, none⟩ v) := (OutOf.refl _ _ _).set _
  exact ⟨h.cur.keep hb (by omega), curTo_below h.tow (hb.mono (by omega)), box_keepQ h.res hb (by omega), by rw [← hc]; exact BoxAt.put h.box (by simpa using hi) v, ⟨own_outQ ho.1 ht, own_outQ ho.2.1 ht, ho.2.2⟩, hd⟩
/-- Both slices are written into the variable. -/
theorem VotAt.all (h : VotAt W0 cv w w1 b m r s p q d) {d' : DVoters} (ho : OwnV w1 (s + 1) p' q' d') : VotAt W0 cv w ((w1.setCell ⟨s, 0, none⟩ p').setCell ⟨s, 1, none⟩ q') b m r s p' q' d' := by
  have hd := h.ord
  have hb : Below s w1 ((w1.setCell ⟨s, 0, none⟩ p').setCell ⟨s, 1, none⟩ q') := ((Below.refl _ _).setCell (p := ⟨s, 0, none⟩) (Nat.le_refl _) p').setCell (p := ⟨s, 1, none⟩) (Nat.le_refl _) q'
  have ht : OutOf s (s + 1) w1 ((w1.setCell ⟨s, 0, none⟩ p').setCell ⟨s, 1, none⟩ q') := ((OutOf.refl _ _ _).set _).set _
  refine ⟨h.cur.keep hb (by omega), curTo_below h.tow (hb.mono (by omega)), box_keepQ h.res hb (by omega), ?_, ⟨own_outQ ho.1 ht, own_outQ ho.2.1 ht, ho.2.2⟩, hd⟩
  have := (BoxAt.put h.box (i := 0) (by simp) p').put (i := 1) (by simp) q'
  simpa using this
theorem VotAt.wide (h : VotAt W0 cv w w1 b m r s p q d) {row : Option Nat} (g : w1.grownBy w2 row) (hr : ∀ k, row = some k → s + 1 ≤ k) : CurAt W0 cv w2 b m ∧ CurTo b w w2 ∧ BoxAt w2 r #[.slice none 0 0, .slice none 0 0] ∧ BoxAt w2 s #[p, q] := by
  have hd := h.ord
  have hs := h.box.1
  have hb : Below (s + 1) w1 w2 := ((Below.refl w1.heap.size w1).mono (by omega)).grown g (by omega) hr
  exact ⟨h.cur.keep hb (by omega), curTo_below h.tow (hb.mono (by omega)), box_keepQ h.res hb (by omega), box_keepQ h.box hb (by omega)⟩
/-- A weight is appended, and the slice written into the variable. -/
theorem VotAt.pushW {o : Obj} (h0 : VotAt W0 cv w w1 b m r s p q d) {ys : List Int} (ho' : OwnInts w2 (s + 1) p' ys) (g : (w1.alloc o).grownBy w2 p.ownBlock) (e : p'.ownBlock = p.ownBlock ∨ p'.ownBlock = some (w1.alloc o).heap.size) :
    VotAt W0 cv w (w2.setCell ⟨s, 0, none⟩ p') b m r s p' q ⟨ys, d.proxies⟩ := by
  have h := h0.step (alQ w1 o)
  obtain ⟨k1, k2, k3, k4⟩ := h.wide g (fun k hk => (h.own.1.lt k hk).1)
  have hq : OwnProxs w2 (s + 1) q d.proxies := own_grownQ h.own.2.1 g (by
    rcases h.own.2.2 with h5 | h5
    · cases hq : q.ownBlock with
      | none => exact .inl rfl
      | some j => exact .inr (by rw [h5]; simp)
    · exact .inr (fun e => h5 e.symm))
  have hap : p'.ownBlock = none ∨ q.ownBlock ≠ p'.ownBlock := by
    rcases e with e | e
    · rw [e]; exact h.own.2.2
    · exact .inr (fun h6 => by rw [e] at h6; have := (h.own.2.1.lt _ h6).2; omega)
  have hV : VotAt W0 cv w w2 b m r s p q ⟨ys, d.proxies⟩ → False → False := fun _ h => h
  have hd := h.ord
  have hb : Below s w2 (w2.setCell ⟨s, 0, none⟩ p') := (Below.refl _ _).setCell (p := ⟨s, 0, none⟩) (Nat.le_refl _) p'
  have ht : OutOf s (s + 1) w2 (w2.setCell ⟨s, 0, none⟩ p') := (OutOf.refl _ _ _).set _
  refine ⟨k1.keep hb (by omega), curTo_below k2 (hb.mono (by omega)), box_keepQ k3 hb (by omega), ?_, ⟨own_outQ ho' ht, own_outQ hq ht, hap⟩, hd⟩
  have := BoxAt.put k4 (i := 0) (by simp) p'
  simpa using this
/-- A proxy is appended, and the slice written into the variable. -/
theorem VotAt.pushP {o : Obj} (h0 : VotAt W0 cv w w1 b m r s p q d) {ys : List DProxy} (ho' : OwnProxs w2 (s + 1) q' ys) (g : (w1.alloc o).grownBy w2 q.ownBlock) (e : q'.ownBlock = q.ownBlock ∨ q'.ownBlock = some (w1.alloc o).heap.size) :
    VotAt W0 cv w (w2.setCell ⟨s, 1, none⟩ q') b m r s p q' ⟨d.weights, ys⟩ := by
  have h := h0.step (alQ w1 o)
  obtain ⟨k1, k2, k3, k4⟩ := h.wide g (fun k hk => (h.own.2.1.lt k hk).1)
  have hp : OwnInts w2 (s + 1) p d.weights := own_grownQ h.own.1 g h.own.2.2
  have hap : p.ownBlock = none ∨ q'.ownBlock ≠ p.ownBlock := by
    rcases e with e | e
    · rw [e]; exact h.own.2.2
    · cases hq : p.ownBlock with
      | none => exact .inl rfl
      | some j => exact .inr (fun h6 => by rw [e] at h6; cases h6; have := (h.own.1.lt _ hq).2; omega)
  have hd := h.ord
  have hb : Below s w2 (w2.setCell ⟨s, 1, none⟩ q') := (Below.refl _ _).setCell (p := ⟨s, 1, none⟩) (Nat.le_refl _) q'
  have ht : OutOf s (s + 1) w2 (w2.setCell ⟨s, 1, none⟩ q') := (OutOf.refl _ _ _).set _
  refine ⟨k1.keep hb (by omega), curTo_below k2 (hb.mono (by omega)), box_keepQ k3 hb (by omega), ?_, ⟨own_outQ hp ht, own_outQ ho' ht, hap⟩, hd⟩
  have := BoxAt.put k4 (i := 1) (by simp) q'
  simpa using this
/-- The result's variable is written. -/
theorem VotAt.last (h : VotAt W0 cv w w1 b m r s p q d) (ho : OutOf r (r + 1) w1 w2) : OwnV w2 w.heap.size p q d ∧ CurAt W0 cv w2 b m ∧ CurTo b w w2 := by
  have hd := h.ord
  have hb : Below r w1 w2 := ho.below (Nat.le_refl _) (by have := h.res.1; omega)
  exact ⟨⟨own_base (own_outQ h.own.1 ho (by omega)) (by omega), own_base (own_outQ h.own.2.1 ho (by omega)) (by omega), h.own.2.2⟩, h.cur.keep hb (by omega), curTo_below h.tow (hb.mono (by omega))⟩
end
/-- Voters in the making, some number of weights and proxies. -/
def VotEx (W0 : World) (cv : Value) (w w' : World) (b m r s nw np : Nat) : Prop := ∃ (d : DVoters) (aw : Option Addr) (kw : Nat) (aq : Option Addr) (kq : Nat), d.weights.length ≤ nw ∧ d.proxies.length ≤ np ∧ VotAt W0 cv w w' b m r s (.slice aw d.weights.length kw) (.slice aq d.proxies.length kq) d
/-- A weight has been drawn and appended. -/
def VotPu (W0 : World) (cv : Value) (w w' : World) (b m r s : Nat) (d : DVoters) : Prop := ∃ (y : Int) (aw : Option Addr) (kw : Nat) (aq : Option Addr) (kq : Nat), VotAt W0 cv w w' b m r s (.slice aw (d.weights.length + 1) kw) (.slice aq d.proxies.length kq) ⟨d.weights ++ [y], d.proxies⟩
/-- A proxy has been given to somebody, or not. -/
def VotGi (W0 : World) (cv : Value) (w w' : World) (b m r s i : Nat) (d : DVoters) (p q t o : Value) : Prop := ∃ (g : Nat) (x : Int) (d' : DVoters) (ok : Bool) (aw : Option Addr) (kw : Nat) (aq : Option Addr) (kq : Nat), giveV d (i : Int) x = (d', ok) ∧ t = .pointer (some ⟨g, 0, none⟩) ∧ o = .bool ok ∧ s < g ∧ BoxAt w' g #[.slice aw d'.weights.length kw, .slice aq d'.proxies.length kq] ∧ OwnV w' (s + 1) (.slice aw d'.weights.length kw) (.slice aq d'.proxies.length kq) d' ∧ VotAt W0 cv w w' b m r s p q d
theorem giveV_ok_len {d d' : DVoters} {f x : Int} (h : giveV d f x = (d', true)) : d'.weights = d.weights ∧ d'.proxies.length ≤ d.proxies.length + 1 := by
  unfold giveV at h
  split at h
  · have h1 := congrArg Prod.fst h
    dsimp only at h1
    subst h1
    refine ⟨rfl, ?_⟩
    have h2 := putQ_len f x (outQ f d.proxies)
    have h3 := outQ_len f d.proxies
    simp only [givD]
    omega
  · have h1 := congrArg Prod.snd h
    cases h1

theorem votGi_set {W0 : World} {cv : Value} {w w8 : World} {b m r s g B : Nat} {p q p' q' : Value} {d d' : DVoters} (h : VotAt W0 cv w w8 b m r s p q d) (G : BoxAt w8 g #[.slice none 0 0, .slice none 0 0]) (hsg : s < g)
    (hp : ∀ k, p.ownBlock = some k → k < g) (hq : ∀ k, q.ownBlock = some k → k < g) (O : OwnV w8 B p' q' d') (hB : g < B) (hsB : s + 1 ≤ B) :
    BoxAt ((w8.setCell ⟨g, 0, none⟩ p').setCell ⟨g, 1, none⟩ q') g #[p', q'] ∧ OwnV ((w8.setCell ⟨g, 0, none⟩ p').setCell ⟨g, 1, none⟩ q') (s + 1) p' q' d' ∧ VotAt W0 cv w ((w8.setCell ⟨g, 0, none⟩ p').setCell ⟨g, 1, none⟩ q') b m r s p q d := by
  have hd := h.ord
  have hb : Below g w8 ((w8.setCell ⟨g, 0, none⟩ p').setCell ⟨g, 1, none⟩ q') := ((Below.refl _ _).setCell (p := ⟨g, 0, none⟩) (Nat.le_refl _) p').setCell (p := ⟨g, 1, none⟩) (Nat.le_refl _) q'
  have ht : OutOf g (g + 1) w8 ((w8.setCell ⟨g, 0, none⟩ p').setCell ⟨g, 1, none⟩ q') := ((OutOf.refl _ _ _).set _).set _
  have hg : w8.grownBy ((w8.setCell ⟨g, 0, none⟩ p').setCell ⟨g, 1, none⟩ q') (some g) := ⟨ht.os, ht.tape, ht.output, ht.size, fun k hk hne => ht.block k hk (by have : k ≠ g := fun e => hne (by rw [e]); omega)⟩
  refine ⟨?_, ⟨own_base (own_outQ O.1 ht (by omega)) hsB, own_base (own_outQ O.2.1 ht (by omega)) hsB, O.2.2⟩, ⟨h.cur.keep hb (by omega), curTo_below h.tow (hb.mono (by omega)), box_keepQ h.res hb (by omega), box_keepQ h.box hb (by omega), ⟨own_grownQ h.own.1 hg (.inr (fun e => absurd (hp _ e.symm) (Nat.lt_irrefl _))), own_grownQ h.own.2.1 hg (.inr (fun e => absurd (hq _ e.symm) (Nat.lt_irrefl _))), h.own.2.2⟩, hd⟩⟩
  have := (BoxAt.put G (i := 0) (by simp) p').put (i := 1) (by simp) q'
  simpa using this

set_option maxRecDepth 100000 in
set_option maxHeartbeats 8000000 in
theorem cur_voters (W0 : World) (cv : Value) (bs : List Int) (b m : Nat) (w : World) (hv : BytesAt W0 cv bs) (hl : bs.length ≤ 65537) (h : CurAt W0 cv w b m) (hm : m ≤ 800000000) :
    Calls Try.prog 56 #[.pointer (some ⟨b, 0, none⟩)] w fun e w' => ∃ p q d, e = .returned (vVoters p q) ∧ OwnV w' w.heap.size p q d ∧ d.weights.length ≤ 20 ∧ d.proxies.length ≤ 20 ∧ CurAt W0 cv w' b (m + 200) ∧ CurTo b w w' := by
  have hbw := h.lt
  have HV := Lib.hid hv; clear hv
  obtain ⟨WR, hWR⟩ : ∃ WR, WR = w.alloc (.cells #[.slice none 0 0, .slice none 0 0] 29) := ⟨_, rfl⟩
  have bR : BoxAt WR w.heap.size #[.slice none 0 0, .slice none 0 0] := by rw [hWR]; exact BoxAt.new _ _ _
  have hR : CurAt W0 cv WR b m := by rw [hWR]; exact h.step (alQ _ _)
  have tR : CurTo b w WR := by rw [hWR]; exact curTo_of (alQ w _)
  have S0 : VotAt W0 cv w (WR.alloc (.cells #[.slice none 0 0, .slice none 0 0] 29)) b m w.heap.size WR.heap.size (.slice none 0 0) (.slice none 0 0) ⟨[], []⟩ :=
    ⟨hR.step (alQ _ _), tR.trans (curTo_of (alQ _ _)), bR.below (alQ _ _), BoxAt.new _ _ _, OwnV.nil _ _, hbw, Nat.le_refl _, bR.1⟩
  have hWs : WR.heap.size = w.heap.size + 1 := by rw [hWR]; simp
  have HWR := Lib.hid hWR; clear hWR
  have HWs := Lib.hid hWs; clear hWs
  clear bR hR tR h
  go_enter Try.func56, Try.ntmps56
  go_wp2_with fail
  rw [← HWR.out, ← HWs.out]
  generalize (WR.alloc (.cells #[.slice none 0 0, .slice none 0 0] 29)) = w1 at S0 ⊢
  generalize WR.heap.size = s at *
  refine (cur_pick W0 cv bs b _ 8 _ HV.out hl S0.cur (by omega) (by omega)).mono ?_
  rintro e w2 ⟨x, rfl, x0, x1, x2, k2, t2⟩
  have x1' := x1 (by omega)
  obtain ⟨N, rfl⟩ : ∃ N : Nat, x = N := ⟨x.toNat, by omega⟩
  have S1 := S0.went k2 t2
  clear S0 k2 t2 x1
  go_wp2_with fail
  go_loopw [4] (fun i wr => ∃ (j : Nat) (d : DVoters) (aw : Option Addr) (kw : Nat) (aq : Option Addr) (kq : Nat), d.weights.length + j ≤ 7 ∧ d.proxies.length = 0 ∧ i = .int .i64 j ∧ VotAt W0 cv w wr b (m + 2 + 2 * d.weights.length) w.heap.size s (.slice aw d.weights.length kw) (.slice aq d.proxies.length kq) d) (fun i _ => (intOf i).toNat)
  case atStart => exact ⟨N, ⟨[], []⟩, none, 0, none, 0, by simp; omega, rfl, rfl, S1⟩
  case round =>
    rename World => wa
    clear S1
    obtain ⟨j, d, aw, kw, aq, kq, hj, hp0, rfl, S⟩ := hrel
    have HP0 := Lib.hid hp0; clear hp0
    have hwl : d.weights.length ≤ 7 := by omega
    by_cases hj0 : 0 < j
    · have hjI : (0 : Int) < (j : Int) := by omega
      go_wp2_with fail
      have HR1 : ∀ z : Int, ∀ c ∈ (#[.int .i64 z] : Array Value).toList, c.oneCell' = true := by intro z c hc; simp at hc; subst hc; rfl
      have cS := S.box.cells; have fS := S.box.free
      have oa := fun o => (S.box.alloc o).cells
      have hEn := enters_of Try.func58 (by kernel_rfl) (by kernel_rfl)
      have HEN := Lib.hid hEn; clear hEn
      go_region_law (first
        | ((with_reducible change ite (Region.wanted (Oper.mk (some 19) _ _ _ _ _) _ = true) _ _); (refine step_call2 (by rfl) 58 (.tmp 17) (.tmp 18) _ _ (by rfl) HEN.out _ _ (by rfl) (by rfl) ?_);
           (refine (cur_among W0 cv bs b _ _ [0, 1, 1, 2, 10, 100] _ HV.out hl ((S.step (by first | exact alQ _ _ | exact Below.drew (alQ _ _))).cur) (by omega) (by first | exact own_base (own_litL _ 3 [0, 1, 1, 2, 10, 100] (by simp)) (by have := S.ord; have := S.box.1; omega) | exact own_base (own_litL _ 3 [0, 1, 1, 2, 10, 100] (by simp)).drew (by have := S.ord; have := S.box.1; omega)) (by simp) (by simp)).mono ?_);
           (rintro e w7 ⟨y, rfl, hy, k7, t7⟩); (refine ⟨_, rfl, ?_⟩);
           (have S7 := (S.step (by first | exact alQ _ _ | exact Below.drew (alQ _ _))).went k7 t7); (have c7 := S7.box.cells); (have f7 := S7.box.free); (have hs7 := S7.box.1);
           (have HBd : Hid (BoxAt (w7.alloc (.cells #[.int .i64 y] 3)) s #[.slice aw d.weights.length kw, .slice aq d.proxies.length kq]) := S7.box.alloc _); (have cd := HBd.out.cells); (have HNB : Hid (some s ≠ (Value.slice aw d.weights.length kw).ownBlock) := fun e => by have := (S7.own.1.lt _ e.symm).1; omega))
        | ((with_reducible change ite (Region.wanted (Oper.mk (some 21) _ _ _ _ _) _ = true) _ _); (refine step_append_row (by rfl) (.tmp 16) (.tmp 20) _ (by rfl) (s + 1) 3 _ 1 8 int_info Try.underlying22 (by rfl) (by omega) (by omega) (.slice aw d.weights.length kw) d.weights.length (ints d.weights) (by rfl) (own_below S7.own.1 (alQ _ _)) _ 1 (#[.int .i64 y] : Array Value).toList (by rfl) (row_new w7 #[.int .i64 y] 3 1 rfl) (HR1 y) (by omega) (by omega) (by simp; omega) ?_);
           (intro v8 w8 o8 g8 e8); (obtain ⟨a8, k8, rfl⟩ := (rowAt_of_own o8).form); (have E8 := Lib.hid e8); (have B8 := box_grownQ HBd.out g8 HNB.out); (have c8 := B8.cells); (have f8 := B8.free)))
      all_goals
        clear cS fS oa HR1 c7 f7 cd HBd HNB k7 t7 hs7 hy
        go_wp2_with fail
        go_roundw
        case rel =>
          have o8' : OwnInts w8 (s + 1) (.slice a8 (d.weights.length + 1) k8) (d.weights ++ [y]) := by simpa [OwnInts, OwnI, ints] using o8
          have S8 := S7.pushW (o := .cells #[.int .i64 y] 3) o8' g8 E8.out
          exact ⟨j - 1, ⟨d.weights ++ [y], d.proxies⟩, a8, k8, aq, kq, by simp; omega, HP0.out, by congr 1; omega, by simpa using VotAt.more (m' := m + 2 + 2 * (d.weights.length + 1)) (by first | exact S8 | exact S8.step (Below.drew (Below.refl _ _))) (by omega)⟩
        case measure => simp [intOf]; omega
    · have hjI : ¬ (0 : Int) < (j : Int) := by omega
      have S2 := S.more (m' := m + 20) (by omega)
      clear S hj hj0
      go_wp2_with fail
      go_loopw [5, 6, 7] (fun v _ _ wr => ∃ (i : Nat) (d : DVoters) (aw : Option Addr) (kw : Nat) (aq : Option Addr) (kq : Nat), i ≤ d.weights.length ∧ d.weights.length ≤ 7 ∧ d.proxies.length ≤ i ∧ v = .int .i64 i ∧ VotAt W0 cv w wr b (m + 20 + 6 * i) w.heap.size s (.slice aw d.weights.length kw) (.slice aq d.proxies.length kq) d) (fun v _ _ _ => 7 - (intOf v).toNat)
      case atStart => exact ⟨0, d, aw, kw, aq, kq, by omega, hwl, by rw [HP0.out]; omega, rfl, S2⟩
      case round =>
        rename World => wb
        clear S2 HP0 hwl
        obtain ⟨i, d, aw, kw, aq, kq, hi, hw7, hpi, rfl, S⟩ := hrel
        have cS0 := S.box.cells
        by_cases hlt : i < d.weights.length
        · have hltI : (i : Int) < (d.weights.length : Int) := by omega
          go_wp2_with fail
          refine (cur_one W0 cv bs b _ 2 _ HV.out hl S.cur (by omega) (by omega)).mono ?_
          rintro e w6 ⟨x, rfl, k6, t6⟩
          have S6 := S.went k6 t6
          clear k6 t6 S cS0
          cases x with
          | false =>
            go_wp2_with fail
            go_roundw
            case rel => exact ⟨i + 1, d, aw, kw, aq, kq, by omega, by omega, by omega, by go_num, S6.more (by omega)⟩
            case measure => simp [intOf]; omega
          | true =>
            have hvl : d.weights.length ≤ 1048576 ∧ d.proxies.length ≤ 1048576 := by omega
            go_upto_region 10 with fail
            go_cut [6, 7] from 23 to 44 (fun t o wx => VotGi W0 cv w wx b (m + 26 + 6 * i) w.heap.size s i d (.slice aw d.weights.length kw) (.slice aq d.proxies.length kq) t o)
            case first => as_aux_lemma =>
              have cS := S6.box.cells; have fS := S6.box.free
              have hs6 := S6.box.1
              have hEn := enters_of Try.func57 (by kernel_rfl) (by kernel_rfl)
              have HEN := Lib.hid hEn; clear hEn
              have hEg := enters_of Try.func7 (by kernel_rfl) (by kernel_rfl)
              have HEG := Lib.hid hEg; clear hEg
              go_region_law (first
                | ((with_reducible change ite (Region.wanted (Oper.mk (some 39) _ _ _ _ _) _ = true) _ _); (refine step_call2 (by rfl) 57 (.tmp 35) (.tmp 38) _ _ (by rfl) HEN.out _ _ (by rfl) (by rfl) ?_);
                   (refine (cur_pick W0 cv bs b _ (d.weights.length : Int) _ HV.out hl ((S6.step (by first | exact Below.refl _ _ | exact Below.drew (Below.refl _ _) | exact alQ _ _ | exact Below.drew (alQ _ _))).cur) (by omega) (by omega)).mono ?_);
                   (rintro e w7 ⟨y, rfl, y0, y1, y2, k7, t7⟩); (refine ⟨_, rfl, ?_⟩);
                   (have S7 := (S6.step (by first | exact Below.refl _ _ | exact Below.drew (Below.refl _ _) | exact alQ _ _ | exact Below.drew (alQ _ _))).went k7 t7); (have c7 := S7.box.cells); (have f7 := S7.box.free); (have hs7 := S7.box.1); (have ht7 := t7.size);
                   (first | (have G7 : BoxAt w7 w6.heap.size #[.slice none 0 0, .slice none 0 0] := OutOf.box t7 (by first | exact BoxAt.new w6 _ _ | exact BoxAt.drw (BoxAt.new w6 _ _)) (.inr (by have := S6.ord; omega)); have cg7 := G7.cells; have fg7 := G7.free) | skip))
                | ((with_reducible change ite (Region.wanted (Oper.mk (some 40) _ _ _ _ _) _ = true) _ _); (refine step_call3 (by rfl) 7 (.tmp 33) (.tmp 34) (.tmp 39) _ _ _ (by rfl) HEG.out (vVoters (.slice aw d.weights.length kw) (.slice aq d.proxies.length kq)) (.int .i64 i) _ (by rfl) (by rfl) (by rfl) ?_);
                   (refine (s_GiveProxy _ _ d i y _ ((S7.step (by first | exact Below.refl _ _ | exact alQ _ _)).own.at_) hvl).mono ?_);
                   (rintro e w8 ⟨p8, q8, rfl, ho8, hb8⟩); (refine ⟨_, rfl, ?_⟩); (obtain ⟨a8, k8, a8', k8', rfl, rfl⟩ := ho8.at_.form); (have S8 := (S7.step (by first | exact Below.refl _ _ | exact alQ _ _)).step hb8); (have c8 := S8.box.cells);
                   (first | (have G8 : BoxAt w8 w6.heap.size #[.slice none 0 0, .slice none 0 0] := BoxAt.below G7 hb8; have cg8 := G8.cells; have fg8 := G8.free; clear cg7 fg7) | (have G8 : BoxAt w8 w7.heap.size #[.slice none 0 0, .slice none 0 0] := BoxAt.below (by exact BoxAt.new w7 _ _) hb8; have cg8 := G8.cells; have fg8 := G8.free) | skip)))
              all_goals
                clear cS fS c7 f7 c8
                first | go_meet | (go_wp2_with fail; go_meet)
                have hs8 := hb8.size
                simp at hs8 ht7
                obtain ⟨⟨d', ok⟩, hD⟩ : ∃ V, V = giveV d i y := ⟨_, rfl⟩
                rw [← hD] at ho8 ⊢
                first
                  | exact ⟨w8.heap.size, y, d', ok, a8, k8, a8', k8', hD.symm, rfl, rfl, by omega, BoxAt.new _ _ _, (ho8.base (by omega)).below (alQ _ _), ((S8.step (alQ _ _)).more (by omega))⟩
                  | (have hz := votGi_set S8 G8 (by omega) (fun k hk => by first | exact (S6.own.1.lt _ hk).2 | exact (S7.own.1.lt _ hk).2) (fun k hk => by first | exact (S6.own.2.1.lt _ hk).2 | exact (S7.own.2.1.lt _ hk).2) ho8 (by first | omega | (simp; done) | (simp; omega)) (by first | omega | (simp; omega))
                     exact ⟨_, y, d', ok, a8, k8, a8', k8', hD.symm, rfl, rfl, by omega, hz.1, hz.2.1, hz.2.2.more (by omega)⟩)
            case rest =>
              rename World => wx
              obtain ⟨g, x, d', ok, a8, k8, a9, k9, hD, rfl, rfl, hsg, B8, O8, S8⟩ := hcut
              have hgs : g ≠ s := by omega
              have hsg2 : s ≠ g := by omega
              have cS := S8.box.cells; have fS := S8.box.free
              have cG := B8.cells
              clear S6
              cases ok with
              | false =>
                go_wp2_with fail
                go_roundw
                case rel => exact ⟨i + 1, d, aw, kw, aq, kq, by omega, by omega, by omega, by go_num, S8.more (by omega)⟩
                case measure => simp [intOf]; omega
              | true =>
                obtain ⟨e1, e2⟩ := giveV_ok_len hD
                have E1 := Lib.hid e1
                clear e1 hD
                have S9 := S8.all O8
                go_wp2_with fail
                go_roundw
                case rel => exact ⟨i + 1, d', a8, k8, a9, k9, by rw [E1.out]; omega, by rw [E1.out]; omega, by omega, by go_num, S9.more (by omega)⟩
                case measure => simp [intOf]; omega
        · have hltI : ¬ (i : Int) < (d.weights.length : Int) := by omega
          have hp7 : d.proxies.length ≤ 7 := by omega
          go_wp2_with fail
          refine (cur_pick W0 cv bs b _ 30 _ HV.out hl S.cur (by omega) (by omega)).mono ?_
          rintro e w6 ⟨x, rfl, x0, x1, x2, k6, t6⟩
          have S6 := (S.went k6 t6).more (m' := m + 100) (by omega)
          clear k6 t6 S cS0 hlt hltI x1 x2 hpi hi
          go_upto_block 4 with fail
          go_cut [47] (fun _ wx => VotEx W0 cv w wx b (m + 190) w.heap.size s 14 8)
          case first => as_aux_lemma =>
            by_cases x10 : x = 0
            · subst x10
              go_wp2_with fail
              have HR1 : ∀ z : Int, ∀ c ∈ (#[.int .i64 z] : Array Value).toList, c.oneCell' = true := by intro z c hc; simp at hc; subst hc; rfl
              have cS := S6.box.cells; have fS := S6.box.free
              have oa := fun o => (S6.box.alloc o).cells
              have hEn := enters_of Try.func58 (by kernel_rfl) (by kernel_rfl)
              have HEN := Lib.hid hEn; clear hEn
              go_region_law (first
                | ((with_reducible change ite (Region.wanted (Oper.mk (some 53) _ _ _ _ _) _ = true) _ _); (refine step_call2 (by rfl) 58 (.tmp 51) (.tmp 52) _ _ (by rfl) HEN.out _ _ (by rfl) (by rfl) ?_);
                   (refine (cur_among W0 cv bs b _ _ [-1, 101] _ HV.out hl ((S6.step (by first | exact alQ _ _ | exact Below.drew (alQ _ _))).cur) (by omega) (by first | exact own_base (own_litL _ 3 [-1, 101] (by simp)) (by have := S6.ord; have := S6.box.1; omega) | exact own_base (own_litL _ 3 [-1, 101] (by simp)).drew (by have := S6.ord; have := S6.box.1; omega)) (by simp) (by simp)).mono ?_);
                   (rintro e w7 ⟨y, rfl, hy, k7, t7⟩); (refine ⟨_, rfl, ?_⟩);
                   (have S7 := (S6.step (by first | exact alQ _ _ | exact Below.drew (alQ _ _))).went k7 t7); (have c7 := S7.box.cells); (have f7 := S7.box.free); (have hs7 := S7.box.1);
                   (have HBd : Hid (BoxAt (w7.alloc (.cells #[.int .i64 y] 3)) s #[.slice aw d.weights.length kw, .slice aq d.proxies.length kq]) := S7.box.alloc _); (have cd := HBd.out.cells); (have HNB : Hid (some s ≠ (Value.slice aw d.weights.length kw).ownBlock) := fun e => by have := (S7.own.1.lt _ e.symm).1; omega))
                | ((with_reducible change ite (Region.wanted (Oper.mk (some 55) _ _ _ _ _) _ = true) _ _); (refine step_append_row (by rfl) (.tmp 50) (.tmp 54) _ (by rfl) (s + 1) 3 _ 1 8 int_info Try.underlying22 (by rfl) (by omega) (by omega) (.slice aw d.weights.length kw) d.weights.length (ints d.weights) (by rfl) (own_below S7.own.1 (alQ _ _)) _ 1 (#[.int .i64 y] : Array Value).toList (by rfl) (row_new w7 #[.int .i64 y] 3 1 rfl) (HR1 y) (by omega) (by omega) (by simp; omega) ?_);
                   (intro v8 w8 o8 g8 e8); (obtain ⟨a8, k8, rfl⟩ := (rowAt_of_own o8).form); (have E8 := Lib.hid e8); (have B8 := box_grownQ HBd.out g8 HNB.out); (have c8 := B8.cells); (have f8 := B8.free)))
              all_goals
                clear cS fS oa HR1 c7 f7 c8 f8 B8 cd HBd HNB k7 t7 hs7 hy
                first | go_meet | (go_wp2_with fail; go_meet)
                have o8' : OwnInts w8 (s + 1) (.slice a8 (d.weights.length + 1) k8) (d.weights ++ [y]) := by simpa [OwnInts, OwnI, ints] using o8
                have S8 := S7.pushW (o := .cells #[.int .i64 y] 3) o8' g8 E8.out
                exact ⟨⟨d.weights ++ [y], d.proxies⟩, a8, k8, aq, kq, by simp; omega, by dsimp only; omega, by simpa using VotAt.more (m' := m + 190) (by first | exact S8 | exact S8.step (Below.drew (Below.refl _ _))) (by omega)⟩
            · have xb0 : (x == 0) = false := by simp [x10]
              by_cases x11 : x = 1
              · subst x11
                have hwA : IntKind.i64.wrap ((d.weights.length : Int) + 1) = (d.weights.length : Int) + 1 := IntWalk.i64_in _ (by omega)
                have hwB : IntKind.i64.wrap ((d.weights.length : Int) - 1) = (d.weights.length : Int) - 1 := IntWalk.i64_in _ (by omega)
                go_wp2_with fail
                have HR2 : ∀ z : Int, ∀ c ∈ (#[.int .i64 ((d.weights.length : Int) - 1), .int .i64 z] : Array Value).toList, c.oneCell' = true := by intro z c hc; simp at hc; rcases hc with rfl | rfl <;> rfl
                have cS := S6.box.cells; have fS := S6.box.free
                have hEn := enters_of Try.func57 (by kernel_rfl) (by kernel_rfl)
                have HEN := Lib.hid hEn; clear hEn
                go_region_law (first
                  | ((with_reducible change ite (Region.wanted (Oper.mk (some 70) _ _ _ _ _) _ = true) _ _); (refine step_call2 (by rfl) 57 (.tmp 65) (.tmp 69) _ _ (by rfl) HEN.out _ _ (by rfl) (by rfl) ?_);
                     (refine (cur_pick W0 cv bs b _ ((d.weights.length : Int) + 1) _ HV.out hl ((S6.step (by first | exact Below.refl _ _ | exact Below.drew (Below.refl _ _))).cur) (by omega) (by omega)).mono ?_);
                     (rintro e w7 ⟨y, rfl, y0, y1, y2, k7, t7⟩); (refine ⟨_, rfl, ?_⟩);
                     (have S7 := (S6.step (by first | exact Below.refl _ _ | exact Below.drew (Below.refl _ _))).went k7 t7); (have c7 := S7.box.cells); (have f7 := S7.box.free); (have hs7 := S7.box.1);
                     (have HBd : Hid (BoxAt (w7.alloc (.cells #[.int .i64 ((d.weights.length : Int) - 1), .int .i64 y] 61)) s #[.slice aw d.weights.length kw, .slice aq d.proxies.length kq]) := S7.box.alloc _); (have cd := HBd.out.cells); (have HNB : Hid (some s ≠ (Value.slice aq d.proxies.length kq).ownBlock) := fun e => by have := (S7.own.2.1.lt _ e.symm).1; omega))
                  | ((with_reducible change ite (Region.wanted (Oper.mk (some 73) _ _ _ _ _) _ = true) _ _); (refine step_append_row (by rfl) (.tmp 60) (.tmp 72) _ (by rfl) (s + 1) 61 _ 2 16 proxy_info Try.underlying27 (by rfl) (by omega) (by omega) (.slice aq d.proxies.length kq) d.proxies.length (qcs d.proxies) (by rfl) (own_below S7.own.2.1 (alQ _ _)) _ 1 (#[.int .i64 ((d.weights.length : Int) - 1), .int .i64 y] : Array Value).toList (by rfl) (row_new w7 #[.int .i64 ((d.weights.length : Int) - 1), .int .i64 y] 61 2 rfl) (HR2 y) (by omega) (by omega) (by simp; omega) ?_);
                     (intro v8 w8 o8 g8 e8); (obtain ⟨a8, k8, rfl⟩ := (rowAt_of_own o8).form); (have E8 := Lib.hid e8); (have B8 := box_grownQ HBd.out g8 HNB.out); (have c8 := B8.cells); (have f8 := B8.free)))
                all_goals
                  clear cS fS HR2 c7 f7 c8 f8 B8 cd HBd HNB k7 t7 hs7
                  first | go_meet | (go_wp2_with fail; go_meet)
                  have o8' : OwnProxs w8 (s + 1) (.slice a8 (d.proxies.length + 1) k8) (d.proxies ++ [⟨(d.weights.length : Int) - 1, y⟩]) := by simpa [OwnProxs, qcs, DProxy.cs] using o8
                  have S8 := S7.pushP (o := .cells #[.int .i64 ((d.weights.length : Int) - 1), .int .i64 y] 61) o8' g8 E8.out
                  exact ⟨⟨d.weights, d.proxies ++ [⟨(d.weights.length : Int) - 1, y⟩]⟩, aw, kw, a8, k8, by dsimp only; omega, by simp; omega, by simpa using VotAt.more (m' := m + 190) (by first | exact S8 | exact S8.step (Below.drew (Below.refl _ _))) (by omega)⟩
              · have xb1 : (x == 1) = false := by simp [x11]
                by_cases x12 : x = 2
                · subst x12
                  go_wp2_with fail
                  have HR2 : ∀ z : Int, ∀ c ∈ (#[.int .i64 (0), .int .i64 z] : Array Value).toList, c.oneCell' = true := by intro z c hc; simp at hc; rcases hc with rfl | rfl <;> rfl
                  have cS := S6.box.cells; have fS := S6.box.free
                  have hEn := enters_of Try.func57 (by kernel_rfl) (by kernel_rfl)
                  have HEN := Lib.hid hEn; clear hEn
                  go_region_law (first
                    | ((with_reducible change ite (Region.wanted (Oper.mk (some 80) _ _ _ _ _) _ = true) _ _); (refine step_call2 (by rfl) 57 (.tmp 79) (.const (.int .i64 3)) _ _ (by rfl) HEN.out _ _ (by rfl) (by rfl) ?_);
                       (refine (cur_pick W0 cv bs b _ 3 _ HV.out hl ((S6.step (by first | exact Below.refl _ _ | exact Below.drew (Below.refl _ _))).cur) (by omega) (by omega)).mono ?_);
                       (rintro e w7 ⟨y, rfl, y0, y1, y2, k7, t7⟩); (refine ⟨_, rfl, ?_⟩);
                       (have S7 := (S6.step (by first | exact Below.refl _ _ | exact Below.drew (Below.refl _ _))).went k7 t7); (have c7 := S7.box.cells); (have f7 := S7.box.free); (have hs7 := S7.box.1);
                       (have HBd : Hid (BoxAt (w7.alloc (.cells #[.int .i64 (0), .int .i64 y] 61)) s #[.slice aw d.weights.length kw, .slice aq d.proxies.length kq]) := S7.box.alloc _); (have cd := HBd.out.cells); (have HNB : Hid (some s ≠ (Value.slice aq d.proxies.length kq).ownBlock) := fun e => by have := (S7.own.2.1.lt _ e.symm).1; omega))
                    | ((with_reducible change ite (Region.wanted (Oper.mk (some 83) _ _ _ _ _) _ = true) _ _); (refine step_append_row (by rfl) (.tmp 78) (.tmp 82) _ (by rfl) (s + 1) 61 _ 2 16 proxy_info Try.underlying27 (by rfl) (by omega) (by omega) (.slice aq d.proxies.length kq) d.proxies.length (qcs d.proxies) (by rfl) (own_below S7.own.2.1 (alQ _ _)) _ 1 (#[.int .i64 (0), .int .i64 y] : Array Value).toList (by rfl) (row_new w7 #[.int .i64 (0), .int .i64 y] 61 2 rfl) (HR2 y) (by omega) (by omega) (by simp; omega) ?_);
                       (intro v8 w8 o8 g8 e8); (obtain ⟨a8, k8, rfl⟩ := (rowAt_of_own o8).form); (have E8 := Lib.hid e8); (have B8 := box_grownQ HBd.out g8 HNB.out); (have c8 := B8.cells); (have f8 := B8.free)))
                  all_goals
                    clear cS fS HR2 c7 f7 c8 f8 B8 cd HBd HNB k7 t7 hs7
                    first | go_meet | (go_wp2_with fail; go_meet)
                    have o8' : OwnProxs w8 (s + 1) (.slice a8 (d.proxies.length + 1) k8) (d.proxies ++ [⟨0, y⟩]) := by simpa [OwnProxs, qcs, DProxy.cs] using o8
                    have S8 := S7.pushP (o := .cells #[.int .i64 (0), .int .i64 y] 61) o8' g8 E8.out
                    exact ⟨⟨d.weights, d.proxies ++ [⟨0, y⟩]⟩, aw, kw, a8, k8, by dsimp only; omega, by simp; omega, by simpa using VotAt.more (m' := m + 190) (by first | exact S8 | exact S8.step (Below.drew (Below.refl _ _))) (by omega)⟩
                · have xb2 : (x == 2) = false := by simp [x12]
                  by_cases x13 : x = 3
                  · subst x13
                    obtain ⟨i0, hi0, hz0, hz1, hz2⟩ := info_parts int_info
                    go_wp2_with fail
                    go_loopw [93] (fun _ wr => ∃ (d : DVoters) (aw : Option Addr) (kw : Nat) (aq : Option Addr) (kq : Nat), d.weights.length ≤ 13 ∧ d.proxies.length ≤ 7 ∧ VotAt W0 cv w wr b (m + 100 + 4 * d.weights.length) w.heap.size s (.slice aw d.weights.length kw) (.slice aq d.proxies.length kq) d) (fun _ wr => 14 - slenQ ((wr.cell? ⟨s, 0, none⟩).getD (.int .i64 0)))
                    case atStart => exact ⟨d, aw, kw, aq, kq, by omega, by omega, S6.more (by omega)⟩
                    case round =>
                      rename World => wc
                      clear S6 hp7 hw7
                      obtain ⟨d, aw, kw, aq, kq, hw13, hp7, S⟩ := hrel
                      have cS := S.box.cells; have fS := S.box.free
                      have hcc : Hid (wc.cell? ⟨s, 0, none⟩ = some (.slice aw d.weights.length kw)) := by have := cS 0; rw [Hid]; simpa using this
                      go_wp2_with fail
                      go_region_law (first
                        | ((with_reducible change ite (Region.wanted (Oper.mk (some 91) _ _ _ _ _) _ = true) _ _); (refine step_call2 (by rfl) 57 (.tmp 90) (.const (.int .i64 2)) _ _ (by rfl) (enters_of Try.func57 (by kernel_rfl) (by kernel_rfl)) _ _ (by rfl) (by rfl) ?_);
                           (refine (cur_pick W0 cv bs b _ 2 _ HV.out hl ((S.step (by first | exact Below.refl _ _ | exact Below.drew (Below.refl _ _))).cur) (by omega) (by omega)).mono ?_);
                           (rintro e w7 ⟨y, rfl, y0, y1, y2, k7, t7⟩); (refine ⟨_, rfl, ?_⟩);
                           (have S7 := (S.step (by first | exact Below.refl _ _ | exact Below.drew (Below.refl _ _))).went k7 t7); (have c7 := S7.box.cells); (have f7 := S7.box.free); (have hs7 := S7.box.1); (have y3 := y1 (by omega)); (have hw9 : IntKind.i64.wrap (12 + y) = 12 + y := IntWalk.i64_in _ (by omega))))
                      all_goals
                        clear cS fS
                        by_cases hlt : (d.weights.length : Int) < 12 + y
                        · have HRone : ∀ c ∈ (#[.int .i64 1] : Array Value).toList, c.oneCell' = true := by intro c hc; simp at hc; subst hc; rfl
                          have oa := fun o => (S7.box.alloc o).cells
                          go_wp2_with (at_builtin; refine wpList_append_row _ rfl (.tmp 95) (.tmp 96) _ rfl (s + 1) 3 i0 _ 1 8 Try.underlying22 hi0 hz0 hz1 hz2 rfl (by omega) (.slice aw d.weights.length kw) d.weights.length (ints d.weights) rfl (own_below S7.own.1 (alQ _ _)) _ 1 (#[.int .i64 1] : Array Value).toList rfl (row_new w7 #[.int .i64 1] 3 1 rfl) HRone (by unfold maxLen; omega) (by omega) (by simp; omega) ?_; (intro v8 w8 o8 g8 e8); (obtain ⟨a8, k8, rfl⟩ := (rowAt_of_own o8).form); (have E8 := Lib.hid e8); (have HNB : Hid (some s ≠ (Value.slice aw d.weights.length kw).ownBlock) := fun e => by have := (S7.own.1.lt _ e.symm).1; omega); (have B8 := box_grownQ (S7.box.alloc _) g8 HNB.out); (have c8 := B8.cells); (have f8 := B8.free))
                          have o8' : OwnInts w8 (s + 1) (.slice a8 (d.weights.length + 1) k8) (d.weights ++ [1]) := by simpa [OwnInts, OwnI, ints] using o8
                          have S8 := S7.pushW (o := .cells #[.int .i64 1] 3) o8' g8 E8.out
                          have hc8 : Hid ((w8.setCell ⟨s, 0, none⟩ (.slice a8 (d.weights.length + 1) k8)).cell? ⟨s, 0, none⟩ = some (.slice a8 (d.weights.length + 1) k8)) := by have := S8.box.cells 0; rw [Hid]; simpa using this
                          clear B8 c8 f8 oa c7 f7 S7
                          go_roundw
                          case rel => exact ⟨⟨d.weights ++ [1], d.proxies⟩, a8, k8, aq, kq, by simp; omega, hp7, by simpa using S8.more (m' := m + 100 + 4 * (d.weights.length + 1)) (by omega)⟩
                          case measure => rw [hc8.out, hcc.out]; simp only [slenQ, Option.getD_some]; omega
                        · go_wp2_with fail
                          go_meet
                          exact ⟨d, aw, kw, aq, kq, by omega, by omega, (by first | exact S7 | exact S7.step (Below.drew (Below.refl _ _)) : VotAt W0 cv w _ b _ w.heap.size s _ _ d).more (by omega)⟩
                  · have xb3 : (x == 3) = false := by simp [x13]
                    go_wp2_with fail
                    go_meet
                    exact ⟨d, aw, kw, aq, kq, by omega, by omega, S6.more (by omega)⟩
          case rest =>
            rename World => wz
            obtain ⟨d, aw, kw, aq, kq, hw14, hp8, S9⟩ := hcut
            clear S6
            have rz := S9.res.cells
            have rf := S9.res.free
            have cz := S9.box.cells
            have hrs := S9.ord
            have hq1 : w.heap.size ≠ s := by omega
            have hq2 : s ≠ w.heap.size := by omega
            go_wp2_with fail
            refine bodyPost_ret (v := vVoters (.slice aw d.weights.length kw) (.slice aq d.proxies.length kq)) (by simp [results, Try.results56, go_sem, rz, hq1, hq2]) rfl ⟨_, _, d, rfl, ?_⟩
            have hL := fun wf ho => VotAt.last (w2 := wf) S9 ho
            refine ⟨(hL _ ?_).1, by omega, by omega, ((hL _ ?_).2.1).more (by omega), (hL _ ?_).2.2⟩
            all_goals repeat (first | with_reducible exact OutOf.refl _ _ _ | with_reducible refine OutOf.set ?_ _)

end Go.Proofs.Ytapkicfbknoioaa
