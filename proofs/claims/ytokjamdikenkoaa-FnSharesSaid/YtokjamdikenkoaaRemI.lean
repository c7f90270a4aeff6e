/- Contracts: seats by remainders, the program's. No conditions beyond sizes. -/
import Derived.Test.YtokjamdikenkoaaRemW
import Derived.Test.YtokjamdikenkoaaSortM
import Derived.Test.YtokjamdikenkoaaCmp
import Derived.Test.YtokjamdikenkoaaUpTo
import Derived.Deep.DeepCutAuto
namespace Go.Proofs.Ytokjamdikenkoaa
open Go.RowKit
set_option linter.unusedVariables false
set_option linter.unusedSimpArgs false

set_option maxHeartbeats 1000000 in
theorem i_byRem1 (i k s A : Int) (g2 g3 g5 : Nat) (v : Value) (vs : List Int) (w : World) (hR : RemOk vs s) (hA : Hid (A = vs.sum)) (hi : 0 ≤ i ∧ i < vs.length) (hk : 0 ≤ k ∧ k < vs.length) (h : IntsAt w v vs)
    (b2 : BoxAt w g2 #[v]) (b3 : BoxAt w g3 #[.int .i64 s]) (b5 : BoxAt w g5 #[.int .i64 A]) :
    Calls Try.prog 66 #[.int .i64 i, .int .i64 k, .pointer (some ⟨g2, 0, none⟩), .pointer (some ⟨g3, 0, none⟩), .pointer (some ⟨g5, 0, none⟩)] w fun e w' => e = .returned (.int .i64 (cmpI ((restL vs s).getD k.toNat 0) ((restL vs s).getD i.toNat 0))) ∧ Below w.heap.size w w' := by
  obtain ⟨_, ao, cap, rfl, h1, h2, h3⟩ := h
  unfold maxLen at h2
  obtain ⟨b, off, rfl, h4, h5⟩ := h3 (by omega)
  have hil : i.toNat < vs.length := by omega
  have hkl : k.toNat < vs.length := by omega
  have ci := h5.int hil
  have ck := h5.int hkl
  have pi := hR.prod (List.getElem_mem hil)
  have pk := hR.prod (List.getElem_mem hkl)
  have ha0 := hR.a; have ha2 := hR.a2; have hs0 := hR.s0; have hs1 := hR.s1
  have vi := hR.v _ (List.getElem_mem hil)
  have vk := hR.v _ (List.getElem_mem hkl)
  have e2 := b2.cells 0; have e3 := b3.cells 0; have e5 := b5.cells 0
  have ri : (restL vs s).getD i.toNat 0 = vs[i.toNat] * s % A := by rw [hA.out, List.getD_eq_getElem?_getD, restL, List.getElem?_map, List.getElem?_eq_getElem hil]; rfl
  have rk : (restL vs s).getD k.toNat 0 = vs[k.toNat] * s % A := by rw [hA.out, List.getD_eq_getElem?_getD, restL, List.getElem?_map, List.getElem?_eq_getElem hkl]; rfl
  rw [ri, rk]
  rw [← hA.out] at ha0 ha2
  clear h3 hR ri rk
  generalize vs[i.toNat] = x at *
  generalize vs[k.toNat] = y at *
  obtain ⟨hi0, hi1⟩ := hi
  obtain ⟨hk0, hk1⟩ := hk
  have w1 : IntKind.i64.wrap (x * s) = x * s := IntWalk.i64_in _ (by omega)
  have w2 : IntKind.i64.wrap (y * s) = y * s := IntWalk.i64_in _ (by omega)
  have m1 := Int.emod_nonneg (x * s) (by omega : A ≠ 0)
  have m2 := Int.emod_nonneg (y * s) (by omega : A ≠ 0)
  have m3 := Int.emod_lt_of_pos (x * s) ha0
  have m4 := Int.emod_lt_of_pos (y * s) ha0
  have t1 : (x * s).tmod A = x * s % A := Int.tmod_eq_emod_of_nonneg pi.1
  have t2 : (y * s).tmod A = y * s % A := Int.tmod_eq_emod_of_nonneg pk.1
  go_enter Try.func66, Try.ntmps66
  go_wp2_with fail
  go_quiet ((go_at_call 61; exact quiet_eq (Compare_int _ _ _)))
  go_wp2_with fail
  go_ret
  exact ⟨rfl, Below.drewN' (Below.refl _ _) _⟩

theorem below_allocA {W w : World} {o : Obj} (h : Below W.heap.size W w) : Below W.heap.size W (w.alloc o) := h.alloc h.size o
theorem below_setA {W w : World} {b i : Nat} {v : Value} (h : Below W.heap.size W w) (hb : W.heap.size ≤ b) : Below W.heap.size W (w.setCell ⟨b, i, none⟩ v) := h.setCell (p := ⟨b, i, none⟩) hb v
/-- The box of the sum, the empty result and the order, made in whatever order. -/
def RemAt (W wx : World) (A : Int) (n : Nat) (t5 t6 t7 : Value) : Prop :=
  ∃ g ko p kp, t5 = .pointer (some ⟨g, 0, none⟩) ∧ t6 = .slice (some ⟨ko, 0, none⟩) 0 0 ∧ t7 = .slice p n kp ∧ W.heap.size ≤ g ∧ BoxAt wx g #[.int .i64 A] ∧ OwnInts wx W.heap.size (.slice (some ⟨ko, 0, none⟩) 0 0) [] ∧ OwnInts wx W.heap.size (.slice p n kp) (upFrom 0 n) ∧
    g ≠ ko ∧ (Value.slice p n kp).ownBlock ≠ some g ∧ (Value.slice p n kp).ownBlock ≠ some ko ∧ Below W.heap.size W wx

theorem own_offT {w w' : World} {B e n size b : Nat} {v : Value} {cs : List Value} (h : w.ownsRow B e size v n cs) (ho : OutOf b (b + 1) w w') (hne : v.ownBlock ≠ some b) : w'.ownsRow B e size v n cs := by
  refine ⟨h.1, ?_⟩
  rcases h.2 with h2 | ⟨g, cap, cur, rfl, hg, hgg, r⟩
  · exact .inl h2
  · have hgb : g ≠ b := fun e => hne (by simp [Value.ownBlock, e])
    exact .inr ⟨g, cap, cur, rfl, hg, (ho.block g (Array.getElem?_eq_some_iff.1 hgg).1 (by omega)).trans hgg, r⟩
theorem box1_setT {w : World} {b : Nat} {x : Value} (h : BoxAt w b #[x]) (y : Value) : BoxAt (w.setCell ⟨b, 0, none⟩ y) b #[y] := by
  refine ⟨by simpa [World.setCell] using h.1, fun j => ?_, fun j => by simpa using h.2.2 j⟩
  by_cases he : 0 = j
  · subst he
    rw [World.cell?_setCell_same _ _ _ (u := x) (by rw [h.2.1 0]; rfl)]
    rfl
  · rw [World.cell?_setCell_other _ _ _ _ (by simp), h.2.1 j]
    cases j with
    | zero => omega
    | succ j => rfl
theorem remAt_of {W X w3 wf : World} {A : Int} {n g ko k : Nat} {p : Option Addr} (hX : OwnInts w3 X.heap.size (.slice p n k) (upFrom 0 n)) (hWX : W.heap.size ≤ X.heap.size) (hg : W.heap.size ≤ g) (hbox : BoxAt wf g #[.int .i64 A])
    (hk : OwnInts wf W.heap.size (.slice (some ⟨ko, 0, none⟩) 0 0) []) (ho : OwnInts wf X.heap.size (.slice p n k) (upFrom 0 n)) (hne : g ≠ ko) (hg' : g < X.heap.size ∨ w3.heap.size ≤ g) (hk' : ko < X.heap.size ∨ w3.heap.size ≤ ko) (hB : Below W.heap.size W wf) :
    RemAt W wf A n (.pointer (some ⟨g, 0, none⟩)) (.slice (some ⟨ko, 0, none⟩) 0 0) (.slice p n k) := by
  refine ⟨g, ko, p, k, rfl, rfl, rfl, hg, hbox, hk, own_base ho hWX, hne, fun e => ?_, fun e => ?_, hB⟩
  · have := hX.lt g e; omega
  · have := hX.lt ko e; omega
section
variable {W w3 : World} {A : Int} {n k : Nat} {p : Option Addr} {e e' : TypeId}
theorem al0 (w : World) (o : Obj) : Below w.heap.size w (w.alloc o) := (Below.refl _ _).alloc (Nat.le_refl _) _
theorem rem_a (hb : Below (W.alloc (.cells #[] 3)).heap.size (W.alloc (.cells #[] 3)) w3) (ho : OwnInts w3 (W.alloc (.cells #[] 3)).heap.size (.slice p n k) (upFrom 0 n)) :
    RemAt W (w3.alloc (.cells #[.int .i64 A] 3)) A n (.pointer (some ⟨w3.heap.size, 0, none⟩)) (.slice (some ⟨W.heap.size, 0, none⟩) 0 0) (.slice p n k) := by
  have h0 := below_step (al0 W (.cells #[] 3)) hb
  have hs := hb.size
  rw [World.size_alloc] at hs
  exact remAt_of (X := W.alloc (.cells #[] 3)) ho (by simp) h0.size (BoxAt.new _ _ _) (OwnI.below (OwnI.below (own_lit0 W 3) hb) (al0 _ _)) (OwnI.below ho (al0 _ _)) (by omega) (.inr (Nat.le_refl _)) (.inl (by simp)) (below_allocA h0)
theorem rem_b (hb : Below ((W.alloc (.cells #[] 3)).alloc (.cells #[.int .i64 0] 3)).heap.size ((W.alloc (.cells #[] 3)).alloc (.cells #[.int .i64 0] 3)) w3) (ho : OwnInts w3 ((W.alloc (.cells #[] 3)).alloc (.cells #[.int .i64 0] 3)).heap.size (.slice p n k) (upFrom 0 n)) :
    RemAt W (w3.setCell ⟨W.heap.size + 1, 0, none⟩ (.int .i64 A)) A n (.pointer (some ⟨W.heap.size + 1, 0, none⟩)) (.slice (some ⟨W.heap.size, 0, none⟩) 0 0) (.slice p n k) := by
  have h0 := below_step (below_allocA (o := .cells #[.int .i64 0] 3) (al0 W (.cells #[] 3))) hb
  have hx : BoxAt w3 (W.heap.size + 1) #[.int .i64 0] := (BoxAt.new_at (W.alloc (.cells #[] 3)) #[.int .i64 0] 3 (W.heap.size + 1) (by simp)).below hb
  have ht : OutOf (W.heap.size + 1) (W.heap.size + 2) w3 (w3.setCell ⟨W.heap.size + 1, 0, none⟩ (.int .i64 A)) := OutOf.set (OutOf.refl _ _ _) _
  exact remAt_of (X := (W.alloc (.cells #[] 3)).alloc (.cells #[.int .i64 0] 3)) ho (by simp; omega) (by omega) (box1_setT hx _) (own_offT (OwnI.below (OwnI.below (own_lit0 W 3) (al0 _ _)) hb) ht (by simp [Value.ownBlock])) (own_offT ho ht (fun e => by have := (ho.lt _ e).1; simp at this; omega)) (by omega) (.inl (by simp)) (.inl (by simp; omega)) (below_setA h0 (by omega))
theorem rem_c (hb : Below W.heap.size W w3) (ho : OwnInts w3 W.heap.size (.slice p n k) (upFrom 0 n)) :
    RemAt W ((w3.alloc (.cells #[] 3)).alloc (.cells #[.int .i64 A] 3)) A n (.pointer (some ⟨w3.heap.size + 1, 0, none⟩)) (.slice (some ⟨w3.heap.size, 0, none⟩) 0 0) (.slice p n k) := by
  have hs := hb.size
  exact remAt_of (X := W) ho (Nat.le_refl _) (by omega) (BoxAt.new_at _ _ _ _ (by simp)) (OwnI.below (own_base (own_lit0 w3 3) hs) (al0 _ _)) (OwnI.below (OwnI.below ho (al0 _ _)) (al0 _ _)) (by omega) (.inr (by omega)) (.inr (by omega)) (below_allocA (below_allocA hb))
theorem rem_d (hb : Below W.heap.size W w3) (ho : OwnInts w3 W.heap.size (.slice p n k) (upFrom 0 n)) :
    RemAt W ((w3.alloc (.cells #[.int .i64 A] 3)).alloc (.cells #[] 3)) A n (.pointer (some ⟨w3.heap.size, 0, none⟩)) (.slice (some ⟨w3.heap.size + 1, 0, none⟩) 0 0) (.slice p n k) := by
  have hs := hb.size
  have hk := own_lit0 (w3.alloc (.cells #[.int .i64 A] 3)) 3
  rw [World.size_alloc] at hk
  exact remAt_of (X := W) ho (Nat.le_refl _) (by omega) ((BoxAt.new _ _ _).alloc _) (own_base hk (by omega)) (OwnI.below (OwnI.below ho (al0 _ _)) (al0 _ _)) (by omega) (.inr (by omega)) (.inr (by omega)) (below_allocA (below_allocA hb))
theorem rem_e (hb : Below ((W.alloc (.cells #[.int .i64 0] 3)).alloc (.cells #[] 3)).heap.size ((W.alloc (.cells #[.int .i64 0] 3)).alloc (.cells #[] 3)) w3) (ho : OwnInts w3 ((W.alloc (.cells #[.int .i64 0] 3)).alloc (.cells #[] 3)).heap.size (.slice p n k) (upFrom 0 n)) :
    RemAt W (w3.setCell ⟨W.heap.size, 0, none⟩ (.int .i64 A)) A n (.pointer (some ⟨W.heap.size, 0, none⟩)) (.slice (some ⟨W.heap.size + 1, 0, none⟩) 0 0) (.slice p n k) := by
  have h0 := below_step (below_allocA (o := .cells #[] 3) (al0 W (.cells #[.int .i64 0] 3))) hb
  have hx : BoxAt w3 W.heap.size #[.int .i64 0] := ((BoxAt.new W #[.int .i64 0] 3).alloc _).below hb
  have ht : OutOf W.heap.size (W.heap.size + 1) w3 (w3.setCell ⟨W.heap.size, 0, none⟩ (.int .i64 A)) := OutOf.set (OutOf.refl _ _ _) _
  have hk := own_lit0 (W.alloc (.cells #[.int .i64 0] 3)) 3
  rw [World.size_alloc] at hk
  exact remAt_of (X := (W.alloc (.cells #[.int .i64 0] 3)).alloc (.cells #[] 3)) ho (by simp; omega) (by omega) (box1_setT hx _) (own_offT (OwnI.below (own_base hk (by omega)) hb) ht (by simp [Value.ownBlock])) (own_offT ho ht (fun e => by have := (ho.lt _ e).1; simp at this; omega)) (by omega) (.inl (by simp; omega)) (.inl (by simp)) (below_setA h0 (by omega))
theorem rem_f (hb : Below (W.alloc (.cells #[.int .i64 0] 3)).heap.size (W.alloc (.cells #[.int .i64 0] 3)) w3) (ho : OwnInts w3 (W.alloc (.cells #[.int .i64 0] 3)).heap.size (.slice p n k) (upFrom 0 n)) :
    RemAt W ((w3.setCell ⟨W.heap.size, 0, none⟩ (.int .i64 A)).alloc (.cells #[] 3)) A n (.pointer (some ⟨W.heap.size, 0, none⟩)) (.slice (some ⟨w3.heap.size, 0, none⟩) 0 0) (.slice p n k) := by
  have h0 := below_step (al0 W (.cells #[.int .i64 0] 3)) hb
  have hs := hb.size
  rw [World.size_alloc] at hs
  have hx : BoxAt w3 W.heap.size #[.int .i64 0] := (BoxAt.new W #[.int .i64 0] 3).below hb
  have ht : OutOf W.heap.size (W.heap.size + 1) w3 (w3.setCell ⟨W.heap.size, 0, none⟩ (.int .i64 A)) := OutOf.set (OutOf.refl _ _ _) _
  have hk := own_lit0 (w3.setCell ⟨W.heap.size, 0, none⟩ (.int .i64 A)) 3
  have hz : (w3.setCell ⟨W.heap.size, 0, none⟩ (.int .i64 A)).heap.size = w3.heap.size := by simp [World.setCell]
  rw [hz] at hk
  exact remAt_of (X := W.alloc (.cells #[.int .i64 0] 3)) ho (by simp) (by omega) ((box1_setT hx _).alloc _) (own_base hk (by omega)) (OwnI.below (own_offT ho ht (fun e => by have := (ho.lt _ e).1; simp at this; omega)) (al0 _ _)) (by omega) (.inl (by simp)) (.inr (Nat.le_refl _)) (below_allocA (below_setA h0 (by omega)))
end

/-- The box of the sum, the seats and the order, apart. -/
def Rem3 (w : World) (B g : Nat) (A : Int) (u : Value) (out : List Int) (v : Value) (ord : List Int) : Prop := BoxAt w g #[.int .i64 A] ∧ Two w B v ord u out ∧ u.ownBlock ≠ some g ∧ v.ownBlock ≠ some g
theorem Rem3.below {w w' : World} {B g : Nat} {A : Int} {u v : Value} {out ord : List Int} (h : Rem3 w B g A u out v ord) (hb : Below w.heap.size w w') : Rem3 w' B g A u out v ord := ⟨h.1.below hb, h.2.1.below hb, h.2.2⟩
theorem Rem3.push {w w' : World} {B g : Nat} {A : Int} {u u' v : Value} {out out' ord : List Int} (h : Rem3 w B g A u out v ord) (ho : OwnI 3 w' B u' out') (hg : w.grownBy w' u.ownBlock) (hv : u'.ownBlock = u.ownBlock ∨ u'.ownBlock = some (w.heap.size + 1)) : Rem3 w' B g A u' out' v ord := by
  have hgl := h.1.1
  refine ⟨⟨by have := hg.size; omega, fun i => (World.cell?_of_block (w := w) (a := ⟨g, i, none⟩) (hg.block g hgl (fun e => h.2.2.1 e.symm))).trans (h.1.2.1 i), fun i => (World.frozen?_of_block (w := w) (a := ⟨g, i, none⟩) (hg.block g hgl (fun e => h.2.2.1 e.symm))).trans (h.1.2.2 i)⟩, h.2.1.push ho hg hv, ?_, h.2.2.2⟩
  rcases hv with hv | hv
  · rw [hv]; exact h.2.2.1
  · rw [hv]; intro e; simp only [Option.some.injEq] at e; omega
theorem Rem3.sort {w w' : World} {B g go n k : Nat} {A : Int} {u : Value} {out ord ord' : List Int} (h : Rem3 w B g A u out (.slice (some ⟨go, 0, none⟩) n k) ord) (hl : ord'.length = ord.length) (ho : OwnI 3 w' B (.slice (some ⟨go, 0, none⟩) n k) ord') (hO : OutOf go (go + 1) w w') : Rem3 w' B g A u out (.slice (some ⟨go, 0, none⟩) n k) ord' := by
  have hgo : g ≠ go := fun e => h.2.2.2 (by simp [Value.ownBlock, e])
  refine ⟨hO.box h.1 (by omega), ⟨ho, own_offT h.2.1.2.1 hO (fun e => ?_), h.2.1.2.2⟩, h.2.2⟩
  rcases h.2.1.2.2 with h4 | h4
  · simp [Value.ownBlock] at h4
  · exact h4 (by rw [e]; rfl)
theorem Rem3.inc {w : World} {B g gu n c : Nat} {A : Int} {v : Value} {out ord : List Int} (h : Rem3 w B g A (.slice (some ⟨gu, 0, none⟩) n c) out v ord) (i : Nat) (y : Int) : Rem3 (w.setCell ⟨gu, i, none⟩ (.int .i64 y)) B g A (.slice (some ⟨gu, 0, none⟩) n c) (out.set i y) v ord := by
  have hgu : g ≠ gu := fun e => h.2.2.1 (by simp [Value.ownBlock, e])
  exact ⟨(OutOf.set (b := gu) (i := i) (OutOf.refl _ _ w) (.int .i64 y)).box h.1 (by omega), h.2.1.set i y, h.2.2⟩
theorem cmp_ltR (rests : List Int) : (fun x y : Int => decide (cmpI (rests.getD y.toNat 0) (rests.getD x.toNat 0) < 0)) = ltR rests := by
  funext x y
  unfold ltR cmpI
  generalize rests.getD y.toNat 0 = a
  generalize rests.getD x.toNat 0 = b
  by_cases h1 : a < b
  · rw [if_pos h1, decide_eq_true h1]; rfl
  · rw [if_neg h1, decide_eq_false h1]
    split <;> rfl

set_option maxRecDepth 100000 in
set_option maxHeartbeats 4000000 in
theorem i_byRemainders (v : Value) (vs : List Int) (s : Int) (w : World) (h : IntsAt w v vs) (hR : RemOk vs s) :
    Calls Try.prog 40 #[v, .int .i64 s] w fun e w' => ∃ p, e = .returned p ∧ OwnInts w' w.heap.size p (remS vs s) ∧ Below w.heap.size w w' := by
  obtain ⟨ao, cap, rfl⟩ := h.form
  have hn1 := hR.n1; have hn8 := hR.n8; have ha0 := hR.a; have ha2 := hR.a2; have hs0 := hR.s0; have hs1 := hR.s1
  obtain ⟨W, hW⟩ : ∃ W, W = (w.alloc (.cells #[.slice ao vs.length cap] 22)).alloc (.cells #[.int .i64 s] 3) := ⟨_, rfl⟩
  have b2 : BoxAt W w.heap.size #[.slice ao vs.length cap] := by rw [hW]; exact (BoxAt.new _ _ _).alloc _
  have b3 : BoxAt W (w.heap.size + 1) #[.int .i64 s] := by rw [hW]; exact BoxAt.new_at _ _ _ _ (by simp)
  have hWb : Below w.heap.size w W := by rw [hW]; go_grown
  have hIW := h.below hWb
  have HW := Lib.hid hW
  have HR := Lib.hid hR
  have HV : Hid (∀ x ∈ vs, 0 ≤ x ∧ x ≤ 1000000) := fun x hx => by have := hR.v x hx; omega
  obtain ⟨A, hA⟩ : ∃ A, A = vs.sum := ⟨_, rfl⟩
  have HA := Lib.hid hA
  rw [← hA] at ha0 ha2
  have HS : Hid (∀ w', Below W.heap.size W w' → Calls Try.prog 46 #[.slice ao vs.length cap] w' fun e w'' => e = .returned (.int .i64 A) ∧ w' = w'') := fun w' hb => by
    have := i_sumInts _ vs w' (hIW.below hb) HV.out (by omega)
    rw [← hA] at this
    exact this
  clear hW hA hR h
  have c2 := b2.rule; have c3 := b3.rule
  have hWs1 := b3.1
  go_enter Try.func40, Try.ntmps40
  go_upto_region 1 with fail
  rw [← HW.out]
  go_cut [5, 6, 7] (fun a b c wx => RemAt W wx A vs.length a b c)
  case first =>
    go_region_held3 (fun w' => Below W.heap.size W w') (first | assumption | exact Below.refl _ _ | ((repeat (first | with_reducible assumption | with_reducible exact Below.refl _ _ | with_reducible refine Below.drew ?_ | with_reducible refine below_allocA ?_ | with_reducible refine below_setA ?_ ?_)); (try (first | exact Nat.le_refl _ | exact Nat.le_succ _ | exact Below.size (by assumption) | (have := Below.size hm3; simp at this ⊢; omega))))) (first
      | (go_at_call 46; refine (HS.out _ (by first | assumption | exact Below.drew (by assumption))).mono ?_; rintro e w' ⟨rfl, rfl⟩)
      | (go_at_call 64; refine (i_upTo vs.length _ (by omega)).mono ?_; rintro e w3 ⟨p3, rfl, ho3, hb3⟩; obtain ⟨a3, k3, hp3⟩ := ho3.at_.form; rw [upFrom_length] at hp3; subst hp3; have hm3 := below_step (W := W) (by assumption) hb3; (first | (have xb : BoxAt w3 W.heap.size #[.int .i64 0] := BoxAt.below (by exact BoxAt.new W _ _) hb3; have xc := xb.cells; have xf := xb.free; have xl := xb.1) | (have xb : BoxAt w3 W.heap.size #[.int .i64 0] := BoxAt.below (by exact (BoxAt.new W _ _).alloc _) hb3; have xc := xb.cells; have xf := xb.free; have xl := xb.1) | (have xb : BoxAt w3 (W.heap.size + 1) #[.int .i64 0] := BoxAt.below (by exact BoxAt.new_at (W.alloc _) _ _ _ (by simp)) hb3; have xc := xb.cells; have xf := xb.free; have xl := xb.1) | (have xb : BoxAt w3 W.heap.size #[.int .i64 A] := BoxAt.below (by exact BoxAt.new W _ _) hb3; have xc := xb.cells; have xf := xb.free; have xl := xb.1) | (have xb : BoxAt w3 W.heap.size #[.int .i64 A] := BoxAt.below (by exact (BoxAt.new W _ _).alloc _) hb3; have xc := xb.cells; have xf := xb.free; have xl := xb.1) | (have xb : BoxAt w3 (W.heap.size + 1) #[.int .i64 A] := BoxAt.below (by exact BoxAt.new_at (W.alloc _) _ _ _ (by simp)) hb3; have xc := xb.cells; have xf := xb.free; have xl := xb.1) | skip)))
    all_goals go_wp2_with fail
    all_goals go_meet
    all_goals first | exact rem_a (by first | exact hb3 | exact undrew hb3) ho3 | exact rem_b (by first | exact hb3 | exact undrew hb3) ho3 | exact rem_c (by first | exact hb3 | exact undrew hb3) ho3 | exact rem_d (by first | exact hb3 | exact undrew hb3) ho3 | exact rem_e (by first | exact hb3 | exact undrew hb3) ho3 | exact rem_f (by first | exact hb3 | exact undrew hb3) ho3
  case rest =>
    obtain ⟨g, ko, p, kp, rfl, rfl, rfl, hgW, hbox, hE, hO, n1, n2, n3, hB⟩ := hcut
    rename World => wx
    have hz : Rem3 wx W.heap.size g A (.slice (some ⟨ko, 0, none⟩) 0 0) ((floorL vs s).take 0) (.slice p vs.length kp) (upFrom 0 vs.length) := ⟨hbox, ⟨hO, by simpa using hE, .inr (by simpa [Value.ownBlock] using n3)⟩, by simp only [Value.ownBlock]; intro e; injection e with e; exact n1 e.symm, n2⟩
    obtain ⟨go, ho⟩ : ∃ go, p = some ⟨go, 0, none⟩ := by
      obtain ⟨go, c, hv, _⟩ := hz.2.1.swap.form (by simp; omega)
      injection hv with h1
      exact ⟨go, h1⟩
    subst ho
    have hIW' := hIW
    obtain ⟨_, _, _, hv, q1, q2, q3⟩ := hIW'
    cases hv
    obtain ⟨b, off, rfl, hlt, hcs⟩ := q3 (by omega)
    unfold maxLen at q2
    have e2 := c2 wx hB
    clear hE hO n1 n2 n3 q3 hbox
    go_wp2_with fail
    go_loopw [6, 20] (fun u i wr => ∃ k : Nat, k ≤ vs.length ∧ i = .int .i64 k ∧ Rem3 wr W.heap.size g A u ((floorL vs s).take k) (.slice (some ⟨go, 0, none⟩) vs.length kp) (upFrom 0 vs.length) ∧ Below W.heap.size W wr) (fun _ i _ => vs.length - (intOf i).toNat)
    case atStart => exact ⟨0, by omega, rfl, hz, hB⟩
    case round =>
      rename World => wa
      clear hz hB e2
      obtain ⟨k, hk, rfl, h3, hb⟩ := hrel
      by_cases hlt : k < vs.length
      · have hc : wa.cell? ⟨b, off + k, none⟩ = some (.int .i64 vs[k]) := by rw [hb.cell (p := ⟨b, off + k, none⟩) (by assumption), hcs.int hlt]
        have hp := HR.out.prod (List.getElem_mem hlt)
        have HF := Lib.hid (floor_push (s := s) hlt)
        rw [← HA.out] at HF
        have hx := HR.out.v _ (List.getElem_mem hlt)
        have hfl : ((floorL vs s).take k).length ≤ 8 := by simp; omega
        have a3 := c3 wa hb 0
        have a5 := h3.1.cells 0
        generalize vs[k] = x at *
        go_wp2_with (at_builtin; refine wpList_push_int2 rfl (.tmp 24) (.tmp 30) _ rfl _ 3 _ int_info Try.underlying22 _ _ (x * s / A) rfl h3.2.1.2.1 rfl hb.size (by omega) ?_; intro u' w5 ho5 hg5 hv5; have h5 := h3.push ho5 hg5 hv5; have hb5 : Below W.heap.size W w5 := hb.grown hg5 hb.size (fun g hg => (h3.2.1.2.1.lt g hg).1))
        go_roundw
        case rel => exact ⟨k + 1, by omega, by go_num, by rw [HF.out]; exact h5, hb5⟩
        case measure => simp [intOf]; omega
      · obtain rfl : k = vs.length := by omega
        rw [List.take_of_length_le (by rw [floorL_len]; omega)] at h3
        obtain ⟨gu, cu, hvu, hgu1, hgu2, hcu⟩ := h3.2.1.form (by rw [floorL_len]; omega)
        rw [floorL_len] at hvu hcu
        subst hvu
        have hgo := (h3.2.1.1.lt go rfl)
        have hcf : Enters Try.prog 66 := enters_of Try.func66 (by kernel_rfl) (by kernel_rfl)
        have hkp : vs.length ≤ kp := by
          obtain ⟨_, _, _, hv, q, _⟩ := rowAt_of_own h3.2.1.1
          injection hv with e1 e2 e3
          rw [upFrom_length] at q
          omega
        have hown : wa.ownsRow W.heap.size 3 1 (.slice (some ⟨go, 0, none⟩) vs.length kp) vs.length (ints (upFrom 0 vs.length)) := by
          have := h3.2.1.1
          unfold OwnI at this
          rw [upFrom_length] at this
          exact this
        have hsort := sortStable_int 66 hcf [.pointer (some ⟨w.heap.size, 0, none⟩), .pointer (some ⟨w.heap.size + 1, 0, none⟩), .pointer (some ⟨g, 0, none⟩)] (fun x y => cmpI ((restL vs s).getD y.toNat 0) ((restL vs s).getD x.toNat 0)) go kp W.heap.size vs.length (upFrom 0 vs.length) wa (Lib.hid (by simp)) hown hkp hn1 (by omega)
          (fun x y w' hx hy ho => by
            have hbw : Below W.heap.size W w' := hb.trans (ho.below hgo.1 hb.size)
            have mx := mem_upFrom.1 hx
            have my := mem_upFrom.1 hy
            exact i_byRem1 x y s A w.heap.size (w.heap.size + 1) g _ vs w' HR.out HA mx my (hIW.below hbw) (b2.below hbw) (b3.below hbw) (ho.box h3.1 (by have : g ≠ go := (fun e => h3.2.2.2 (by simp [Value.ownBlock, e])); omega)))
        have hord : sortS (fun x y : Int => decide (cmpI ((restL vs s).getD y.toNat 0) ((restL vs s).getD x.toNat 0) < 0)) (upFrom 0 vs.length) = ordR (restL vs s) := by
          rw [cmp_ltR, ordR, restL_len]
        rw [hord] at hsort
        have HSORT := Lib.hid hsort
        have hL := leftS_bd (vs := vs) (s := s) HR.out.a
        obtain ⟨L, hLe⟩ : ∃ L : Nat, leftS vs s = L := ⟨(leftS vs s).toNat, by omega⟩
        have hsum : s - (floorL vs s).sum = (L : Int) := hLe
        have hL8 : L < vs.length := by omega
        have hFs := sum_bound 500000 (floorL vs s) HR.out.fl
        rw [floorL_len] at hFs
        obtain ⟨F, hF⟩ : ∃ F, F = (floorL vs s).sum := ⟨_, rfl⟩
        rw [← hF] at hsum hFs
        have HSF : Hid (∀ w', IntsAt w' (.slice (some ⟨gu, 0, none⟩) vs.length cu) (floorL vs s) → Calls Try.prog 46 #[.slice (some ⟨gu, 0, none⟩) vs.length cu] w' fun e w'' => e = .returned (.int .i64 F) ∧ w' = w'') := fun w' hi => by
          have := i_sumInts _ (floorL vs s) w' hi (fun x hx => by have := HR.out.fl x hx; omega) (by rw [floorL_len]; omega)
          rw [← hF] at this
          exact this
        have hwr : IntKind.i64.wrap (s - F) = (L : Int) := by rw [hsum]; exact IntWalk.i64_in _ (by omega)
        have HLe := Lib.hid hLe
        have hL0 : (0 : Int) ≤ (L : Int) := by omega
        have hLk : (L : Int) ≤ (kp : Int) := by omega
        have hLk2 : L ≤ kp := by omega
        clear hF hL hLe hord hsort hown hsum
        have a3 := c3 wa hb 0
        go_wp2_with (go_at_call 65; refine HSORT.out.mono ?_; rintro e w5 ⟨rfl, ho5, hO5⟩)
        have h5 : Rem3 w5 W.heap.size g A (.slice (some ⟨gu, 0, none⟩) vs.length cu) (floorL vs s) (.slice (some ⟨go, 0, none⟩) vs.length kp) (ordR (restL vs s)) := h3.sort (by rw [ordR_len, restL_len]; simp) (by unfold OwnI; rw [ordR_len, restL_len]; exact ho5) hO5
        have hb5 : Below W.heap.size W w5 := hb.trans (hO5.below hgo.1 hb.size)
        have d3 := c3 w5 hb5 0
        clear ho5 hO5 a3 HSORT h3 hb
        go_wp2_with fail
        go_quiet ((go_at_call 46; exact quiet_eq (HSF.out _ (IntsAt.below h5.2.1.2.1.at_ (Below.drewN' (Below.refl _ _) _)))))
        go_wp2_with fail
        have hst0 : Rem3 (w5.drewN nq) W.heap.size g A (.slice (some ⟨gu, 0, none⟩) vs.length cu) (incAll (floorL vs s) ((ordR (restL vs s)).take 0)) (.slice (some ⟨go, 0, none⟩) vs.length kp) (ordR (restL vs s)) := h5.below (Below.drewN' (Below.refl _ _) _)
        have hb6 : Below W.heap.size W (w5.drewN nq) := Below.drewN' hb5 _
        clear h5 hb5 d3
        go_loopw [43] (fun i wr => ∃ j : Nat, j ≤ L ∧ i = .int .i64 j ∧ Rem3 wr W.heap.size g A (.slice (some ⟨gu, 0, none⟩) vs.length cu) (incAll (floorL vs s) ((ordR (restL vs s)).take j)) (.slice (some ⟨go, 0, none⟩) vs.length kp) (ordR (restL vs s)) ∧ Below W.heap.size W wr) (fun i _ => L - (intOf i).toNat)
        case atStart => exact ⟨0, by omega, rfl, hst0, hb6⟩
        case round =>
          rename World => wc
          clear hst0 hb6
          obtain ⟨j, hj, rfl, h6, hb6⟩ := hrel
          by_cases hjt : j < L
          · have hjo : j < (ordR (restL vs s)).length := by rw [ordR_len, restL_len]; omega
            obtain ⟨m, hm⟩ : ∃ m : Nat, (ordR (restL vs s))[j] = (m : Int) := by
              have := ordR_mem.1 (List.getElem_mem hjo)
              exact ⟨((ordR (restL vs s))[j]).toNat, by omega⟩
            have hmn : m < vs.length := by
              have := ordR_mem.1 (List.getElem_mem hjo)
              rw [hm, restL_len] at this
              omega
            have c0 := h6.2.1.swap.cell (i := j) hjo
            rw [getD_at hjo, hm] at c0
            have hil : (incAll (floorL vs s) ((ordR (restL vs s)).take j)).length = vs.length := by rw [incAll_len, floorL_len]
            have c1 := h6.2.1.cell (i := m) (by rw [hil]; exact hmn)
            have f1 := h6.2.1.free m
            have hnx : Hid (incAll (floorL vs s) ((ordR (restL vs s)).take (j + 1)) = (incAll (floorL vs s) ((ordR (restL vs s)).take j)).set m ((incAll (floorL vs s) ((ordR (restL vs s)).take j)).getD m 0 + 1)) := by
              rw [Hid, take_at hjo, incAll_push, hm, Int.toNat_natCast]
            have hbd := picks_bd (out := floorL vs s) (rests := restL vs s) HR.out.fl j
            rw [(picks_at (out := floorL vs s) (fun x hx => (HR.out.rs x hx).1) j (by rw [restL_len]; omega)).1] at hbd
            have hx := hbd _ (mem_getD (k := m) (by rw [hil]; exact hmn))
            have h7 := h6.inc m ((incAll (floorL vs s) ((ordR (restL vs s)).take j)).getD m 0 + 1)
            have hb7 : Below W.heap.size W (wc.setCell ⟨gu, m, none⟩ (.int .i64 ((incAll (floorL vs s) ((ordR (restL vs s)).take j)).getD m 0 + 1))) := below_setA hb6 hgu1
            rw [← hnx.out] at h7
            have H7 := Lib.hid h7
            clear hil hbd hm h7 h6
            generalize (incAll (floorL vs s) ((ordR (restL vs s)).take j)).getD m 0 = x at *
            go_wp2_with fail
            go_roundw
            case rel => exact ⟨j + 1, by omega, by go_num, H7.out, hb7⟩
            case measure => simp [intOf]; omega
          · obtain rfl : j = L := by omega
            have hres : Hid (incAll (floorL vs s) ((ordR (restL vs s)).take j) = remS vs s) := by rw [Hid, remS, HLe.out, Int.toNat_natCast]
            rw [hres.out] at h6
            have hown : OwnInts wc W.heap.size (.slice (some ⟨gu, 0, none⟩) vs.length cu) (remS vs s) := h6.2.1.2.1
            go_wp2_with fail
            go_ret
            exact ⟨_, rfl, own_base hown hWb.size, hWb.trans (hb6.mono hWb.size)⟩

end Go.Proofs.Ytokjamdikenkoaa
