/- Contracts: draws of sessions. Condition: fewer than a thousand million choices. -/
import Derived.Test.YtjijcjcfefkpbaaDoorDrawV
import Derived.Test.YtjijcjcfefkpbaaDoorSess
import Derived.Test.YtjijcjcfefkpbaaDoorSessR
import Derived.Test.YtjijcjcfefkpbaaDoorStep
import Derived.Test.YtjijcjcfefkpbaaDoorFlat
import Derived.Deep.RegionLaw
import Derived.Deep.DeepCutAuto
import Derived.Deep.CutBlock
namespace Go.Proofs.YtjijcjcfefkpbaaDoor
open Go.RowKit
set_option linter.unusedVariables false
set_option linter.unusedSimpArgs false

theorem box_keepQ {b B : Nat} {cs : Array Value} {w w' : World} (h : BoxAt w b cs) (hb : Below B w w') (hB : b < B) : BoxAt w' b cs :=
  ⟨by have := h.1; have := hb.size; omega, fun i => (hb.cell (p := ⟨b, i, none⟩) hB).trans (h.2.1 i), fun i => (hb.frozen (p := ⟨b, i, none⟩) hB).trans (h.2.2 i)⟩
theorem box_setQ {w : World} {b i : Nat} {cs : Array Value} (h : BoxAt w b cs) (hi : i < cs.size) (v : Value) : BoxAt (w.setCell ⟨b, i, none⟩ v) b (cs.setIfInBounds i v) := by
  refine ⟨by simpa [World.setCell] using h.1, fun j => ?_, fun j => by simpa using h.2.2 j⟩
  by_cases he : i = j
  · subst he
    rw [World.cell?_setCell_same _ _ _ (u := cs[i]) (by rw [h.2.1 i, Array.getElem?_eq_getElem hi])]
    simp [hi]
  · rw [World.cell?_setCell_other _ _ _ _ (by simp), h.2.1 j]
    simp [Array.getElem?_setIfInBounds, he]

theorem box_grownQ {b : Nat} {cs : Array Value} {w w' : World} {row : Option Nat} (h : BoxAt w b cs) (hg : w.grownBy w' row) (hne : some b ≠ row) : BoxAt w' b cs :=
  ⟨by have := h.1; have := hg.size; omega, fun i => (World.cell?_of_block (w := w) (a := ⟨b, i, none⟩) (hg.block b h.1 hne)).trans (h.2.1 i), fun i => (World.frozen?_of_block (w := w) (a := ⟨b, i, none⟩) (hg.block b h.1 hne)).trans (h.2.2 i)⟩

/-- A session in the making: its variable lies in block s, its members' slice behind it; the result's variable in block r; the cursor in block b. -/
structure SesAt (W0 : World) (cv : Value) (w w' : World) (b m r s : Nat) (en nu de re : Int) (u : Value) (xs : List Int) : Prop where
  cur : CurAt W0 cv w' b m
  tow : CurTo b w w'
  res : BoxAt w' r #[.int .i64 0, .int .i64 0, .int .i64 0, .slice none 0 0, .int .i64 0]
  box : BoxAt w' s #[.int .i64 en, .int .i64 nu, .int .i64 de, u, .int .i64 re]
  own : OwnInts w' (s + 1) u xs
  ord : b < w.heap.size ∧ w.heap.size ≤ r ∧ r < s
/-- A session in the making, whatever its numbers. -/
def SesEx (W0 : World) (cv : Value) (w w' : World) (b m r s : Nat) : Prop := ∃ en nu de re a k xs, (xs.length ≤ 40 ∧ en ≤ 31) ∧ SesAt W0 cv w w' b m r s en nu de re (.slice a xs.length k) xs
theorem SesAt.step {W0 : World} {cv : Value} {w w1 w2 : World} {b m r s : Nat} {en nu de re : Int} {u : Value} {xs : List Int} (h : SesAt W0 cv w w1 b m r s en nu de re u xs) (hb : Below w1.heap.size w1 w2) : SesAt W0 cv w w2 b m r s en nu de re u xs :=
  ⟨h.cur.step hb, curTo_below h.tow (hb.mono h.tow.size), h.res.below hb, h.box.below hb, OwnI.below h.own hb, h.ord⟩
theorem SesAt.went {W0 : World} {cv : Value} {w w1 w2 : World} {b m m' r s : Nat} {en nu de re : Int} {u : Value} {xs : List Int} (h : SesAt W0 cv w w1 b m r s en nu de re u xs) (k : CurAt W0 cv w2 b m') (t : CurTo b w1 w2) : SesAt W0 cv w w2 b m' r s en nu de re u xs :=
  ⟨k, h.tow.trans t, OutOf.box t h.res (.inr (by have := h.ord; omega)), OutOf.box t h.box (.inr (by have := h.ord; omega)), own_outQ h.own t (by have := h.ord; omega), h.ord⟩
/-- A number is written into the variable. -/
theorem SesAt.put {W0 : World} {cv : Value} {w w1 : World} {b m r s : Nat} {en nu de re : Int} {u : Value} {xs : List Int} (h : SesAt W0 cv w w1 b m r s en nu de re u xs) (i : Nat) (hi : i < 5) (v : Value) {en' nu' de' re' : Int} (hc : (#[.int .i64 en, .int .i64 nu, .int .i64 de, u, .int .i64 re] : Array Value).setIfInBounds i v = #[.int .i64 en', .int .i64 nu', .int .i64 de', u, .int .i64 re']) :
    SesAt W0 cv w (w1.setCell ⟨s, i, none⟩ v) b m r s en' nu' de' re' u xs := by
  have ho := h.ord
  have hb : Below s w1 (w1.setCell ⟨s, i, none⟩ v) := (Below.refl _ _).setCell (p := ⟨s, i, none⟩) (Nat.le_refl _) v
  refine ⟨h.cur.keep hb (by omega), curTo_below h.tow (hb.mono (by omega)), box_keepQ h.res hb (by omega), by rw [← hc]; exact box_setQ h.box (by simpa using hi) v, ?_, ho⟩
  exact fin_own2 (lo := s) (b := s) h.own (Below.refl _ _) ((OutOf.refl s (s + 1) w1).set _) (Nat.lt_succ_self s)
/-- A member is appended, and the slice written into the variable. -/
theorem SesAt.push {W0 : World} {cv : Value} {w w1 w2 : World} {b m r s : Nat} {en nu de re : Int} {u u' : Value} {xs ys : List Int} (h : SesAt W0 cv w w1 b m r s en nu de re u xs) (ho' : OwnInts w2 (s + 1) u' ys) (hb : Below (s + 1) w1 w2) :
    SesAt W0 cv w (w2.setCell ⟨s, 3, none⟩ u') b m r s en nu de re u' ys := by
  have ho := h.ord
  have hb2 : Below s w2 (w2.setCell ⟨s, 3, none⟩ u') := (Below.refl _ _).setCell (p := ⟨s, 3, none⟩) (Nat.le_refl _) u'
  have hb3 : Below s w1 (w2.setCell ⟨s, 3, none⟩ u') := (hb.mono (by omega)).trans hb2
  refine ⟨h.cur.keep hb3 (by omega), curTo_below h.tow (hb3.mono (by omega)), box_keepQ h.res hb3 (by omega), ?_, ?_, ho⟩
  · have := box_setQ (box_keepQ h.box hb (by omega)) (i := 3) (by simp) u'
    simpa using this
  · exact fin_own2 (lo := s) (b := s) ho' (Below.refl _ _) ((OutOf.refl s (s + 1) w2).set _) (Nat.lt_succ_self s)
theorem SesAt.more {W0 : World} {cv : Value} {w w1 : World} {b m m' r s : Nat} {en nu de re : Int} {u : Value} {xs : List Int} (h : SesAt W0 cv w w1 b m r s en nu de re u xs) (hm : m ≤ m') : SesAt W0 cv w w1 b m' r s en nu de re u xs :=
  ⟨h.cur.more hm, h.tow, h.res, h.box, h.own, h.ord⟩
/-- The result's variable is written. -/
theorem SesAt.last {W0 : World} {cv : Value} {w w1 w2 : World} {b m r s : Nat} {en nu de re : Int} {u : Value} {xs : List Int} (h : SesAt W0 cv w w1 b m r s en nu de re u xs) (ho : OutOf r (r + 1) w1 w2) : OwnInts w2 w.heap.size u xs ∧ CurAt W0 cv w2 b m ∧ CurTo b w w2 := by
  have hd := h.ord
  have hb : Below r w1 w2 := ho.below (Nat.le_refl _) (by have := h.res.1; omega)
  exact ⟨own_base (fin_own2 (b := r) h.own (Below.refl _ _) ho (by omega)) (by omega), h.cur.keep hb (by omega), curTo_below h.tow (hb.mono (by omega))⟩

/-- A call of a Go function with two operands, as a step of a region that draws. -/
theorem step_call2 {P : Program} {w : World} {ops : Array Oper} {o : Oper} {a : Act} {K : Act → World → Prop} {Q : Exit → Act → World → Prop} {E : Prop} (hgd : o.guard = none) (f : Nat) (s x : Operand) (t t' : TypeId)
    (ho : o.op = .call { callee := .value (.func f), args := #[s, x], argTypes := #[t, t'] }) (hf : Enters P f) (vs vx : Value) (hs : a.eval s = vs) (hx : a.eval x = vx)
    (h : Calls P f #[vs, vx] w fun e w' => ∃ v, e = .returned v ∧ K (a.put o.dst v) w') :
    if Region.wanted o (yielded ops a.tmps) = true then Oper.wp P o a w K Q else E := by
  rw [if_pos (by simp [Region.wanted, hgd])]
  unfold Oper.wp execOp
  have hf' := hf.out
  have hfv : a.eval (.func f) = .func (.func f) #[] #[] := rfl
  simp only [ho, resolve, hfv, Deferred.ofValue, invoke, Sem.run_bind, Sem.run_pure, Result.andThen_ok, List.map_toArray, List.map_cons, List.map_nil, hs, hx, List.append_nil, Array.append_empty, hf', Oper.upon_enter]
  refine h.mono ?_
  rintro e w' ⟨v, rfl, hk⟩
  exact hk

set_option maxRecDepth 100000 in
set_option maxHeartbeats 8000000 in
theorem cur_sessionB (W0 : World) (cv : Value) (bs : List Int) (b m : Nat) (w : World) (hv : BytesAt W0 cv bs) (hl : bs.length ≤ 65537) (h : CurAt W0 cv w b m) (hm : m ≤ 800000000) :
    Calls Tryd.prog 28 #[.pointer (some ⟨b, 0, none⟩)] w fun e w' => ∃ en nu de re u xs, e = .returned (vSess en nu de u re) ∧ OwnInts w' w.heap.size u xs ∧ (xs.length ≤ 40 ∧ en ≤ 31) ∧ CurAt W0 cv w' b (m + 100) ∧ CurTo b w w' := by
  have hbw := h.lt
  have HV := Lib.hid hv; clear hv
  have bR : BoxAt (w.alloc (.cells #[.int .i64 0, .int .i64 0, .int .i64 0, .slice none 0 0, .int .i64 0] 28)) w.heap.size #[.int .i64 0, .int .i64 0, .int .i64 0, .slice none 0 0, .int .i64 0] := BoxAt.new _ _ _
  have hR := h.step (alQ w (.cells #[.int .i64 0, .int .i64 0, .int .i64 0, .slice none 0 0, .int .i64 0] 28))
  have tR : CurTo b w (w.alloc (.cells #[.int .i64 0, .int .i64 0, .int .i64 0, .slice none 0 0, .int .i64 0] 28)) := curTo_of (alQ w _)
  obtain ⟨WR, hWR⟩ : ∃ WR, WR = w.alloc (.cells #[.int .i64 0, .int .i64 0, .int .i64 0, .slice none 0 0, .int .i64 0] 28) := ⟨_, rfl⟩
  have hWs : WR.heap.size = w.heap.size + 1 := by rw [hWR]; simp
  rw [← hWR] at bR hR tR
  have HWR := Lib.hid hWR; clear hWR
  have HWs := Lib.hid hWs; clear hWs
  go_enter Tryd.func28, Tryd.ntmps28
  go_wp2_with fail
  rw [← HWR.out, ← HWs.out]
  refine (cur_among W0 cv bs b _ _ [1, 3, 5, 9, 12, 30] _ HV.out hl (hR.step (alQ _ _)) (by omega) (own_base (own_litL _ 3 [1, 3, 5, 9, 12, 30] (by simp)) (by have := hR.lt; omega)) (by simp) (by simp)).mono ?_
  rintro e w1 ⟨en, rfl, hen, k1, t1⟩
  replace bR := OutOf.box ((curTo_of (b := b) (alQ _ _)).trans t1) bR (.inr hbw)
  replace tR := tR.trans ((curTo_of (b := b) (alQ _ _)).trans t1)
  clear hR t1
  go_wp2_with fail
  refine (cur_pick W0 cv bs b _ 3 _ HV.out hl k1 (by omega) (by omega)).mono ?_
  rintro e w2 ⟨nu, rfl, nu0, nu1, nu2, k2, t2⟩
  have nu3 := nu1 (by omega)
  replace bR := OutOf.box t2 bR (.inr hbw)
  replace tR := tR.trans t2
  clear t2 nu1 k1
  go_wp2_with fail
  refine (cur_among W0 cv bs b _ _ [3, 4, 5, 10] _ HV.out hl (k2.step (alQ _ _)) (by omega) (own_base (own_litL _ 3 [3, 4, 5, 10] (by simp)) (by have := k2.lt; omega)) (by simp) (by simp)).mono ?_
  rintro e w3 ⟨de, rfl, hde, k3, t3⟩
  replace bR := OutOf.box ((curTo_of (b := b) (alQ _ _)).trans t3) bR (.inr hbw)
  replace tR := tR.trans ((curTo_of (b := b) (alQ _ _)).trans t3)
  clear t3 k2
  go_wp2_with fail
  refine (cur_among W0 cv bs b _ _ [0, 0, 0, 1, 600, 1439] _ HV.out hl (k3.step (alQ _ _)) (by omega) (own_base (own_litL _ 3 [0, 0, 0, 1, 600, 1439] (by simp)) (by have := k3.lt; omega)) (by simp) (by simp)).mono ?_
  rintro e w4 ⟨re, rfl, hre, k4, t4⟩
  replace bR := OutOf.box ((curTo_of (b := b) (alQ _ _)).trans t4) bR (.inr hbw)
  replace tR := tR.trans ((curTo_of (b := b) (alQ _ _)).trans t4)
  clear t4 k3
  simp only [List.mem_cons, List.not_mem_nil, or_false] at hen hde hre
  have hen1 : 1 ≤ en ∧ en ≤ 30 := by omega
  have hde1 : 3 ≤ de ∧ de ≤ 10 := by omega
  clear hen hde
  have S0 : SesAt W0 cv w (w4.alloc (.cells #[.int .i64 en, .int .i64 (1 + nu), .int .i64 de, .slice none 0 0, .int .i64 re] 28)) b (m + 10) w.heap.size w4.heap.size en (1 + nu) de re (.slice none 0 0) [] :=
    ⟨(k4.step (alQ _ _)).more (by omega), tR.trans (curTo_of (alQ _ _)), bR.below (alQ _ _), BoxAt.new _ _ _, World.ownsRow_nil _ _ 3 1, hbw, Nat.le_refl _, bR.1⟩
  clear k4 tR bR
  go_wp2_with fail
  generalize (w4.alloc (.cells #[.int .i64 en, .int .i64 (1 + nu), .int .i64 de, .slice none 0 0, .int .i64 re] 28)) = w5 at S0 ⊢
  generalize w4.heap.size = s at *
  generalize (1 + nu) = nw at *
  go_loopw [4] (fun i wr => ∃ (j : Int) (u : Value) (xs : List Int), 1 ≤ j ∧ j ≤ 31 ∧ (xs.length : Int) < j ∧ i = .int .i64 j ∧ SesAt W0 cv w wr b (m + 10 + 2 * j.toNat) w.heap.size s en nw de re u xs) (fun i _ => (31 - intOf i).toNat)
  case atStart => exact ⟨1, _, [], by omega, by omega, by simp, rfl, S0.more (by omega)⟩
  case round =>
    rename World => wa
    clear S0
    obtain ⟨j, u, xs, hj1, hj31, hxj, rfl, S⟩ := hrel
    obtain ⟨au, ku, rfl⟩ := (OwnI.at_ S.own : IntsAt wa u xs).form
    have c := S.box.cells
    by_cases hlt : j ≤ en
    · go_wp2_with fail
      refine (cur_one W0 cv bs b _ 2 _ HV.out hl S.cur (by omega) (by omega)).mono ?_
      rintro e w6 ⟨x, rfl, k6, t6⟩
      have S6 := S.went k6 t6
      clear k6 t6 S c
      have c6 := S6.box.cells
      have f6 := S6.box.free
      have hsz := S6.box.1
      cases x with
      | false =>
        go_wp2_with fail
        go_roundw
        case rel => exact ⟨j + 1, _, xs, by omega, by omega, by omega, by go_num, S6.more (by omega)⟩
        case measure => simp [intOf]; omega
      | true =>
        go_wp2_with (at_builtin; refine wpList_push_int rfl (.tmp 27) (.tmp 29) _ rfl _ 3 _ int_info Tryd.underlying22 _ xs j rfl S6.own rfl hsz (by omega) ?_; intro u7 w7 ho7 hb7; obtain ⟨a7, k7, hu7⟩ := (OwnI.at_ ho7 : IntsAt w7 u7 (xs ++ [j])).form; rw [List.length_append, List.length_singleton] at hu7; subst hu7; have c7 := (box_keepQ S6.box hb7 (Nat.lt_succ_self s)).cells; have f7 := (box_keepQ S6.box hb7 (Nat.lt_succ_self s)).free)
        go_roundw
        case rel => exact ⟨j + 1, _, xs ++ [j], by omega, by omega, by simp; omega, by go_num, (S6.push ho7 hb7).more (by omega)⟩
        case measure => simp [intOf]; omega
    · have hxl : xs.length ≤ 31 := by omega
      go_wp2_with fail
      refine (cur_pick W0 cv bs b _ 50 _ HV.out hl S.cur (by omega) (by omega)).mono ?_
      rintro e w6 ⟨x, rfl, x0, x1, x2, k6, t6⟩
      have S6 := (S.went k6 t6).more (m' := m + 80) (by omega)
      clear k6 t6 S c hlt hxj hj1 hj31
      go_upto_block 2 with fail
      go_cut [54] (fun _ wx => SesEx W0 cv w wx b (m + 90) w.heap.size s)
      case first => as_aux_lemma =>
        have c6 := S6.box.cells
        have f6 := S6.box.free
        have hsz := S6.box.1
        by_cases x10 : x = 0
        · subst x10
          go_wp2_with fail
          refine (cur_among W0 cv bs b _ _ [0, 31] _ HV.out hl ((S6.step (alQ _ _)).cur) (by omega) (own_base (own_litL _ 3 [0, 31] (by simp)) (by have := S6.ord; omega)) (by simp) (by simp)).mono ?_
          rintro e w7 ⟨y, rfl, hy, k7, t7⟩
          have hy31 : y ≤ 31 := by simp only [List.mem_cons, List.not_mem_nil, or_false] at hy; omega
          have S7 := (S6.step (alQ _ _)).went k7 t7
          have S8 := S7.put 0 (by omega) (.int .i64 y) (en' := y) (nu' := nw) (de' := de) (re' := re) (by simp)
          have c7 := S7.box.cells
          have f7 := S7.box.free
          clear k7 t7 S7 c6 f6
          go_wp2_with fail
          go_meet
          exact ⟨y, nw, de, re, au, ku, xs, ⟨by omega, by omega⟩, (S8).more (by omega)⟩
        · have xb0 : (x == 0) = false := by simp [x10]
          by_cases x11 : x = 1
          · subst x11
            go_wp2_with fail
            refine (cur_among W0 cv bs b _ _ [0, de + 1] _ HV.out hl ((S6.step (alQ _ _)).cur) (by omega) (own_base (own_litL _ 3 [0, de + 1] (by simp)) (by have := S6.ord; omega)) (by simp) (by simp)).mono ?_
            rintro e w7 ⟨y, rfl, hy, k7, t7⟩
            have S7 := (S6.step (alQ _ _)).went k7 t7
            have S8 := S7.put 1 (by omega) (.int .i64 y) (en' := en) (nu' := y) (de' := de) (re' := re) (by simp)
            have c7 := S7.box.cells
            have f7 := S7.box.free
            clear k7 t7 S7 c6 f6
            go_wp2_with fail
            go_meet
            exact ⟨en, y, de, re, au, ku, xs, ⟨by omega, by omega⟩, (S8).more (by omega)⟩
          · have xb1 : (x == 1) = false := by simp [x11]
            by_cases x12 : x = 2
            · subst x12
              have S8 := S6.put 2 (by omega) (.int .i64 11) (en' := en) (nu' := nw) (de' := 11) (re' := re) (by simp)
              go_wp2_with fail
              go_meet
              exact ⟨en, nw, 11, re, au, ku, xs, ⟨by omega, by omega⟩, (S8).more (by omega)⟩
            · have xb2 : (x == 2) = false := by simp [x12]
              by_cases x13 : x = 3
              · subst x13
                have hal : Below w6.heap.size w6 (w6.alloc (.cells (ints [0, en, en + 1]).toArray 3)) := alQ _ _
                have r6 := S6.box.rule
                have hw1 : IntKind.i64.wrap (en + 1) = en + 1 := IntWalk.i64_in _ (by omega)
                have HR1 : ∀ z : Int, ∀ c ∈ (#[.int .i64 z] : Array Value).toList, c.oneCell' = true := by intro z c hc; simp at hc; subst hc; rfl
                go_wp2_with fail
                go_region_law (first
                  | ((refine step_call2 (by rfl) 35 (.tmp 56) (.tmp 62) _ _ (by rfl) (enters_of Tryd.func35 (by kernel_rfl) (by kernel_rfl)) _ _ (by rfl) (by rfl) ?_);
                     (refine (cur_among W0 cv bs b _ _ [0, en, en + 1] _ HV.out hl ((S6.step (by first | exact alQ _ _ | exact Below.drew (alQ _ _))).cur) (by omega) (by first | exact own_base (own_litL _ 3 [0, en, en + 1] (by simp)) (by have := S6.ord; omega) | exact own_base (own_litL _ 3 [0, en, en + 1] (by simp)).drew (by have := S6.ord; omega)) (by simp) (by simp)).mono ?_);
                     (rintro e w7 ⟨y, rfl, hy, k7, t7⟩); (refine ⟨_, rfl, ?_⟩);
                     (have S7 := (S6.step (by first | exact alQ _ _ | exact Below.drew (alQ _ _))).went k7 t7); (have c7 := S7.box.cells); (have f7 := S7.box.free); (have hs7 := S7.box.1);
                     (have HBd : Hid (BoxAt (w7.alloc (.cells #[.int .i64 y] 3)) s #[.int .i64 en, .int .i64 nw, .int .i64 de, .slice au xs.length ku, .int .i64 re]) := S7.box.alloc _); (have hneb : some s ≠ (Value.slice au xs.length ku).ownBlock := fun e => by have := (S7.own.lt _ e.symm).1; omega); (have HNB := Lib.hid hneb); (clear hneb))
                  | ((refine step_append_row (by rfl) (.tmp 55) (.tmp 64) _ (by rfl) (s + 1) 3 _ 1 8 int_info Tryd.underlying22 (by rfl) (by omega) (by omega) (.slice au xs.length ku) xs.length (ints xs) (by rfl) (own_below S7.own (alQ _ _)) _ 1 (#[.int .i64 y] : Array Value).toList (by rfl) (row_new w7 #[.int .i64 y] 3 1 rfl) (HR1 y) (by omega) (by omega) (by simp; omega) ?_);
                     (intro v8 w8 o8 g8 e8); (obtain ⟨a8, k8, rfl⟩ := (rowAt_of_own o8).form); (have B8 := box_grownQ HBd.out g8 HNB.out); (have c8 := B8.cells); (have f8 := B8.free);
                     (have hb8 : Below (s + 1) w7 w8 := Below.grown ((alQ w7 (.cells #[.int .i64 y] 3)).mono hs7) g8 (Nat.le_trans hs7 (alQ w7 (.cells #[.int .i64 y] 3)).size) (fun k hk => (S7.own.lt k hk).1))))
                all_goals
                  clear c6 f6 r6 hal HR1 c7 f7 c8 f8 B8 g8 e8 HBd HNB k7 t7 hs7 hy hw1 S6 h
                  first | go_meet | (go_wp2_with fail; go_meet)
                  have o8' : OwnInts w8 (s + 1) (.slice a8 (xs.length + 1) k8) (xs ++ [y]) := by simpa [OwnInts, OwnI, ints] using o8
                  have S8 := (S7.push o8' hb8).more (m' := m + 90) (by omega)
                  have hyl : (xs ++ [y]).length = xs.length + 1 := by simp
                  exact ⟨en, nw, de, re, a8, k8, xs ++ [y], ⟨by omega, by omega⟩, by rw [hyl]; first | exact S8 | exact S8.step (Below.drew (Below.refl _ _))⟩
              · have xb3 : (x == 3) = false := by simp [x13]
                by_cases x14 : x = 4
                · subst x14
                  go_wp2_with fail
                  refine (cur_among W0 cv bs b _ _ [-1, 1440] _ HV.out hl ((S6.step (alQ _ _)).cur) (by omega) (own_base (own_litL _ 3 [-1, 1440] (by simp)) (by have := S6.ord; omega)) (by simp) (by simp)).mono ?_
                  rintro e w7 ⟨y, rfl, hy, k7, t7⟩
                  have S7 := (S6.step (alQ _ _)).went k7 t7
                  have S8 := S7.put 4 (by omega) (.int .i64 y) (en' := en) (nu' := nw) (de' := de) (re' := y) (by simp)
                  have c7 := S7.box.cells
                  have f7 := S7.box.free
                  clear k7 t7 S7 c6 f6
                  go_wp2_with fail
                  go_meet
                  exact ⟨en, nw, de, y, au, ku, xs, ⟨by omega, by omega⟩, (S8).more (by omega)⟩
                · have xb4 : (x == 4) = false := by simp [x14]
                  go_wp2_with fail
                  go_meet
                  exact ⟨en, nw, de, re, au, ku, xs, ⟨by omega, by omega⟩, (S6).more (by omega)⟩
      case rest =>
        rename World => wz
        obtain ⟨en9, nu9, de9, re9, a9, k9, ys, hyl, S9⟩ := hcut
        clear S6 x0 x1 x2
        have rz := S9.res.cells
        have rf := S9.res.free
        have cz := S9.box.cells
        have hrs := S9.ord
        have hq1 : w.heap.size ≠ s := by omega
        have hq2 : s ≠ w.heap.size := by omega
        go_wp2_with fail
        refine bodyPost_ret (v := vSess en9 nu9 de9 (.slice a9 ys.length k9) re9) (by simp [results, Tryd.results28, go_sem, rz, hq1, hq2]) rfl ⟨_, _, _, _, _, ys, rfl, ?_⟩
        have hL := fun wf ho => SesAt.last (w2 := wf) S9 ho
        refine ⟨(hL _ ?_).1, ⟨by omega, by omega⟩, ((hL _ ?_).2.1).more (by omega), (hL _ ?_).2.2⟩
        all_goals repeat (first | with_reducible exact OutOf.refl _ _ _ | with_reducible refine OutOf.set ?_ _)

theorem cur_session (W0 : World) (cv : Value) (bs : List Int) (b m : Nat) (w : World) (hv : BytesAt W0 cv bs) (hl : bs.length ≤ 65537) (h : CurAt W0 cv w b m) (hm : m ≤ 800000000) :
    Calls Tryd.prog 28 #[.pointer (some ⟨b, 0, none⟩)] w fun e w' => ∃ en nu de re u xs, e = .returned (vSess en nu de u re) ∧ OwnInts w' w.heap.size u xs ∧ xs.length ≤ 40 ∧ CurAt W0 cv w' b (m + 100) ∧ CurTo b w w' :=
  (cur_sessionB W0 cv bs b m w hv hl h hm).mono fun _ _ ⟨en, nu, de, re, u, xs, h1, h2, h3, h4, h5⟩ => ⟨en, nu, de, re, u, xs, h1, h2, h3.1, h4, h5⟩

end Go.Proofs.YtjijcjcfefkpbaaDoor
