/- Contracts: draws of committees. Condition: fewer than a thousand million choices. -/
import Derived.Test.YtpjmcjdnobihbaaDrawV
import Derived.Test.YtpjmcjdnobihbaaLoose
import Derived.Test.YtpjmcjdnobihbaaCommJ
import Derived.Test.YtpjmcjdnobihbaaAppS
import Derived.Deep.RegionLaw
import Derived.Deep.DeepCutAuto
import Derived.Deep.CutBlock
namespace Go.Proofs.Ytpjmcjdnobihbaa
open Go.RowKit
set_option linter.unusedVariables false
set_option linter.unusedSimpArgs false

abbrev LooseC (w : World) (B : Nat) (v : Value) (cs : List DCommittee) : Prop := LooseN ccell DCommittee.members 3 40 3 w B v cs
theorem LooseC.at_ {w : World} {B : Nat} {v : Value} {cs : List DCommittee} (h : LooseC w B v cs) : CommsAt w v cs := LooseN.at_ h
theorem OwnComms.loose {w : World} {B : Nat} {v : Value} {cs : List DCommittee} (h : OwnComms w B v cs) : LooseC w B v cs := by
  obtain ⟨es, h1, h2, h3, _, h5⟩ := h
  exact ⟨es, h1, h2, h3, h5⟩
/-- The committees drawn are small. -/
def SmallC (n : Nat) (cs : List DCommittee) : Prop := cs.length ≤ n ∧ ∀ c ∈ cs, c.members.length ≤ 14 ∧ c.name.size ≤ 10
theorem SmallC.le {n : Nat} {cs : List DCommittee} (h : SmallC n cs) (hn : n ≤ 1000) : CommsLe cs := ⟨by have := h.1; omega, fun c hc => by have := h.2 c hc; omega⟩
theorem SmallC.wide {n m : Nat} {cs : List DCommittee} (h : SmallC n cs) (hn : n ≤ m) : SmallC m cs := ⟨by have := h.1; omega, h.2⟩
theorem SmallC.push {n : Nat} {cs : List DCommittee} (h : SmallC n cs) {c : DCommittee} (hc : c.members.length ≤ 14 ∧ c.name.size ≤ 10) : SmallC (n + 1) (cs ++ [c]) := by
  refine ⟨by have := h.1; simp; omega, fun y hy => ?_⟩
  rcases List.mem_append.1 hy with hy | hy
  · exact h.2 y hy
  · rw [List.mem_singleton.1 hy]; exact hc
theorem SmallC.put {n : Nat} {cs : List DCommittee} (h : SmallC n cs) {c : DCommittee} (hc : c.members.length ≤ 14 ∧ c.name.size ≤ 10) : SmallC (2 * n + 1) (putV cs c) := by
  refine ⟨by have := putF_len c (c.members.length == 0) cs; have := h.1; unfold putV; omega, fun y hy => ?_⟩
  rcases putV_mem hy with rfl | hy
  · exact hc
  · exact h.2 y hy

/-! ### texts -/
def wordsQ : List ByteArray := [⟨#[109, 97, 105, 110]⟩, ⟨#[116, 97, 98, 108, 101]⟩, ⟨#[97, 100, 106, 111, 117, 114, 110]⟩, ⟨#[97, 109, 101, 110, 100]⟩, ⟨#[114, 101, 99, 101, 115, 115]⟩, ⟨#[114, 101, 102, 101, 114]⟩, ⟨#[108, 105, 109, 105, 116]⟩, ⟨#[99, 97, 108, 108]⟩, ⟨#[97]⟩, ⟨#[98, 121, 108, 97, 119, 115]⟩]
theorem own_litS (w : World) (ss : List ByteArray) (hn : ss.length ≤ 1000) : OwnStrs (w.alloc (.cells (strs ss).toArray 9)) w.heap.size (.slice (some ⟨w.heap.size, 0, none⟩) ss.length ss.length) ss := by
  have h := World.ownsRow_lit (base := w.heap.size) (e := 9) (size := 1) w (strs ss).toArray ss.length (Nat.le_refl _) (by unfold maxLen; omega) (by simp [strs])
  simpa [OwnStrs] using h

set_option maxHeartbeats 1000000 in
theorem cur_of (W0 : World) (cv : Value) (bs : List Int) (b m : Nat) (v : Value) (xs : List ByteArray) (w : World) (hv : BytesAt W0 cv bs) (hl : bs.length ≤ 65537) (h : CurAt W0 cv w b m) (hm : m ≤ 900000000)
    (hx : OwnStrs w (b + 1) v xs) (h0 : 0 < xs.length) (hn : xs.length ≤ 1000000) :
    Calls Try.prog 74 #[.pointer (some ⟨b, 0, none⟩), v] w fun e w' => ∃ x : ByteArray, e = .returned (.string x) ∧ x ∈ xs ∧ CurAt W0 cv w' b (m + 2) ∧ CurTo b w w' := by
  have hX := hx
  obtain ⟨ao, cap, rfl⟩ := hx.at_.form
  go_enter Try.func74, Try.ntmps74
  go_wp2_with fail
  refine (cur_pick W0 cv bs b m (xs.length : Int) w hv hl h hm (by omega)).mono ?_
  rintro e w1 ⟨x, rfl, x0, x1, x2, k1, t1⟩
  have hx1 : OwnStrs w1 (b + 1) (.slice ao xs.length cap) xs := own_outQ hX t1
  obtain ⟨_, _, _, hv', q1, q2, q3⟩ := hx1.at_
  cases hv'
  unfold maxLen at q2
  obtain ⟨bc, off, rfl, hlt2, hcs⟩ := q3 h0
  have x1' := x1 (by omega)
  obtain ⟨k, rfl⟩ : ∃ k : Nat, x = k := ⟨x.toNat, by omega⟩
  have hk : k < xs.length := by omega
  have d0 := hcs k (by simp [strs]; omega)
  simp [strs] at d0
  have hmem := List.getElem_mem hk
  generalize xs[k] = y at *
  go_wp2_with fail
  go_ret
  exact ⟨y, rfl, hmem, k1, t1⟩

set_option maxHeartbeats 1000000 in
theorem cur_word (W0 : World) (cv : Value) (bs : List Int) (b m : Nat) (w : World) (hv : BytesAt W0 cv bs) (hl : bs.length ≤ 65537) (h : CurAt W0 cv w b m) (hm : m ≤ 890000000) :
    Calls Try.prog 63 #[.pointer (some ⟨b, 0, none⟩)] w fun e w' => ∃ x : ByteArray, e = .returned (.string x) ∧ x.size ≤ 10 ∧ CurAt W0 cv w' b (m + 2) ∧ CurTo b w w' := by
  have hbw := h.lt
  have hsz : ∀ x ∈ wordsQ, x.size ≤ 10 := by decide
  have HV := Lib.hid hv; clear hv
  go_enter Try.func63, Try.ntmps63
  go_wp2_with (go_at_call 74; refine (cur_of W0 cv bs b _ _ wordsQ _ HV.out hl (h.step (alQ _ _)) (by omega) (own_base (own_litS _ wordsQ (by decide)) (by omega)) (by decide) (by decide)).mono ?_; rintro e w1 ⟨y, rfl, hy, k1, t1⟩)
  go_ret
  exact ⟨y, rfl, hsz y hy, k1, (curTo_of (alQ w _)).trans t1⟩

set_option maxHeartbeats 4000000 in
theorem cur_people (W0 : World) (cv : Value) (bs : List Int) (b m : Nat) (w : World) (hv : BytesAt W0 cv bs) (hl : bs.length ≤ 65537) (h : CurAt W0 cv w b m) (hm : m ≤ 880000000) :
    Calls Try.prog 62 #[.pointer (some ⟨b, 0, none⟩)] w fun e w' => ∃ u xs, e = .returned u ∧ OwnInts w' w.heap.size u xs ∧ xs.length ≤ 14 ∧ CurAt W0 cv w' b (m + 70) ∧ CurTo b w w' := by
  have hbw := h.lt
  have hbB : b + 1 ≤ w.heap.size := hbw
  have hlit := own_lit0 w 3
  have h0 := h.step (alQ w (.cells #[] 3))
  have HV := Lib.hid hv; clear hv
  go_enter Try.func62, Try.ntmps62
  go_wp2_with fail
  refine (cur_pick W0 cv bs b m 5 _ HV.out hl h0 (by omega) (by omega)).mono ?_
  rintro e w1 ⟨x, rfl, x0, x1, x2, k1, t1⟩
  have x1' := x1 (by omega)
  obtain ⟨k, rfl⟩ : ∃ k : Nat, x = k := ⟨x.toNat, by omega⟩
  have ho1 : OwnInts w1 w.heap.size (.slice (some ⟨w.heap.size, 0, none⟩) 0 0) [] := own_outQ hlit t1 hbB
  have T1 : CurTo b w w1 := (curTo_of (alQ w _)).trans t1
  have hk1 : (1 : Int) + (k : Int) = (k : Int) + 1 := by omega
  have HK1 := Lib.hid hk1
  clear x1 x2 hlit h0 t1 hk1
  go_wp2_with fail
  rw [HK1.out]
  go_loopw [3, 4, 5] (fun u q i wr => ∃ (xs : List Int) (p : Int) (j : Nat), xs.length + j ≤ 5 ∧ 0 ≤ p ∧ p ≤ 3 * xs.length ∧ q = .int .i64 p ∧ i = .int .i64 j ∧ OwnInts wr w.heap.size u xs ∧ CurAt W0 cv wr b (m + 2 + 2 * xs.length) ∧ CurTo b w wr) (fun _ _ i _ => (intOf i).toNat)
  case atStart => exact ⟨[], 0, k + 1, by simp; omega, by omega, by simp, rfl, by go_num, ho1, k1, T1⟩
  case round =>
    rename World => wa
    clear ho1 k1 T1
    obtain ⟨xs, p, j, hj, hp0, hp1, rfl, rfl, ho, hc, ht⟩ := hrel
    by_cases hj0 : 0 < j
    · have hjI : (0 : Int) < (j : Int) := by omega
      go_wp2_with fail
      refine (cur_pick W0 cv bs b _ 3 _ HV.out hl hc (by omega) (by omega)).mono ?_
      rintro e w3 ⟨z, rfl, z0, z1, z2, k3, t3⟩
      have z1' := z1 (by omega)
      have ho3 := own_outQ ho t3 hbB
      have T3 := ht.trans t3
      clear ho hc ht t3 z1
      go_wp2_with (at_builtin; refine wpList_push_int rfl (.tmp 19) (.tmp 21) _ rfl _ 3 _ int_info Try.underlying26 _ xs (p + 1 + z) rfl ho3 rfl T3.size (by omega) ?_; intro u4 w4 ho4 hb4; have k4 := k3.keep hb4 hbw; have T4 := curTo_below T3 hb4)
      go_roundw
      case rel => exact ⟨xs ++ [p + 1 + z], p + 1 + z, j - 1, by simp; omega, by omega, by simp; omega, rfl, by congr 1; omega, ho4, k4.more (by simp; omega), T4⟩
      case measure => simp [intOf]; omega
    · have hjI : ¬ (0 : Int) < (j : Int) := by omega
      have hxl : xs.length ≤ 5 := by omega
      go_wp2_with fail
      refine (cur_pick W0 cv bs b _ 40 _ HV.out hl hc (by omega) (by omega)).mono ?_
      rintro e w4 ⟨x, rfl, x0, x1, x2, k4, t4⟩
      have T4 := ht.trans t4
      have ho4 := own_outQ ho t4 hbB
      clear hc ho ht t4
      by_cases c0 : x = 0
      · subst c0
        go_wp2_with (first
        | (go_at_call 75; refine (cur_among W0 cv bs b _ _ [0, 99, 100] _ HV.out hl (k4.step (alQ _ _)) (by omega) (own_base (own_litL _ 3 [0, 99, 100] (by simp)) (by have := T4.size; omega)) (by simp) (by simp)).mono ?_; rintro e w1 ⟨y, rfl, hy, k1, t1⟩; have T1 := T4.trans ((curTo_of (alQ _ _)).trans t1); have ho1 := own_outQ (OwnI.below ho4 (alQ _ _)) t1 hbB)
        | (at_builtin; refine wpList_push_int rfl (.tmp 27) (.tmp 31) _ rfl _ 3 _ int_info Try.underlying26 _ xs y rfl ho1 rfl T1.size (by omega) ?_; intro u3 w3 ho3 hb3; have k3 := k1.keep hb3 hbw; have T3 := curTo_below T1 hb3))
        go_ret
        exact ⟨_, _, rfl, ho3, by simp; omega, k3.more (by omega), T3⟩
      · have xb0 : (x == 0) = false := by simp [c0]
        by_cases c1 : x = 1
        · subst c1
          go_wp2_with fail
          go_loopw [3, 4] (fun u q wr => ∃ (ys : List Int) (p : Int), ys.length ≤ 13 ∧ 0 ≤ p ∧ p ≤ 100 + ys.length ∧ q = .int .i64 p ∧ OwnInts wr w.heap.size u ys ∧ CurAt W0 cv wr b (m + 30 + 2 * ys.length) ∧ CurTo b w wr ∧ ∃ a k, u = .slice a ys.length k) (fun u _ _ => 14 - slenQ u)
          case atStart => exact ⟨xs, p, by omega, by omega, by omega, rfl, ho4, k4.more (by omega), T4, OwnI.at_ ho4 |>.form⟩
          case round =>
            rename World => wb
            obtain ⟨ys, p', hy9, hq0, hq1, rfl, ho5, k5, T5, a5, c5, rfl⟩ := hrel
            go_wp2_with fail
            refine (cur_pick W0 cv bs b _ 2 _ HV.out hl k5 (by omega) (by omega)).mono ?_
            rintro e w6 ⟨z, rfl, z0, z1, z2, k6, t6⟩
            have z1' := z1 (by omega)
            have T6 := T5.trans t6
            have ho6 := own_outQ ho5 t6 hbB
            by_cases hlt : (ys.length : Int) < 12 + z
            · go_wp2_with (at_builtin; refine wpList_push_int rfl (.tmp 43) (.tmp 45) _ rfl _ 3 _ int_info Try.underlying26 _ ys (p' + 1) rfl ho6 rfl T6.size (by omega) ?_; intro u7 w7 ho7 hb7; have k7 := k6.keep hb7 hbw; have T7 := curTo_below T6 hb7; obtain ⟨a7, c7, hu7⟩ := ho7.at_.form; rw [List.length_append, List.length_singleton] at hu7; subst hu7)
              go_roundw
              case rel => exact ⟨ys ++ [p' + 1], p' + 1, by simp; omega, by omega, by simp; omega, rfl, ho7, k7.more (by simp; omega), T7, _, _, by rw [List.length_append, List.length_singleton]⟩
              case measure => simp only [slenQ]; omega
            · go_wp2_with fail
              go_ret
              exact ⟨_, ys, rfl, ho6, by omega, k6.more (by omega), T6⟩
        · have xb1 : (x == 1) = false := by simp [c1]
          by_cases c2 : x = 2
          · subst c2
            obtain ⟨a4, k4', hu4⟩ := (OwnI.at_ ho4).form
            subst hu4
            have hcut : OwnInts w4 w.heap.size (.slice a4 0 k4') [] := by
              cases a4 with
              | none =>
                rcases ho4.2 with ⟨hv0, _⟩ | ⟨g, cap, cur, hv1, _⟩
                · injection hv0 with e1 e2 e3
                  subst e3
                  exact World.ownsRow_nil _ _ 3 1
                · injection hv1 with e1 e2 e3; cases e1
              | some ad => exact own_cut (m := 0) ho4 (Nat.zero_le _) (by simp)
            go_wp2_with fail
            go_ret
            exact ⟨_, [], rfl, hcut, by simp, k4.more (by omega), T4⟩
          · have xb2 : (x == 2) = false := by simp [c2]
            go_wp2_with fail
            go_ret
            exact ⟨_, xs, rfl, ho4, by omega, k4.more (by omega), T4⟩

/-! ### committees -/
/-- A committee in the making, in its variable (block s); the result's variable in block r; the cursor in block b. -/
structure ComAt (W0 : World) (cv : Value) (w w' : World) (b m r s : Nat) (u : Value) (c : DCommittee) : Prop where
  cur : CurAt W0 cv w' b m
  tow : CurTo b w w'
  res : BoxAt w' r #[.string ⟨#[]⟩, .slice none 0 0, .int .i64 0]
  box : BoxAt w' s #[.string c.name, u, .int .i64 c.head]
  own : OwnIn 3 1 (r + 1) s w' u c.members.length (ints c.members)
  ord : b < w.heap.size ∧ w.heap.size ≤ r ∧ r < s
section
variable {W0 : World} {cv : Value} {w w1 w2 : World} {b m m' r s : Nat} {u : Value} {c : DCommittee}
theorem ComAt.step (h : ComAt W0 cv w w1 b m r s u c) (hb : Below w1.heap.size w1 w2) : ComAt W0 cv w w2 b m r s u c :=
  ⟨h.cur.step hb, curTo_below h.tow (hb.mono h.tow.size), h.res.below hb, h.box.below hb, h.own.keep (below_same hb h.own.2.2), h.ord⟩
theorem ComAt.went (h : ComAt W0 cv w w1 b m r s u c) (k : CurAt W0 cv w2 b m') (t : CurTo b w1 w2) : ComAt W0 cv w w2 b m' r s u c :=
  ⟨k, h.tow.trans t, OutOf.box t h.res (.inr (by have := h.ord; omega)), OutOf.box t h.box (.inr (by have := h.ord; omega)), h.own.keep (OutOf.same t (.inr (by have := h.ord; omega)) h.own.2.2), h.ord⟩
theorem ComAt.more (h : ComAt W0 cv w w1 b m r s u c) (hm : m ≤ m') : ComAt W0 cv w w1 b m' r s u c := ⟨h.cur.more hm, h.tow, h.res, h.box, h.own, h.ord⟩
/-- The head is written. -/
theorem ComAt.put (h : ComAt W0 cv w w1 b m r s u c) (x : Int) : ComAt W0 cv w (w1.setCell ⟨s, 2, none⟩ (.int .i64 x)) b m r s u ⟨c.name, c.members, x⟩ := by
  have hd := h.ord
  have hb : Below s w1 (w1.setCell ⟨s, 2, none⟩ (.int .i64 x)) := (Below.refl _ _).setCell (p := ⟨s, 2, none⟩) (Nat.le_refl _) _
  refine ⟨h.cur.keep hb (by omega), curTo_below h.tow (hb.mono (by omega)), bA_out h.res hb (by omega), ?_, h.own.keep (below_same hb (Nat.le_refl _)), hd⟩
  have := BoxAt.put h.box (i := 2) (by simp) (.int .i64 x)
  simpa using this
theorem ComAt.last (h : ComAt W0 cv w w1 b m r s u c) (ho : OutOf r (r + 1) w1 w2) : OwnInts w2 w.heap.size u c.members ∧ CurAt W0 cv w2 b m ∧ CurTo b w w2 := by
  have hd := h.ord
  have hb : Below r w1 w2 := ho.below (Nat.le_refl _) (by have := h.res.1; omega)
  exact ⟨own_base (h.own.keep (OutOf.same ho (.inr (Nat.le_refl _)) h.own.2.2)).1 (by omega), h.cur.keep hb (by omega), curTo_below h.tow (hb.mono (by omega))⟩
end
theorem step_call2 {P : Program} {w : World} {ops : Array Oper} {o : Oper} {a : Act} {K : Act → World → Prop} {Q : Exit → Act → World → Prop} {E : Prop} (hgd : o.guard = none) (f : Nat) (s x : Operand) (t t' : TypeId)
    (ho : o.op = .call { callee := .value (.func f), args := #[s, x], argTypes := #[t, t'] }) (hf : Enters P f) (vs vx : Value) (hs : a.eval s = vs) (hx : a.eval x = vx)
    (h : Calls P f #[vs, vx] w fun e w' => ∃ v, e = .returned v ∧ K (a.put o.dst v) w') :
    if Region.wanted o (yielded ops a.tmps) = true then Oper.wp P o a w K Q else E := by
  rw [if_pos (by simp [Region.wanted, hgd])]
  unfold Oper.wp execOp
  have hf' := hf.out
  have hfv : a.eval (.func f) = .func (.func f) #[] #[] := rfl
  simp only [ho, resolve, hfv, Deferred.ofValue, invoke, Sem.run_bind, Sem.run_pure, Result.andThen_ok, List.map_toArray, List.map_cons, List.map_nil, hs, hx, List.append_nil, Array.append_empty, hf', Oper.upon_enter]
  refine h.mono ?_
  rintro e w' ⟨v, rfl, hk⟩
  exact hk

set_option maxRecDepth 100000 in
set_option maxHeartbeats 4000000 in
theorem cur_committee (W0 : World) (cv : Value) (bs : List Int) (b m : Nat) (w : World) (hv : BytesAt W0 cv bs) (hl : bs.length ≤ 65537) (h : CurAt W0 cv w b m) (hm : m ≤ 870000000) :
    Calls Try.prog 73 #[.pointer (some ⟨b, 0, none⟩)] w fun e w' => ∃ u c, e = .returned (vComm u c) ∧ OwnInts w' w.heap.size u c.members ∧ (c.members.length ≤ 14 ∧ c.name.size ≤ 10) ∧ CurAt W0 cv w' b (m + 80) ∧ CurTo b w w' := by
  have hbw := h.lt
  have HV := Lib.hid hv; clear hv
  obtain ⟨WR, hWR⟩ : ∃ WR, WR = w.alloc (.cells #[.string ⟨#[]⟩, .slice none 0 0, .int .i64 0] 40) := ⟨_, rfl⟩
  have bR : BoxAt WR w.heap.size #[.string ⟨#[]⟩, .slice none 0 0, .int .i64 0] := by rw [hWR]; exact BoxAt.new _ _ _
  have hR : CurAt W0 cv WR b m := by rw [hWR]; exact h.step (alQ _ _)
  have tR : CurTo b w WR := by rw [hWR]; exact curTo_of (alQ w _)
  have hWs : WR.heap.size = w.heap.size + 1 := by rw [hWR]; simp
  have HWR := Lib.hid hWR; clear hWR
  go_enter Try.func73, Try.ntmps73
  go_wp2_with fail
  rw [← HWR.out]
  refine (cur_word W0 cv bs b _ _ HV.out hl hR (by omega)).mono ?_
  rintro e w1 ⟨nm, rfl, hnm, k1, t1⟩
  have bR1 := OutOf.box t1 bR (.inr hbw)
  have T1 := tR.trans t1
  go_wp2_with fail
  refine (cur_people W0 cv bs b _ _ HV.out hl k1 (by omega)).mono ?_
  rintro e w2 ⟨u, xs, rfl, ho, hxl, k2, t2⟩
  obtain ⟨au, ku, rfl⟩ := (OwnI.at_ ho : IntsAt w2 u xs).form
  have hs1 := t1.size
  have hs2 := t2.size
  have S0 : ComAt W0 cv w (w2.alloc (.cells #[.string nm, .slice au xs.length ku, .int .i64 0] 40)) b (m + 72) w.heap.size w2.heap.size (.slice au xs.length ku) ⟨nm, xs, 0⟩ :=
    ⟨(k2.step (alQ _ _)).more (by omega), (T1.trans t2).trans (curTo_of (alQ _ _)), (OutOf.box t2 bR1 (.inr hbw)).below (alQ _ _), BoxAt.new _ _ _, (OwnIn.of (own_base ho (by omega))).keep (below_same (alQ w2 _) (Nat.le_refl _)), hbw, Nat.le_refl _, by omega⟩
  clear k1 k2 t1 t2 T1 bR1 bR hR tR ho h
  go_upto_region 2 with fail
  generalize (w2.alloc (.cells #[.string nm, .slice au xs.length ku, .int .i64 0] 40)) = w3 at S0 ⊢
  generalize w2.heap.size = s at *
  have cS0 := S0.box.cells
  go_upto_if 12 with fail
  clear cS0
  go_cut [13] (fun _ wx => ∃ hd : Int, ComAt W0 cv w wx b (m + 74) w.heap.size s (.slice au xs.length ku) ⟨nm, xs, hd⟩)
  case first => as_aux_lemma =>
    have cS := S0.box.cells; have fS := S0.box.free
    by_cases h0 : 0 < xs.length
    · have h0I : (0 : Int) < (xs.length : Int) := by omega
      go_wp2_with fail
      have hEn := enters_of Try.func61 (by kernel_rfl) (by kernel_rfl)
      have HEN := Lib.hid hEn; clear hEn
      go_region_law (first
        | ((with_reducible change ite (Region.wanted (Oper.mk (some 19) _ _ _ _ _) _ = true) _ _); (refine step_call2 (by rfl) 61 (.tmp 15) (.tmp 18) _ _ (by rfl) HEN.out _ _ (by rfl) (by rfl) ?_);
           (refine (cur_pick W0 cv bs b _ (xs.length : Int) _ HV.out hl ((S0.step (by first | exact Below.refl _ _ | exact Below.drew (Below.refl _ _))).cur) (by omega) (by omega)).mono ?_);
           (rintro e w7 ⟨y, rfl, y0, y1, y2, k7, t7⟩); (refine ⟨_, rfl, ?_⟩);
           (have S7 := (S0.step (by first | exact Below.refl _ _ | exact Below.drew (Below.refl _ _))).went k7 t7); (have c7 := S7.box.cells); (have f7 := S7.box.free); (have y3 := y1 (by omega));
           (obtain ⟨k, rfl⟩ : ∃ k : Nat, y = k := ⟨y.toNat, by omega⟩); (have hk : k < xs.length := by omega);
           (have d7 : ∃ bq oq, au = some ⟨bq, oq, none⟩ ∧ w7.cell? ⟨bq, oq + k, none⟩ = some (.int .i64 xs[k]) ∧ (xs.length : Int) ≤ (ku : Int) ∧ ku ≤ 9223372036854775807 := by
             obtain ⟨_, _, _, hve, q1, q2, q3⟩ := OwnIn.at_ S7.own
             cases hve
             obtain ⟨bq, oq, rfl, _, hcs⟩ := q3 h0
             exact ⟨bq, oq, rfl, CellsAt.int hcs hk, by have := q1; dsimp only at this; omega, by unfold maxLen at q2; omega⟩);
           (obtain ⟨bq, oq, rfl, d8, d9, d10⟩ := d7)))
      all_goals
        clear cS fS
        first | go_meet | (go_wp2_with fail; go_meet)
        exact ⟨xs[k], (by first | exact (S7.put xs[k]).more (by omega) | exact ((S7.put xs[k]).step (Below.drew (Below.refl _ _))).more (by omega))⟩
    · have h0I : ¬ (0 : Int) < (xs.length : Int) := by omega
      go_wp2_with fail
      go_meet
      exact ⟨0, S0.more (by omega)⟩
  case rest => as_aux_lemma =>
    rename World => wx
    obtain ⟨hd, S1⟩ := hcut
    clear S0
    go_wp2_with fail
    refine (cur_one W0 cv bs b _ 40 _ HV.out hl S1.cur (by omega) (by omega)).mono ?_
    rintro e w6 ⟨x, rfl, k6, t6⟩
    have S6 := S1.went k6 t6
    have hrs := S6.ord
    have hq1 : w.heap.size ≠ s := by omega
    have hq2 : s ≠ w.heap.size := by omega
    clear S1 k6 t6
    cases x with
    | false =>
      have cz := S6.box.cells; have rz := S6.res.cells; have rf := S6.res.free
      go_wp2_with fail
      refine bodyPost_ret (v := vComm (.slice au xs.length ku) ⟨nm, xs, hd⟩) (by simp [results, Try.results73, go_sem, rz, hq1, hq2]) rfl ⟨_, ⟨nm, xs, hd⟩, rfl, ?_⟩
      have hL := fun wf ho => ComAt.last (w2 := wf) S6 ho
      refine ⟨(hL _ ?_).1, ⟨hxl, hnm⟩, ((hL _ ?_).2.1).more (by omega), (hL _ ?_).2.2⟩
      all_goals repeat (first | with_reducible exact OutOf.refl _ _ _ | with_reducible refine OutOf.set ?_ _)
    | true =>
      have fS := S6.box.free
      go_wp2_with (go_at_call 75; refine (cur_among W0 cv bs b _ _ [0, 98] _ HV.out hl ((S6.step (alQ _ _)).cur) (by omega) (own_base (own_litL _ 3 [0, 98] (by simp)) (by have := S6.box.1; omega)) (by simp) (by simp)).mono ?_; rintro e w7 ⟨y, rfl, hy, k7, t7⟩; have S7 := (S6.step (alQ _ _)).went k7 t7; have c7 := S7.box.cells; have f7 := S7.box.free; have rz := S7.res.cells; have rf := S7.res.free)
      have S8 := S7.put y
      refine bodyPost_ret (v := vComm (.slice au xs.length ku) ⟨nm, xs, y⟩) (by simp [results, Try.results73, go_sem, rz, hq1, hq2]) rfl ⟨_, ⟨nm, xs, y⟩, rfl, ?_⟩
      have hL := fun wf ho => ComAt.last (w2 := wf) S8 ho
      refine ⟨(hL _ ?_).1, ⟨hxl, hnm⟩, ((hL _ ?_).2.1).more (by omega), (hL _ ?_).2.2⟩
      all_goals repeat (first | with_reducible exact OutOf.refl _ _ _ | with_reducible refine OutOf.set ?_ _)

/-- A byte as a text. -/
theorem conv_one (w : World) (x : Int) (h0 : 0 ≤ x) (h1 : x ≤ 255) : (convert 22 9 (.slice (some ⟨w.heap.size, 0, none⟩) 1 1)).run Try.prog (w.alloc (.cells #[.int .u8 x] 5)) = .ok (.string ⟨#[UInt8.ofNat x.toNat]⟩) (w.alloc (.cells #[.int .u8 x] 5)) := by
  have h := run_convert_bytes_back (P := Try.prog) (w.alloc (.cells #[.int .u8 x] 5)) 22 9 5 ⟨w.heap.size, 0, none⟩ 1 [UInt8.ofNat x.toNat] Try.underlying22 Try.underlying5 Try.underlying9 (by
    intro j hj
    have hj' : j = 0 := by simpa using hj
    subst hj'
    have hb : (UInt8.ofNat x.toNat).toNat = x.toNat := by
      simp only [UInt8.toNat_ofNat']
      omega
    have e : ((⟨w.heap.size, 0, none⟩ : Addr).add 0) = ⟨w.heap.size, 0, none⟩ := by simp [Addr.add]
    rw [e, (BoxAt.new w #[.int .u8 x] 5).cells 0]
    simp only [List.getElem_cons_zero, hb]
    have : ((x.toNat : Nat) : Int) = x := by omega
    rw [this]; rfl)
  exact h
set_option maxRecDepth 100000 in
set_option maxHeartbeats 4000000 in
theorem cur_committees (W0 : World) (cv : Value) (bs : List Int) (b m : Nat) (w : World) (hv : BytesAt W0 cv bs) (hl : bs.length ≤ 65537) (h : CurAt W0 cv w b m) (hm : m ≤ 800000000) :
    Calls Try.prog 43 #[.pointer (some ⟨b, 0, none⟩)] w fun e w' => ∃ u cs, e = .returned u ∧ LooseC w' w.heap.size u cs ∧ SmallC 9 cs ∧ CurAt W0 cv w' b (m + 1000) ∧ CurTo b w w' := by
  have hbw := h.lt
  have hbB : b + 1 ≤ w.heap.size := hbw
  have hlit : LooseC (w.alloc (.cells #[] 40)) w.heap.size (.slice (some ⟨w.heap.size, 0, none⟩) 0 0) [] := LooseN.lit _ _ w
  have h0 := h.step (alQ w (.cells #[] 40))
  have HV := Lib.hid hv; clear hv
  go_enter Try.func43, Try.ntmps43
  go_wp2_with fail
  refine (cur_pick W0 cv bs b m 7 _ HV.out hl h0 (by omega) (by omega)).mono ?_
  rintro e w1 ⟨x, rfl, x0, x1, x2, k1, t1⟩
  have x1' := x1 (by omega)
  obtain ⟨N, rfl⟩ : ∃ N : Nat, x = N := ⟨x.toNat, by omega⟩
  have L1 := hlit.out t1 hbB
  have T1 : CurTo b w w1 := (curTo_of (alQ w _)).trans t1
  clear x1 x2 hlit h0 t1
  go_wp2_with fail
  go_loopw [3, 4, 5] (fun l i _ wr => ∃ (cs : List DCommittee) (j : Nat), j ≤ 6 ∧ i = .int .i64 j ∧ LooseC wr w.heap.size l cs ∧ SmallC 8 cs ∧ CurAt W0 cv wr b (m + 2 + 80 * (6 - j)) ∧ CurTo b w wr) (fun _ i _ _ => (intOf i).toNat)
  case atStart => exact ⟨[], N, by omega, rfl, L1, ⟨by simp, fun c hc => by cases hc⟩, k1.more (by omega), T1⟩
  case round =>
    rename World => wa
    clear L1 k1 T1
    obtain ⟨cs, j, hj, rfl, L, hS, hc, ht⟩ := hrel
    obtain ⟨al, kl, rfl⟩ := L.form
    by_cases hj0 : 0 < j
    · have hjI : (0 : Int) < (j : Int) := by omega
      go_wp2_with fail
      refine (cur_committee W0 cv bs b _ _ HV.out hl hc (by omega)).mono ?_
      rintro e w3 ⟨u, c, rfl, ho, hcs, k3, t3⟩
      have L3 := L.out t3 hbB
      have T3 := ht.trans t3
      have hsa := ht.size
      clear hc ht t3 L
      go_wp2_with fail
      refine (s_l15Put _ u cs c w.heap.size _ L3.at_ (hS.le (by omega)) (own_base ho hsa) T3.size).mono ?_
      rintro e w4 ⟨p, rfl, ho4, hb4⟩
      obtain ⟨ap, kp, rfl⟩ := ho4.at_.form
      have L4 := L3.below hb4
      have T4 := curTo_below T3 (hb4.mono T3.size)
      have k4 := k3.step hb4
      have hP := hS.put hcs
      clear T3 k3 L3 hb4 ho
      go_wp2_with fail
      refine (s_l15Good _ (putV cs c) _ ho4.at_ (hP.le (by omega))).mono ?_
      rintro e w5 ⟨rfl, hb5⟩
      have L5 := L4.below hb5
      have N5 := (OwnComms.loose ho4).below hb5
      have T5 := curTo_below T4 (hb5.mono T4.size)
      have k5 := k4.step hb5
      clear T4 k4 L4 ho4 hb5
      cases hok : commsOk (putV cs c) with
      | true =>
        have h8 := commsOk_len hok
        clear hok
        go_wp2_with fail
        go_roundw
        case rel => exact ⟨putV cs c, j - 1, by omega, by congr 1; omega, N5, ⟨h8, hP.2⟩, k5.more (by omega), T5⟩
        case measure => simp [intOf]; omega
      | false =>
        clear hok
        go_wp2_with fail
        go_roundw
        case rel => exact ⟨cs, j - 1, by omega, by congr 1; omega, L5, hS, k5.more (by omega), T5⟩
        case measure => simp [intOf]; omega
    · have hjI : ¬ (0 : Int) < (j : Int) := by omega
      go_wp2_with fail
      refine (cur_pick W0 cv bs b _ 24 _ HV.out hl hc (by omega) (by omega)).mono ?_
      rintro e w4 ⟨x, rfl, x0, x1, x2, k4, t4⟩
      have L4 := L.out t4 hbB
      have T4 := ht.trans t4
      clear hc ht t4 L x1 x2
      by_cases c0 : x = 0
      · subst c0
        have hn4 := hS.1
        go_wp2_with (first
          | (go_at_call 73; refine (cur_committee W0 cv bs b _ _ HV.out hl k4 (by omega)).mono ?_; rintro e w5 ⟨u, c, rfl, ho5, hcs, k5, t5⟩; have L5 := L4.out t5 hbB; have T5 := T4.trans t5; have h45 : ∀ q, (Value.slice al cs.length kl).ownBlock = some q → q < w4.heap.size := fun q hq => (L4.blk hq).2)
          | (at_builtin; refine wpList_push_loose (f := ccell) (ord := DCommittee.members) (size := 3) rfl (.tmp 25) (.tmp 28) _ rfl (fun _ _ => rfl) w.heap.size 40 3 _ _ 48 comm_info Try.underlying24 rfl (by omega) (by omega) _ cs u c _ rfl L5 (own_base ho5 T4.size) (by cases hq : u.ownBlock with
              | none => exact .inl rfl
              | some q => exact .inr fun hcq => by have := h45 q hcq.symm; have := (ho5.lt q hq).1; omega) rfl (by simp [ccell, Value.oneCell']; have := ho5.at_.form; obtain ⟨_, _, rfl⟩ := this; rfl) rfl T5.size (by omega) ?_; intro v7 w7 L7 g7 hb7))
        go_ret
        exact ⟨_, cs ++ [c], rfl, L7, hS.push hcs, (k5.keep hb7 hbw).more (by omega), curTo_below T5 hb7⟩
      · have xb0 : (x == 0) = false := by simp [c0]
        by_cases c1 : x = 1
        · subst c1
          have N4 : LooseC (w4.alloc (.cells #[] 40)) w.heap.size (.slice (some ⟨w4.heap.size, 0, none⟩) 0 0) [] := (LooseN.lit _ _ w4).base T4.size
          have q4 := k4.step (alQ w4 (.cells #[] 40))
          have Q4 : CurTo b w (w4.alloc (.cells #[] 40)) := T4.trans (curTo_of (alQ _ _))
          clear L4 k4 T4
          go_wp2_with fail
          go_loopw [3, 6] (fun l i wr => ∃ (cs : List DCommittee) (k : Nat), cs.length = k ∧ k ≤ 9 ∧ i = .int .i64 k ∧ LooseC wr w.heap.size l cs ∧ SmallC k cs ∧ CurAt W0 cv wr b (m + 600 + 2 * k) ∧ CurTo b w wr) (fun _ i _ => 9 - (intOf i).toNat)
          case atStart => exact ⟨[], 0, rfl, by omega, rfl, N4, ⟨by simp, fun c hc => by cases hc⟩, q4.more (by omega), Q4⟩
          case round =>
            rename World => wb
            clear N4 q4 Q4
            obtain ⟨cs, k, hck, hk9, rfl, L5, hS5, k5, T5⟩ := hrel
            have HCK := Lib.hid hck; clear hck
            obtain ⟨al5, kl5, rfl⟩ := L5.form
            go_wp2_with fail
            refine (cur_pick W0 cv bs b _ 2 _ HV.out hl k5 (by omega) (by omega)).mono ?_
            rintro e w6 ⟨z, rfl, z0, z1, z2, k6, t6⟩
            have z1' := z1 (by omega)
            have L6 := L5.out t6 hbB
            have T6 := T5.trans t6
            clear L5 k5 T5 t6 z1 z2
            by_cases hlt : (k : Int) < 8 + z
            · have hcv := conv_one w6 (97 + (k : Int)) (by omega) (by omega)
              obtain ⟨NM, hNM⟩ : ∃ NM : ByteArray, NM = ⟨#[UInt8.ofNat (97 + (k : Int)).toNat]⟩ := ⟨_, rfl⟩
              have hns : NM.size = 1 := by rw [hNM]; rfl
              rw [← hNM] at hcv
              have HNS := Lib.hid hns
              clear hNM hns
              have hu8 : IntKind.u8.wrap (97 + (k : Int)) = 97 + (k : Int) := by rw [IntKind.wrap_u8]; omega
              have hmod : 0 ≤ (k : Int) % 3 ∧ (k : Int) % 3 < 3 := by omega
              have hl9 : cs.length ≤ 9 := by have := HCK.out; omega
              obtain ⟨W7, hW7⟩ : ∃ W7, W7 = (w6.alloc (.cells #[.int .u8 (97 + (k : Int))] 5)).alloc (.cells #[.int .i64 (1 + (k : Int) % 3)] 3) := ⟨_, rfl⟩
              have hb67 : Below w6.heap.size w6 W7 := by rw [hW7]; go_grown
              have hs67 : W7.heap.size = w6.heap.size + 2 := by rw [hW7]; simp
              have L7 := L6.below hb67
              have T7 := curTo_below T6 (hb67.mono T6.size)
              have k7 := k6.step hb67
              have hu7 : OwnInts W7 (w6.heap.size + 1) (.slice (some ⟨w6.heap.size + 1, 0, none⟩) 1 1) [1 + (k : Int) % 3] := by
                have := own_litL (w6.alloc (.cells #[.int .u8 (97 + (k : Int))] 5)) 3 [1 + (k : Int) % 3] (by simp)
                rw [hW7]
                simpa [ints] using this
              have hfr : ∀ q, (Value.slice al5 cs.length kl5).ownBlock = some q → q < w6.heap.size := fun q hq => (L6.blk hq).2
              have HW7 := Lib.hid hW7; clear hW7
              go_wp2_with (at_builtin; rw [← HW7.out]; refine wpList_push_loose (f := ccell) (ord := DCommittee.members) (size := 3) rfl (.tmp 40) (.tmp 54) _ rfl (fun _ _ => rfl) w.heap.size 40 3 _ _ 48 comm_info Try.underlying24 rfl (by omega) (by omega) _ cs (.slice (some ⟨w6.heap.size + 1, 0, none⟩) 1 1) ⟨NM, [1 + (k : Int) % 3], 1 + (k : Int) % 3⟩ _ rfl L7 (own_base hu7 (by have := T6.size; omega)) (.inr fun hcq => absurd (hfr (w6.heap.size + 1) hcq.symm) (by omega)) rfl (by simp [ccell, Value.oneCell']) (by rw [hs67]; rfl) T7.size (by omega) ?_; intro v8 w8 L8 g8 hb8)
              go_roundw
              case rel => exact ⟨cs ++ [⟨NM, [1 + (k : Int) % 3], 1 + (k : Int) % 3⟩], k + 1, by have := HCK.out; simp; omega, by omega, by go_num, L8, hS5.push ⟨by simp, by dsimp only; rw [HNS.out]; omega⟩, (k7.keep hb8 hbw).more (by omega), curTo_below T7 hb8⟩
              case measure => simp [intOf]; omega
            · go_wp2_with fail
              go_ret
              exact ⟨_, cs, rfl, L6, hS5.wide (by omega), k6.more (by omega), T6⟩
        · have xb1 : (x == 1) = false := by simp [c1]
          go_wp2_with fail
          go_ret
          exact ⟨_, cs, rfl, L4, hS.wide (by omega), k4.more (by omega), T4⟩

theorem draw_AreCommittees (cv : Value) (bs : List Int) (w : World) (hv : BytesAt w cv bs) (hl : bs.length ≤ 65537) :
    Calls Try.prog 32 #[cv] w fun e w' => ∃ u cs, e = .returned u ∧ CommsAt w' u cs ∧ SmallC 9 cs ∧ Below w.heap.size w w' := by
  have hc := cur_new cv w
  obtain ⟨ao, cap, rfl⟩ := hv.1.form
  have HV := Lib.hid hv; clear hv
  go_enter Try.func32, Try.ntmps32
  go_wp2_with fail
  refine (cur_committees w _ bs _ 0 _ HV.out hl hc (by omega)).mono ?_
  rintro e w1 ⟨u, cs, rfl, ho, hs, k1, t1⟩
  obtain ⟨au, ku, rfl⟩ := ho.form
  go_wp2_with fail
  go_ret
  exact ⟨_, cs, rfl, ho.at_, hs, k1.below⟩

theorem draw_MeetingSlots (cv : Value) (bs : List Int) (w : World) (hv : BytesAt w cv bs) (hl : bs.length ≤ 65537) :
    Calls Try.prog 6 #[cv] w fun e w' => ∃ u cs, e = .returned u ∧ CommsAt w' u cs ∧ SmallC 9 cs ∧ Below w.heap.size w w' := by
  obtain ⟨ao, cap, rfl⟩ := hv.1.form
  have HQ := Lib.hid (draw_AreCommittees _ bs w hv hl)
  go_enter Try.func6, Try.ntmps6
  go_wp2_with fail
  refine HQ.out.mono ?_
  rintro e w1 ⟨u, cs, rfl, ho, hs, hb⟩
  obtain ⟨au, ku, rfl⟩ := ho.form
  go_wp2_with fail
  go_ret
  exact ⟨_, cs, rfl, ho, hs, hb⟩

end Go.Proofs.Ytpjmcjdnobihbaa
