/- Contracts: the draws of chapter 12. Condition: fewer than a thousand million choices. -/
import Derived.Test.YtapkicfbknoioaaDrawP
namespace Go.Proofs.Ytapkicfbknoioaa
open Go.RowKit
set_option linter.unusedVariables false
set_option linter.unusedSimpArgs false

/-- Voters drawn, in their variable (block s), the result's variable in block r, the cursor in block b. -/
structure DrvAt (W0 : World) (cv : Value) (w' : World) (b m r s : Nat) (p q : Value) (d : DVoters) : Prop where
  cur : CurAt W0 cv w' b m
  res : BoxAt w' r #[.slice none 0 0, .slice none 0 0]
  box : BoxAt w' s #[p, q]
  own : OwnRV w' (b + 1) s p q d
  ord : r < b ∧ b < s
theorem DrvAt.step {W0 : World} {cv : Value} {w1 w2 : World} {b m r s : Nat} {p q : Value} {d : DVoters} (h : DrvAt W0 cv w1 b m r s p q d) (hb : Below w1.heap.size w1 w2) : DrvAt W0 cv w2 b m r s p q d :=
  ⟨h.cur.step hb, h.res.below hb, h.box.below hb, h.own.keep (below_same hb h.own.hiLe), h.ord⟩
theorem DrvAt.went {W0 : World} {cv : Value} {w1 w2 : World} {b m m' r s : Nat} {p q : Value} {d : DVoters} (h : DrvAt W0 cv w1 b m r s p q d) (k : CurAt W0 cv w2 b m') (t : CurTo b w1 w2) : DrvAt W0 cv w2 b m' r s p q d :=
  ⟨k, OutOf.box t h.res (.inl h.ord.1), OutOf.box t h.box (.inr h.ord.2), h.own.keep (OutOf.same t (.inr (Nat.le_refl _)) h.own.hiLe), h.ord⟩
theorem DrvAt.keep {W0 : World} {cv : Value} {w1 w2 : World} {b m r s : Nat} {p q : Value} {d : DVoters} (h : DrvAt W0 cv w1 b m r s p q d) (hb : Below (s + 1) w1 w2) : DrvAt W0 cv w2 b m r s p q d :=
  ⟨h.cur.keep hb (by have := h.ord; omega), box_keepQ h.res hb (by have := h.ord; omega), box_keepQ h.box hb (by omega), h.own.keep (below_same hb (by omega)), h.ord⟩
theorem DrvAt.more {W0 : World} {cv : Value} {w1 : World} {b m m' r s : Nat} {p q : Value} {d : DVoters} (h : DrvAt W0 cv w1 b m r s p q d) (hm : m ≤ m') : DrvAt W0 cv w1 b m' r s p q d := ⟨h.cur.more hm, h.res, h.box, h.own, h.ord⟩
theorem DrvAt.last {W0 : World} {cv : Value} {w w1 w2 : World} {b m s : Nat} {p q : Value} {d : DVoters} (h : DrvAt W0 cv w1 b m w.heap.size s p q d) (hw : Below w.heap.size w W0) (ho : OutOf w.heap.size (w.heap.size + 1) w1 w2) : OwnV w2 w.heap.size p q d ∧ Below w.heap.size w w2 := by
  have hd := h.ord
  exact ⟨((h.own.keep (OutOf.same ho (.inr (by omega)) h.own.hiLe)).toV).base (by omega), (hw.trans (h.cur.below.mono hw.size)).trans (ho.below (Nat.le_refl _) (by have := h.res.1; omega))⟩

set_option maxHeartbeats 1000000 in
theorem cur_voter (W0 : World) (cv : Value) (bs : List Int) (b m : Nat) (p q : Value) (d : DVoters) (w : World) (hv : BytesAt W0 cv bs) (hl : bs.length ≤ 65537) (h : CurAt W0 cv w b m) (hm : m ≤ 800000000) (hp : VotersAt w p q d) (hn : d.weights.length ≤ 1000) :
    Calls Try.prog 69 #[.pointer (some ⟨b, 0, none⟩), vVoters p q] w fun e w' => ∃ x : Int, e = .returned (.int .i64 x) ∧ CurAt W0 cv w' b (m + 4) ∧ CurTo b w w' := by
  obtain ⟨aw, kw, aq, kq, rfl, rfl⟩ := hp.form
  obtain ⟨W, hW⟩ : ∃ W, W = w.alloc (.cells #[.slice aw d.weights.length kw, .slice aq d.proxies.length kq] 29) := ⟨_, rfl⟩
  have bA : BoxAt W w.heap.size #[.slice aw d.weights.length kw, .slice aq d.proxies.length kq] := by rw [hW]; exact BoxAt.new _ _ _
  have hc : CurAt W0 cv W b m := by rw [hW]; exact h.step (alQ _ _)
  have tW : CurTo b w W := by rw [hW]; exact curTo_of (alQ w _)
  have HV := Lib.hid hv; clear hv
  have HW := Lib.hid hW; clear hW
  have a0 := bA.cells
  go_enter Try.func69, Try.ntmps69
  go_wp2_with fail
  rw [← HW.out]
  go_wp2_with fail
  refine (cur_pick W0 cv bs b _ ((d.weights.length : Int) + 1) _ HV.out hl hc (by omega) (by omega)).mono ?_
  rintro e w2 ⟨x, rfl, x0, x1, x2, k2, t2⟩
  have x1' := x1 (by omega)
  clear a0
  go_wp2_with fail
  refine (cur_pick W0 cv bs b _ 20 _ HV.out hl k2 (by omega) (by omega)).mono ?_
  rintro e w3 ⟨y, rfl, y0, y1, y2, k3, t3⟩
  have y1' := y1 (by omega)
  go_wp2_with fail
  go_ret
  exact ⟨_, rfl, k3, (tW.trans t2).trans t3⟩


set_option maxRecDepth 100000 in
set_option maxHeartbeats 4000000 in
theorem draw_AreVoters (cv : Value) (bs : List Int) (w : World) (hv : BytesAt w cv bs) (hl : bs.length ≤ 65537) :
    Calls Try.prog 72 #[cv] w fun e w' => ∃ p q d, e = .returned (vVoters p q) ∧ OwnV w' w.heap.size p q d ∧ d.weights.length ≤ 20 ∧ d.proxies.length ≤ 20 ∧ Below w.heap.size w w' := by
  obtain ⟨ao, cap, rfl⟩ := hv.1.form
  obtain ⟨W1, hW1⟩ : ∃ W1, W1 = w.alloc (.cells #[.slice none 0 0, .slice none 0 0] 29) := ⟨_, rfl⟩
  have bR : BoxAt W1 w.heap.size #[.slice none 0 0, .slice none 0 0] := by rw [hW1]; exact BoxAt.new _ _ _
  have hWb : Below w.heap.size w W1 := by rw [hW1]; exact alQ _ _
  have hWs : W1.heap.size = w.heap.size + 1 := by rw [hW1]; simp
  have HV : Hid (BytesAt W1 (.slice ao bs.length cap) bs) := hv.below hWb
  have HW1 := Lib.hid hW1; have HWs := Lib.hid hWs; have HWb := Lib.hid hWb
  have hc := cur_new (.slice ao bs.length cap) W1
  clear hW1 hWs hv
  go_enter Try.func72, Try.ntmps72
  go_wp2_with fail
  rw [← HW1.out, ← HWs.out]
  have bR2 := bR.below (alQ W1 (.cells #[.slice ao bs.length cap, .int .i64 0, .int .u64 0] 71))
  refine (cur_voters W1 _ bs _ 0 _ HV.out hl hc (by omega)).mono ?_
  rintro e w3 ⟨p, q, d, rfl, ho, hx1, hx2, k3, t3⟩
  obtain ⟨aw, kw, aq, kq, rfl, rfl⟩ := ho.at_.form
  have bR3 := OutOf.box t3 bR2 (.inl bR.1)
  have hs3 := k3.lt
  have rR := bR3.cells; have fR := bR3.free
  go_wp2_with fail
  refine bodyPost_ret (v := vVoters (.slice aw d.weights.length kw) (.slice aq d.proxies.length kq)) (by simp [results, Try.results72, go_sem, rR]) rfl ⟨_, _, d, rfl, ?_⟩
  have hL : ∀ wf, OutOf w.heap.size (w.heap.size + 1) w3 wf → OwnV wf w.heap.size (.slice aw d.weights.length kw) (.slice aq d.proxies.length kq) d ∧ Below w.heap.size w wf := fun wf ho' =>
    ⟨⟨own_base (own_outQ ho.1 ho' (by simp; have := HWs.out; omega)) (by simp; have := HWs.out; omega), own_base (own_outQ ho.2.1 ho' (by simp; have := HWs.out; omega)) (by simp; have := HWs.out; omega), ho.2.2⟩, (HWb.out.trans (k3.below.mono HWb.out.size)).trans (ho'.below (Nat.le_refl _) (by have := bR3.1; omega))⟩
  refine ⟨(hL _ ?_).1, hx1, hx2, (hL _ ?_).2⟩
  all_goals repeat (first | with_reducible exact OutOf.refl _ _ _ | with_reducible refine OutOf.drew' ?_ | with_reducible refine OutOf.set ?_ _)

set_option maxRecDepth 100000 in
set_option maxHeartbeats 4000000 in
theorem draw_HeldWeights (cv : Value) (bs : List Int) (w : World) (hv : BytesAt w cv bs) (hl : bs.length ≤ 65537) :
    Calls Try.prog 29 #[cv] w fun e w' => ∃ p q d, e = .returned (vVoters p q) ∧ OwnV w' w.heap.size p q d ∧ d.weights.length ≤ 20 ∧ d.proxies.length ≤ 20 ∧ Below w.heap.size w w' := by
  obtain ⟨ao, cap, rfl⟩ := hv.1.form
  obtain ⟨W1, hW1⟩ : ∃ W1, W1 = w.alloc (.cells #[.slice none 0 0, .slice none 0 0] 29) := ⟨_, rfl⟩
  have bR : BoxAt W1 w.heap.size #[.slice none 0 0, .slice none 0 0] := by rw [hW1]; exact BoxAt.new _ _ _
  have hWb : Below w.heap.size w W1 := by rw [hW1]; exact alQ _ _
  have hWs : W1.heap.size = w.heap.size + 1 := by rw [hW1]; simp
  have HV : Hid (BytesAt W1 (.slice ao bs.length cap) bs) := hv.below hWb
  have HW1 := Lib.hid hW1; have HWs := Lib.hid hWs; have HWb := Lib.hid hWb
  clear hW1 hWs hv
  have HQ := Lib.hid (draw_AreVoters _ bs W1 HV.out hl)
  go_enter Try.func29, Try.ntmps29
  go_wp2_with fail
  rw [← HW1.out]
  refine HQ.out.mono ?_
  rintro e w3 ⟨p, q, d, rfl, ho, hx1, hx2, hb3⟩
  obtain ⟨aw, kw, aq, kq, rfl, rfl⟩ := ho.at_.form
  have bR3 := bR.below hb3
  have rR := bR3.cells; have fR := bR3.free
  go_wp2_with fail
  refine bodyPost_ret (v := vVoters (.slice aw d.weights.length kw) (.slice aq d.proxies.length kq)) (by simp [results, Try.results29, go_sem, rR]) rfl ⟨_, _, d, rfl, ?_⟩
  have hL : ∀ wf, OutOf w.heap.size (w.heap.size + 1) w3 wf → OwnV wf w.heap.size (.slice aw d.weights.length kw) (.slice aq d.proxies.length kq) d ∧ Below w.heap.size w wf := fun wf ho' =>
    ⟨⟨own_base (own_outQ ho.1 ho' (by have := HWs.out; omega)) (by have := HWs.out; omega), own_base (own_outQ ho.2.1 ho' (by have := HWs.out; omega)) (by have := HWs.out; omega), ho.2.2⟩, (HWb.out.trans (hb3.mono HWb.out.size)).trans (ho'.below (Nat.le_refl _) (by have := bR3.1; omega))⟩
  refine ⟨(hL _ ?_).1, hx1, hx2, (hL _ ?_).2⟩
  all_goals repeat (first | with_reducible exact OutOf.refl _ _ _ | with_reducible refine OutOf.drew' ?_ | with_reducible refine OutOf.set ?_ _)

set_option maxRecDepth 100000 in
set_option maxHeartbeats 4000000 in
theorem draw_HolderFor (cv : Value) (bs : List Int) (w : World) (hv : BytesAt w cv bs) (hl : bs.length ≤ 65537) :
    Calls Try.prog 23 #[cv] w fun e w' => ∃ p q d x, e = .returned (.tuple #[vVoters p q, .int .i64 x]) ∧ OwnV w' w.heap.size p q d ∧ d.weights.length ≤ 20 ∧ d.proxies.length ≤ 20 ∧ Below w.heap.size w w' := by
  obtain ⟨ao, cap, rfl⟩ := hv.1.form
  obtain ⟨W1, hW1⟩ : ∃ W1, W1 = w.alloc (.cells #[.slice none 0 0, .slice none 0 0] 29) := ⟨_, rfl⟩
  have bR : BoxAt W1 w.heap.size #[.slice none 0 0, .slice none 0 0] := by rw [hW1]; exact BoxAt.new _ _ _
  have hWb : Below w.heap.size w W1 := by rw [hW1]; exact alQ _ _
  have hWs : W1.heap.size = w.heap.size + 1 := by rw [hW1]; simp
  have HV : Hid (BytesAt W1 (.slice ao bs.length cap) bs) := hv.below hWb
  have HW1 := Lib.hid hW1; have HWs := Lib.hid hWs; have HWb := Lib.hid hWb
  have hc := cur_new (.slice ao bs.length cap) W1
  clear hW1 hWs hv
  go_enter Try.func23, Try.ntmps23
  go_wp2_with fail
  rw [← HW1.out, ← HWs.out]
  have bR2 := bR.below (alQ W1 (.cells #[.slice ao bs.length cap, .int .i64 0, .int .u64 0] 71))
  refine (cur_voters W1 _ bs _ 0 _ HV.out hl hc (by omega)).mono ?_
  rintro e w3 ⟨p, q, d, rfl, ho, hx1, hx2, k3, t3⟩
  obtain ⟨aw, kw, aq, kq, rfl, rfl⟩ := ho.at_.form
  have bR3 := OutOf.box t3 bR2 (.inl bR.1)
  have hs3 := k3.lt
  have D4 : DrvAt W1 (.slice ao bs.length cap) (w3.alloc (.cells #[.slice aw d.weights.length kw, .slice aq d.proxies.length kq] 29)) W1.heap.size (0 + 200) w.heap.size w3.heap.size (.slice aw d.weights.length kw) (.slice aq d.proxies.length kq) d :=
    ⟨k3.step (alQ _ _), bR3.below (alQ _ _), BoxAt.new _ _ _, ((ho.base (by simp)).toR).keep (below_same (alQ w3 _) (Nat.le_refl _)), bR.1, hs3⟩
  clear hc bR2 ho bR3 k3 t3
  go_upto_region 3 with fail
  have hq4 : (w3.alloc (.cells #[.slice aw d.weights.length kw, .slice aq d.proxies.length kq] 29)).heap.size = w3.heap.size + 1 := by simp
  generalize (w3.alloc (.cells #[.slice aw d.weights.length kw, .slice aq d.proxies.length kq] 29)) = w4 at D4 hq4 ⊢
  generalize w3.heap.size = s at *
  generalize hbq : W1.heap.size = b at *
  have hrs := D4.ord
  have hb4 := D4.cur.lt
  have hs4 := D4.box.1
  have hbx : b ≠ w.heap.size := by omega
  have hsx : s ≠ w.heap.size := by omega
  have hsx2 : w.heap.size ≠ s := by omega
  have c4 := D4.box.cells
  have rR4 := D4.res.cells
  have fR4 := D4.res.free
  have hEn := enters_of Try.func69 (by kernel_rfl) (by kernel_rfl)
  have HEN := Lib.hid hEn; clear hEn
  go_region_law (first
    | ((with_reducible change ite (Region.wanted (Oper.mk (some 14) _ _ _ _ _) _ = true) _ _); (refine step_call2 (by rfl) 69 (.tmp 12) (.tmp 13) _ _ (by rfl) HEN.out (.pointer (some ⟨b, 0, none⟩)) (vVoters (.slice aw d.weights.length kw) (.slice aq d.proxies.length kq)) (by rfl) (by rfl) ?_);
       (refine (cur_voter W1 _ bs b _ _ _ d _ HV.out hl ((D4.step (by first | exact Below.refl _ _ | exact Below.drew (Below.refl _ _))).cur) (by omega) ((D4.step (by first | exact Below.refl _ _ | exact Below.drew (Below.refl _ _))).own.at_) (by omega)).mono ?_);
       (rintro e w5 ⟨x, rfl, k5, t5⟩); (refine ⟨_, rfl, ?_⟩);
       (have D5 := (D4.step (by first | exact Below.refl _ _ | exact Below.drew (Below.refl _ _))).went k5 t5); (have cD5 := D5.box.cells); (have rD5 := D5.res.cells); (have fD5 := D5.res.free)))
  all_goals
    go_wp2_with fail
    refine bodyPost_ret (v := .tuple #[vVoters (.slice aw d.weights.length kw) (.slice aq d.proxies.length kq), .int .i64 x]) (by simp [results, Try.results23, go_sem, rD5]) rfl ⟨_, _, d, x, rfl, ?_⟩
    have hL := fun wf ho => DrvAt.last (w := w) (w2 := wf) D5 HWb.out ho
    refine ⟨(hL _ ?_).1, hx1, hx2, (hL _ ?_).2⟩
    all_goals repeat (first | with_reducible exact OutOf.refl _ _ _ | with_reducible refine OutOf.drew' ?_ | with_reducible refine OutOf.set ?_ _)

set_option maxRecDepth 100000 in
set_option maxHeartbeats 4000000 in
theorem draw_ProxySteps (cv : Value) (bs : List Int) (w : World) (hv : BytesAt w cv bs) (hl : bs.length ≤ 65537) :
    Calls Try.prog 26 #[cv] w fun e w' => ∃ p q d x, e = .returned (.tuple #[vVoters p q, .int .i64 x]) ∧ OwnV w' w.heap.size p q d ∧ d.weights.length ≤ 20 ∧ d.proxies.length ≤ 20 ∧ Below w.heap.size w w' := by
  obtain ⟨ao, cap, rfl⟩ := hv.1.form
  obtain ⟨W1, hW1⟩ : ∃ W1, W1 = w.alloc (.cells #[.slice none 0 0, .slice none 0 0] 29) := ⟨_, rfl⟩
  have bR : BoxAt W1 w.heap.size #[.slice none 0 0, .slice none 0 0] := by rw [hW1]; exact BoxAt.new _ _ _
  have hWb : Below w.heap.size w W1 := by rw [hW1]; exact alQ _ _
  have hWs : W1.heap.size = w.heap.size + 1 := by rw [hW1]; simp
  have HV : Hid (BytesAt W1 (.slice ao bs.length cap) bs) := hv.below hWb
  have HW1 := Lib.hid hW1; have HWs := Lib.hid hWs; have HWb := Lib.hid hWb
  clear hW1 hWs hv
  have HQ := Lib.hid (draw_HolderFor _ bs W1 HV.out hl)
  go_enter Try.func26, Try.ntmps26
  go_wp2_with fail
  rw [← HW1.out]
  refine HQ.out.mono ?_
  rintro e w3 ⟨p, q, d, x, rfl, ho, hx1, hx2, hb3⟩
  obtain ⟨aw, kw, aq, kq, rfl, rfl⟩ := ho.at_.form
  have bR3 := bR.below hb3
  have rR := bR3.cells; have fR := bR3.free
  go_wp2_with fail
  refine bodyPost_ret (v := .tuple #[vVoters (.slice aw d.weights.length kw) (.slice aq d.proxies.length kq), .int .i64 x]) (by simp [results, Try.results26, go_sem, rR]) rfl ⟨_, _, d, x, rfl, ?_⟩
  have hL : ∀ wf, OutOf w.heap.size (w.heap.size + 1) w3 wf → OwnV wf w.heap.size (.slice aw d.weights.length kw) (.slice aq d.proxies.length kq) d ∧ Below w.heap.size w wf := fun wf ho' =>
    ⟨⟨own_base (own_outQ ho.1 ho' (by have := HWs.out; omega)) (by have := HWs.out; omega), own_base (own_outQ ho.2.1 ho' (by have := HWs.out; omega)) (by have := HWs.out; omega), ho.2.2⟩, (HWb.out.trans (hb3.mono HWb.out.size)).trans (ho'.below (Nat.le_refl _) (by have := bR3.1; omega))⟩
  refine ⟨(hL _ ?_).1, hx1, hx2, (hL _ ?_).2⟩
  all_goals repeat (first | with_reducible exact OutOf.refl _ _ _ | with_reducible refine OutOf.drew' ?_ | with_reducible refine OutOf.set ?_ _)

set_option maxRecDepth 100000 in
set_option maxHeartbeats 4000000 in
theorem draw_RevokeProxy (cv : Value) (bs : List Int) (w : World) (hv : BytesAt w cv bs) (hl : bs.length ≤ 65537) :
    Calls Try.prog 38 #[cv] w fun e w' => ∃ p q d x, e = .returned (.tuple #[vVoters p q, .int .i64 x]) ∧ OwnV w' w.heap.size p q d ∧ d.weights.length ≤ 20 ∧ d.proxies.length ≤ 20 ∧ Below w.heap.size w w' := by
  obtain ⟨ao, cap, rfl⟩ := hv.1.form
  obtain ⟨W1, hW1⟩ : ∃ W1, W1 = w.alloc (.cells #[.slice none 0 0, .slice none 0 0] 29) := ⟨_, rfl⟩
  have bR : BoxAt W1 w.heap.size #[.slice none 0 0, .slice none 0 0] := by rw [hW1]; exact BoxAt.new _ _ _
  have hWb : Below w.heap.size w W1 := by rw [hW1]; exact alQ _ _
  have hWs : W1.heap.size = w.heap.size + 1 := by rw [hW1]; simp
  have HV : Hid (BytesAt W1 (.slice ao bs.length cap) bs) := hv.below hWb
  have HW1 := Lib.hid hW1; have HWs := Lib.hid hWs; have HWb := Lib.hid hWb
  clear hW1 hWs hv
  have HQ := Lib.hid (draw_HolderFor _ bs W1 HV.out hl)
  go_enter Try.func38, Try.ntmps38
  go_wp2_with fail
  rw [← HW1.out]
  refine HQ.out.mono ?_
  rintro e w3 ⟨p, q, d, x, rfl, ho, hx1, hx2, hb3⟩
  obtain ⟨aw, kw, aq, kq, rfl, rfl⟩ := ho.at_.form
  have bR3 := bR.below hb3
  have rR := bR3.cells; have fR := bR3.free
  go_wp2_with fail
  refine bodyPost_ret (v := .tuple #[vVoters (.slice aw d.weights.length kw) (.slice aq d.proxies.length kq), .int .i64 x]) (by simp [results, Try.results38, go_sem, rR]) rfl ⟨_, _, d, x, rfl, ?_⟩
  have hL : ∀ wf, OutOf w.heap.size (w.heap.size + 1) w3 wf → OwnV wf w.heap.size (.slice aw d.weights.length kw) (.slice aq d.proxies.length kq) d ∧ Below w.heap.size w wf := fun wf ho' =>
    ⟨⟨own_base (own_outQ ho.1 ho' (by have := HWs.out; omega)) (by have := HWs.out; omega), own_base (own_outQ ho.2.1 ho' (by have := HWs.out; omega)) (by have := HWs.out; omega), ho.2.2⟩, (HWb.out.trans (hb3.mono HWb.out.size)).trans (ho'.below (Nat.le_refl _) (by have := bR3.1; omega))⟩
  refine ⟨(hL _ ?_).1, hx1, hx2, (hL _ ?_).2⟩
  all_goals repeat (first | with_reducible exact OutOf.refl _ _ _ | with_reducible refine OutOf.drew' ?_ | with_reducible refine OutOf.set ?_ _)

set_option maxRecDepth 100000 in
set_option maxHeartbeats 4000000 in
theorem draw_GiveProxy (cv : Value) (bs : List Int) (w : World) (hv : BytesAt w cv bs) (hl : bs.length ≤ 65537) :
    Calls Try.prog 35 #[cv] w fun e w' => ∃ p q d x y, e = .returned (.tuple #[vVoters p q, .int .i64 x, .int .i64 y]) ∧ OwnV w' w.heap.size p q d ∧ d.weights.length ≤ 20 ∧ d.proxies.length ≤ 20 ∧ Below w.heap.size w w' := by
  obtain ⟨ao, cap, rfl⟩ := hv.1.form
  obtain ⟨W1, hW1⟩ : ∃ W1, W1 = w.alloc (.cells #[.slice none 0 0, .slice none 0 0] 29) := ⟨_, rfl⟩
  have bR : BoxAt W1 w.heap.size #[.slice none 0 0, .slice none 0 0] := by rw [hW1]; exact BoxAt.new _ _ _
  have hWb : Below w.heap.size w W1 := by rw [hW1]; exact alQ _ _
  have hWs : W1.heap.size = w.heap.size + 1 := by rw [hW1]; simp
  have HV : Hid (BytesAt W1 (.slice ao bs.length cap) bs) := hv.below hWb
  have HW1 := Lib.hid hW1; have HWs := Lib.hid hWs; have HWb := Lib.hid hWb
  have hc := cur_new (.slice ao bs.length cap) W1
  clear hW1 hWs hv
  go_enter Try.func35, Try.ntmps35
  go_wp2_with fail
  rw [← HW1.out, ← HWs.out]
  have bR2 := bR.below (alQ W1 (.cells #[.slice ao bs.length cap, .int .i64 0, .int .u64 0] 71))
  refine (cur_voters W1 _ bs _ 0 _ HV.out hl hc (by omega)).mono ?_
  rintro e w3 ⟨p, q, d, rfl, ho, hx1, hx2, k3, t3⟩
  obtain ⟨aw, kw, aq, kq, rfl, rfl⟩ := ho.at_.form
  have bR3 := OutOf.box t3 bR2 (.inl bR.1)
  have hs3 := k3.lt
  have D4 : DrvAt W1 (.slice ao bs.length cap) (w3.alloc (.cells #[.slice aw d.weights.length kw, .slice aq d.proxies.length kq] 29)) W1.heap.size (0 + 200) w.heap.size w3.heap.size (.slice aw d.weights.length kw) (.slice aq d.proxies.length kq) d :=
    ⟨k3.step (alQ _ _), bR3.below (alQ _ _), BoxAt.new _ _ _, ((ho.base (by simp)).toR).keep (below_same (alQ w3 _) (Nat.le_refl _)), bR.1, hs3⟩
  clear hc bR2 ho bR3 k3 t3
  go_upto_region 3 with fail
  have hq4 : (w3.alloc (.cells #[.slice aw d.weights.length kw, .slice aq d.proxies.length kq] 29)).heap.size = w3.heap.size + 1 := by simp
  generalize (w3.alloc (.cells #[.slice aw d.weights.length kw, .slice aq d.proxies.length kq] 29)) = w4 at D4 hq4 ⊢
  generalize w3.heap.size = s at *
  generalize hbq : W1.heap.size = b at *
  have hrs := D4.ord
  have hb4 := D4.cur.lt
  have hs4 := D4.box.1
  have hbx : b ≠ w.heap.size := by omega
  have hsx : s ≠ w.heap.size := by omega
  have hsx2 : w.heap.size ≠ s := by omega
  have c4 := D4.box.cells
  have rR4 := D4.res.cells
  have fR4 := D4.res.free
  have hEn := enters_of Try.func69 (by kernel_rfl) (by kernel_rfl)
  have HEN := Lib.hid hEn; clear hEn
  go_region_law (first
    | ((with_reducible change ite (Region.wanted (Oper.mk (some 15) _ _ _ _ _) _ = true) _ _); (refine step_call2 (by rfl) 69 (.tmp 13) (.tmp 14) _ _ (by rfl) HEN.out (.pointer (some ⟨b, 0, none⟩)) (vVoters (.slice aw d.weights.length kw) (.slice aq d.proxies.length kq)) (by rfl) (by rfl) ?_);
       (refine (cur_voter W1 _ bs b _ _ _ d _ HV.out hl ((D4.step (by first | exact Below.refl _ _ | exact Below.drew (Below.refl _ _))).cur) (by omega) ((D4.step (by first | exact Below.refl _ _ | exact Below.drew (Below.refl _ _))).own.at_) (by omega)).mono ?_);
       (rintro e w5 ⟨x, rfl, k5, t5⟩); (refine ⟨_, rfl, ?_⟩);
       (have D5 := (D4.step (by first | exact Below.refl _ _ | exact Below.drew (Below.refl _ _))).went k5 t5); (have cD5 := D5.box.cells); (have rD5 := D5.res.cells); (have fD5 := D5.res.free))
    | ((with_reducible change ite (Region.wanted (Oper.mk (some 18) _ _ _ _ _) _ = true) _ _); (refine step_call2 (by rfl) 69 (.tmp 16) (.tmp 17) _ _ (by rfl) HEN.out (.pointer (some ⟨b, 0, none⟩)) (vVoters (.slice aw d.weights.length kw) (.slice aq d.proxies.length kq)) (by rfl) (by rfl) ?_);
       (refine (cur_voter W1 _ bs b _ _ _ d _ HV.out hl ((D5.step (by first | exact Below.refl _ _ | exact Below.drew (Below.refl _ _))).cur) (by omega) ((D5.step (by first | exact Below.refl _ _ | exact Below.drew (Below.refl _ _))).own.at_) (by omega)).mono ?_);
       (rintro e w6 ⟨y, rfl, k5, t5⟩); (refine ⟨_, rfl, ?_⟩);
       (have D6 := (D5.step (by first | exact Below.refl _ _ | exact Below.drew (Below.refl _ _))).went k5 t5); (have cD6 := D6.box.cells); (have rD6 := D6.res.cells); (have fD6 := D6.res.free))
    | ((with_reducible change ite (Region.wanted (Oper.mk (some 18) _ _ _ _ _) _ = true) _ _); (refine step_call2 (by rfl) 69 (.tmp 16) (.tmp 17) _ _ (by rfl) HEN.out (.pointer (some ⟨b, 0, none⟩)) (vVoters (.slice aw d.weights.length kw) (.slice aq d.proxies.length kq)) (by rfl) (by rfl) ?_);
       (refine (cur_voter W1 _ bs b _ _ _ d _ HV.out hl ((D4.step (by first | exact Below.refl _ _ | exact Below.drew (Below.refl _ _))).cur) (by omega) ((D4.step (by first | exact Below.refl _ _ | exact Below.drew (Below.refl _ _))).own.at_) (by omega)).mono ?_);
       (rintro e w5 ⟨y, rfl, k5, t5⟩); (refine ⟨_, rfl, ?_⟩);
       (have D5 := (D4.step (by first | exact Below.refl _ _ | exact Below.drew (Below.refl _ _))).went k5 t5); (have cD5 := D5.box.cells); (have rD5 := D5.res.cells); (have fD5 := D5.res.free))
    | ((with_reducible change ite (Region.wanted (Oper.mk (some 15) _ _ _ _ _) _ = true) _ _); (refine step_call2 (by rfl) 69 (.tmp 13) (.tmp 14) _ _ (by rfl) HEN.out (.pointer (some ⟨b, 0, none⟩)) (vVoters (.slice aw d.weights.length kw) (.slice aq d.proxies.length kq)) (by rfl) (by rfl) ?_);
       (refine (cur_voter W1 _ bs b _ _ _ d _ HV.out hl ((D5.step (by first | exact Below.refl _ _ | exact Below.drew (Below.refl _ _))).cur) (by omega) ((D5.step (by first | exact Below.refl _ _ | exact Below.drew (Below.refl _ _))).own.at_) (by omega)).mono ?_);
       (rintro e w6 ⟨x, rfl, k5, t5⟩); (refine ⟨_, rfl, ?_⟩);
       (have D6 := (D5.step (by first | exact Below.refl _ _ | exact Below.drew (Below.refl _ _))).went k5 t5); (have cD6 := D6.box.cells); (have rD6 := D6.res.cells); (have fD6 := D6.res.free)))
  all_goals
    go_wp2_with fail
    refine bodyPost_ret (v := .tuple #[vVoters (.slice aw d.weights.length kw) (.slice aq d.proxies.length kq), .int .i64 x, .int .i64 y]) (by simp [results, Try.results35, go_sem, rD6]) rfl ⟨_, _, d, x, y, rfl, ?_⟩
    have hL := fun wf ho => DrvAt.last (w := w) (w2 := wf) D6 HWb.out ho
    refine ⟨(hL _ ?_).1, hx1, hx2, (hL _ ?_).2⟩
    all_goals repeat (first | with_reducible exact OutOf.refl _ _ _ | with_reducible refine OutOf.drew' ?_ | with_reducible refine OutOf.set ?_ _)

set_option maxRecDepth 100000 in
set_option maxHeartbeats 4000000 in
theorem draw_WeightPresent (cv : Value) (bs : List Int) (w : World) (hv : BytesAt w cv bs) (hl : bs.length ≤ 65537) :
    Calls Try.prog 19 #[cv] w fun e w' => ∃ p q d u am, e = .returned (.tuple #[vVoters p q, u]) ∧ OwnV w' w.heap.size p q d ∧ IntsAt w' u am ∧ am.length ≤ 40 ∧ d.weights.length ≤ 20 ∧ d.proxies.length ≤ 20 ∧ Below w.heap.size w w' := by
  obtain ⟨ao, cap, rfl⟩ := hv.1.form
  obtain ⟨W1, hW1⟩ : ∃ W1, W1 = w.alloc (.cells #[.slice none 0 0, .slice none 0 0] 29) := ⟨_, rfl⟩
  have bR : BoxAt W1 w.heap.size #[.slice none 0 0, .slice none 0 0] := by rw [hW1]; exact BoxAt.new _ _ _
  have hWb : Below w.heap.size w W1 := by rw [hW1]; exact alQ _ _
  have hWs : W1.heap.size = w.heap.size + 1 := by rw [hW1]; simp
  have HV : Hid (BytesAt W1 (.slice ao bs.length cap) bs) := hv.below hWb
  have HW1 := Lib.hid hW1; have HWs := Lib.hid hWs; have HWb := Lib.hid hWb
  have hc := cur_new (.slice ao bs.length cap) W1
  clear hW1 hWs hv
  go_enter Try.func19, Try.ntmps19
  go_wp2_with fail
  rw [← HW1.out, ← HWs.out]
  have bR2 := bR.below (alQ W1 (.cells #[.slice ao bs.length cap, .int .i64 0, .int .u64 0] 71))
  refine (cur_voters W1 _ bs _ 0 _ HV.out hl hc (by omega)).mono ?_
  rintro e w3 ⟨p, q, d, rfl, ho, hx1, hx2, k3, t3⟩
  obtain ⟨aw, kw, aq, kq, rfl, rfl⟩ := ho.at_.form
  have bR3 := OutOf.box t3 bR2 (.inl bR.1)
  have hs3 := k3.lt
  have D4 : DrvAt W1 (.slice ao bs.length cap) (w3.alloc (.cells #[.slice aw d.weights.length kw, .slice aq d.proxies.length kq] 29)) W1.heap.size (0 + 200) w.heap.size w3.heap.size (.slice aw d.weights.length kw) (.slice aq d.proxies.length kq) d :=
    ⟨k3.step (alQ _ _), bR3.below (alQ _ _), BoxAt.new _ _ _, ((ho.base (by simp)).toR).keep (below_same (alQ w3 _) (Nat.le_refl _)), bR.1, hs3⟩
  clear hc bR2 ho bR3 k3 t3
  go_upto_region 4 with fail
  have hq4 : (w3.alloc (.cells #[.slice aw d.weights.length kw, .slice aq d.proxies.length kq] 29)).heap.size = w3.heap.size + 1 := by simp
  generalize (w3.alloc (.cells #[.slice aw d.weights.length kw, .slice aq d.proxies.length kq] 29)) = w4 at D4 hq4 ⊢
  generalize w3.heap.size = s at *
  generalize hbq : W1.heap.size = b at *
  have hrs := D4.ord
  have hb4 := D4.cur.lt
  have hs4 := D4.box.1
  have hbx : b ≠ w.heap.size := by omega
  have hsx : s ≠ w.heap.size := by omega
  have hsx2 : w.heap.size ≠ s := by omega
  have hl0 := own_lit0 w4 3
  rw [hq4] at hl0
  have HL := Lib.hid hl0
  have D5 := D4.step (alQ w4 (.cells #[] 3))
  have hO : OwnInts (w4.alloc (.cells #[] 3)) (s + 1) (.slice (some ⟨s + 1, 0, none⟩) 0 0) [] := HL.out
  clear D4 hl0 hq4
  go_wp2_with fail
  go_loopw [6, 7] (fun o v wr => ∃ (i : Nat) (am : List Int), i ≤ d.weights.length ∧ am.length ≤ i ∧ v = .int .i64 i ∧ OwnInts wr (s + 1) o am ∧ DrvAt W1 (.slice ao bs.length cap) wr b (0 + 200 + 2 * i) w.heap.size s (.slice aw d.weights.length kw) (.slice aq d.proxies.length kq) d) (fun _ v _ => d.weights.length - (intOf v).toNat)
  case atStart => exact ⟨0, [], by omega, by simp, rfl, hO, D5.more (by omega)⟩
  case round =>
    rename World => wa
    clear HL D5 hO hb4 hs4
    obtain ⟨i, am, hi, ham, rfl, ho, D⟩ := hrel
    obtain ⟨au, ku, rfl⟩ := (OwnI.at_ ho : IntsAt wa _ am).form
    have cD := D.box.cells
    by_cases hlt : i < d.weights.length
    · have hltI : (i : Int) < (d.weights.length : Int) := by omega
      go_wp2_with fail
      refine (cur_one W1 _ bs b _ 2 _ HV.out hl D.cur (by omega) (by omega)).mono ?_
      rintro e w6 ⟨x, rfl, k6, t6⟩
      have D6 := D.went k6 t6
      have ho6 := own_outQ ho t6 (by omega)
      clear D ho cD k6 t6
      cases x with
      | false =>
        go_wp2_with fail
        go_roundw
        case rel => exact ⟨i + 1, am, by omega, by omega, by go_num, ho6, D6.more (by omega)⟩
        case measure => simp [intOf]; omega
      | true =>
        have hs6 := D6.box.1
        go_wp2_with (at_builtin; refine wpList_push_int rfl (.tmp 23) (.tmp 25) _ rfl _ 3 _ int_info Try.underlying22 _ am (i : Int) rfl ho6 rfl hs6 (by omega) ?_; intro u7 w7 ho7 hb7)
        go_roundw
        case rel => exact ⟨i + 1, am ++ [(i : Int)], by omega, by simp; omega, by go_num, ho7, (D6.keep hb7).more (by omega)⟩
        case measure => simp [intOf]; omega
    · have hltI : ¬ (i : Int) < (d.weights.length : Int) := by omega
      go_wp2_with fail
      refine (cur_one W1 _ bs b _ 16 _ HV.out hl D.cur (by omega) (by omega)).mono ?_
      rintro e w6 ⟨x, rfl, k6, t6⟩
      have D6 := D.went k6 t6
      have ho6 := own_outQ ho t6 (by omega)
      clear D ho cD k6 t6 hlt hltI
      cases x with
      | false =>
        have rR := D6.res.cells; have fR := D6.res.free; have cB := D6.box.cells
        go_wp2_with fail
        refine bodyPost_ret (v := .tuple #[vVoters (.slice aw d.weights.length kw) (.slice aq d.proxies.length kq), (.slice au am.length ku)]) (by simp [results, Try.results19, go_sem, rR, hsx, hsx2]) rfl ⟨_, _, d, _, am, rfl, ?_⟩
        have hL := fun wf ho => DrvAt.last (w := w) (w2 := wf) D6 HWb.out ho
        have hI : ∀ wf, OutOf w.heap.size (w.heap.size + 1) _ wf → IntsAt wf (.slice au am.length ku) (am) := fun wf ho' => OwnI.at_ (own_outQ ho6 ho' (by omega))
        refine ⟨(hL _ ?_).1, hI _ ?_, by first | omega | (simp; omega), hx1, hx2, (hL _ ?_).2⟩
        all_goals repeat (first | with_reducible exact OutOf.refl _ _ _ | with_reducible refine OutOf.drew' ?_ | with_reducible refine OutOf.set ?_ _)
      | true =>
        have c6 := D6.box.cells
        have hs6 := D6.box.1
        go_wp2_with (first
          | (go_at_call 58; refine (cur_among W1 _ bs b _ _ [0, (d.weights.length : Int)] _ HV.out hl ((D6.step (alQ _ _)).cur) (by omega) (own_base (own_litL _ 3 [0, (d.weights.length : Int)] (by simp)) (by omega)) (by simp) (by simp)).mono ?_; rintro e w7 ⟨y, rfl, hy, k7, t7⟩; have D7 := (D6.step (alQ _ _)).went k7 t7; have ho7 := own_outQ (OwnI.below ho6 (alQ _ _)) t7 (by omega); have hs7 := D7.box.1)
          | (at_builtin; refine wpList_push_int rfl (.tmp 29) (.tmp 36) _ rfl _ 3 _ int_info Try.underlying22 _ am y rfl ho7 rfl hs7 (by omega) ?_; intro u8 w8 ho8 hb8; obtain ⟨a8, k8, hu8⟩ := (OwnI.at_ ho8 : IntsAt w8 u8 (am ++ [y])).form; rw [List.length_append, List.length_singleton] at hu8; subst hu8; have D8 := D7.keep hb8; have rR := D8.res.cells; have fR := D8.res.free; have cB := D8.box.cells))
        refine bodyPost_ret (v := .tuple #[vVoters (.slice aw d.weights.length kw) (.slice aq d.proxies.length kq), (.slice a8 (am.length + 1) k8)]) (by simp [results, Try.results19, go_sem, rR, hsx, hsx2]) rfl ⟨_, _, d, _, am ++ [y], rfl, ?_⟩
        have hL := fun wf ho => DrvAt.last (w := w) (w2 := wf) D8 HWb.out ho
        have hI : ∀ wf, OutOf w.heap.size (w.heap.size + 1) _ wf → IntsAt wf (.slice a8 (am.length + 1) k8) (am ++ [y]) := fun wf ho' => OwnI.at_ (own_outQ ho8 ho' (by omega))
        refine ⟨(hL _ ?_).1, hI _ ?_, by first | omega | (simp; omega), hx1, hx2, (hL _ ?_).2⟩
        all_goals repeat (first | with_reducible exact OutOf.refl _ _ _ | with_reducible refine OutOf.drew' ?_ | with_reducible refine OutOf.set ?_ _)


set_option maxRecDepth 100000 in
set_option maxHeartbeats 4000000 in
theorem draw_CastVotes (cv : Value) (bs : List Int) (w : World) (hv : BytesAt w cv bs) (hl : bs.length ≤ 65537) :
    Calls Try.prog 14 #[cv] w fun e w' => ∃ p q d u am, e = .returned (.tuple #[vVoters p q, u]) ∧ OwnV w' w.heap.size p q d ∧ IntsAt w' u am ∧ am.length ≤ 40 ∧ d.weights.length ≤ 20 ∧ d.proxies.length ≤ 20 ∧ Below w.heap.size w w' := by
  obtain ⟨ao, cap, rfl⟩ := hv.1.form
  obtain ⟨W1, hW1⟩ : ∃ W1, W1 = w.alloc (.cells #[.slice none 0 0, .slice none 0 0] 29) := ⟨_, rfl⟩
  have bR : BoxAt W1 w.heap.size #[.slice none 0 0, .slice none 0 0] := by rw [hW1]; exact BoxAt.new _ _ _
  have hWb : Below w.heap.size w W1 := by rw [hW1]; exact alQ _ _
  have hWs : W1.heap.size = w.heap.size + 1 := by rw [hW1]; simp
  have HV : Hid (BytesAt W1 (.slice ao bs.length cap) bs) := hv.below hWb
  have HW1 := Lib.hid hW1; have HWs := Lib.hid hWs; have HWb := Lib.hid hWb
  have hc := cur_new (.slice ao bs.length cap) W1
  clear hW1 hWs hv
  go_enter Try.func14, Try.ntmps14
  go_wp2_with fail
  rw [← HW1.out, ← HWs.out]
  have bR2 := bR.below (alQ W1 (.cells #[.slice ao bs.length cap, .int .i64 0, .int .u64 0] 71))
  refine (cur_voters W1 _ bs _ 0 _ HV.out hl hc (by omega)).mono ?_
  rintro e w3 ⟨p, q, d, rfl, ho, hx1, hx2, k3, t3⟩
  obtain ⟨aw, kw, aq, kq, rfl, rfl⟩ := ho.at_.form
  have bR3 := OutOf.box t3 bR2 (.inl bR.1)
  have hs3 := k3.lt
  have D4 : DrvAt W1 (.slice ao bs.length cap) (w3.alloc (.cells #[.slice aw d.weights.length kw, .slice aq d.proxies.length kq] 29)) W1.heap.size (0 + 200) w.heap.size w3.heap.size (.slice aw d.weights.length kw) (.slice aq d.proxies.length kq) d :=
    ⟨k3.step (alQ _ _), bR3.below (alQ _ _), BoxAt.new _ _ _, ((ho.base (by simp)).toR).keep (below_same (alQ w3 _) (Nat.le_refl _)), bR.1, hs3⟩
  clear hc bR2 ho bR3 k3 t3
  go_upto_region 4 with fail
  have hq4 : (w3.alloc (.cells #[.slice aw d.weights.length kw, .slice aq d.proxies.length kq] 29)).heap.size = w3.heap.size + 1 := by simp
  generalize (w3.alloc (.cells #[.slice aw d.weights.length kw, .slice aq d.proxies.length kq] 29)) = w4 at D4 hq4 ⊢
  generalize w3.heap.size = s at *
  generalize hbq : W1.heap.size = b at *
  have hrs := D4.ord
  have hb4 := D4.cur.lt
  have hs4 := D4.box.1
  have hbx : b ≠ w.heap.size := by omega
  have hsx : s ≠ w.heap.size := by omega
  have hsx2 : w.heap.size ≠ s := by omega
  have hl0 := own_lit0 w4 3
  rw [hq4] at hl0
  have HL := Lib.hid hl0
  have D5 := D4.step (alQ w4 (.cells #[] 3))
  have hO : OwnInts (w4.alloc (.cells #[] 3)) (s + 1) (.slice (some ⟨s + 1, 0, none⟩) 0 0) [] := HL.out
  clear D4 hl0 hq4
  go_wp2_with fail
  go_loopw [6, 7] (fun o v wr => ∃ (i : Nat) (am : List Int), i ≤ d.weights.length ∧ am.length ≤ i ∧ v = .int .i64 i ∧ OwnInts wr (s + 1) o am ∧ DrvAt W1 (.slice ao bs.length cap) wr b (0 + 200 + 2 * i) w.heap.size s (.slice aw d.weights.length kw) (.slice aq d.proxies.length kq) d) (fun _ v _ => d.weights.length - (intOf v).toNat)
  case atStart => exact ⟨0, [], by omega, by simp, rfl, hO, D5.more (by omega)⟩
  case round =>
    rename World => wa
    clear HL D5 hO hb4 hs4
    obtain ⟨i, am, hi, ham, rfl, ho, D⟩ := hrel
    obtain ⟨au, ku, rfl⟩ := (OwnI.at_ ho : IntsAt wa _ am).form
    have cD := D.box.cells
    by_cases hlt : i < d.weights.length
    · have hltI : (i : Int) < (d.weights.length : Int) := by omega
      go_wp2_with fail
      refine (cur_pick W1 _ bs b _ 4 _ HV.out hl D.cur (by omega) (by omega)).mono ?_
      rintro e w6 ⟨x, rfl, x0, x1, x2, k6, t6⟩
      have D6 := D.went k6 t6
      have ho6 := own_outQ ho t6 (by omega)
      have hs6 := D6.box.1
      clear D ho cD k6 t6
      go_wp2_with (at_builtin; refine wpList_push_int rfl (.tmp 21) (.tmp 24) _ rfl _ 3 _ int_info Try.underlying22 _ am x rfl ho6 rfl hs6 (by omega) ?_; intro u7 w7 ho7 hb7)
      go_roundw
      case rel => exact ⟨i + 1, am ++ [x], by omega, by simp; omega, by go_num, ho7, (D6.keep hb7).more (by omega)⟩
      case measure => simp [intOf]; omega
    · have hltI : ¬ (i : Int) < (d.weights.length : Int) := by omega
      go_wp2_with fail
      refine (cur_pick W1 _ bs b _ 24 _ HV.out hl D.cur (by omega) (by omega)).mono ?_
      rintro e w6 ⟨x, rfl, x0, x1, x2, k6, t6⟩
      have D6 := D.went k6 t6
      have ho6 := own_outQ ho t6 (by omega)
      have hs6 := D6.box.1
      clear D ho cD k6 t6 hlt hltI x1 x2
      by_cases x10 : x = 0
      · subst x10
        go_wp2_with (at_builtin; refine wpList_push_int rfl (.tmp 30) (.tmp 31) _ rfl _ 3 _ int_info Try.underlying22 _ am 0 rfl ho6 rfl hs6 (by omega) ?_; intro u8 w8 ho8 hb8; obtain ⟨a8, k8, hu8⟩ := (OwnI.at_ ho8 : IntsAt w8 u8 (am ++ [0])).form; rw [List.length_append, List.length_singleton] at hu8; subst hu8; have D8 := D6.keep hb8; have rR := D8.res.cells; have fR := D8.res.free; have cB := D8.box.cells)
        refine bodyPost_ret (v := .tuple #[vVoters (.slice aw d.weights.length kw) (.slice aq d.proxies.length kq), (.slice a8 (am.length + 1) k8)]) (by simp [results, Try.results14, go_sem, rR, hsx, hsx2]) rfl ⟨_, _, d, _, am ++ [0], rfl, ?_⟩
        have hL := fun wf ho => DrvAt.last (w := w) (w2 := wf) D8 HWb.out ho
        have hI : ∀ wf, OutOf w.heap.size (w.heap.size + 1) _ wf → IntsAt wf (.slice a8 (am.length + 1) k8) (am ++ [0]) := fun wf ho' => OwnI.at_ (own_outQ ho8 ho' (by omega))
        refine ⟨(hL _ ?_).1, hI _ ?_, by first | omega | (simp; omega), hx1, hx2, (hL _ ?_).2⟩
        all_goals repeat (first | with_reducible exact OutOf.refl _ _ _ | with_reducible refine OutOf.drew' ?_ | with_reducible refine OutOf.set ?_ _)
      · have xb0 : (x == 0) = false := by simp [x10]
        by_cases x11 : x = 1
        · subst x11
          by_cases h0 : am.length = 0
          · have hz : ¬ (0 : Int) < (am.length : Int) := by omega
            have HZ := Lib.hid h0; clear h0
            have rR := D6.res.cells; have fR := D6.res.free; have cB := D6.box.cells
            go_wp2_with fail
            refine bodyPost_ret (v := .tuple #[vVoters (.slice aw d.weights.length kw) (.slice aq d.proxies.length kq), (.slice au am.length ku)]) (by simp [results, Try.results14, go_sem, rR, hsx, hsx2]) rfl ⟨_, _, d, _, am, rfl, ?_⟩
            have hL := fun wf ho => DrvAt.last (w := w) (w2 := wf) D6 HWb.out ho
            have hI : ∀ wf, OutOf w.heap.size (w.heap.size + 1) _ wf → IntsAt wf (.slice au am.length ku) (am) := fun wf ho' => OwnI.at_ (own_outQ ho6 ho' (by omega))
            refine ⟨(hL _ ?_).1, hI _ ?_, by first | omega | (simp; omega), hx1, hx2, (hL _ ?_).2⟩
            all_goals repeat (first | with_reducible exact OutOf.refl _ _ _ | with_reducible refine OutOf.drew' ?_ | with_reducible refine OutOf.set ?_ _)
          · have hz : (0 : Int) < (am.length : Int) := by omega
            obtain ⟨g, cap', cur', hve, hg1, hg2, hg3⟩ : ∃ g cap' cur', (Value.slice au am.length ku) = .slice (some ⟨g, 0, none⟩) am.length cap' ∧ s + 1 ≤ g ∧ w6.heap[g]? = some cur' ∧ g < w6.heap.size := by
              rcases ho6.2 with ⟨_, h9⟩ | ⟨g, cap', cur', hve, h1, h2, _⟩
              · exact absurd h9 h0
              · exact ⟨g, cap', _, hve, h1, h2, (Array.getElem?_eq_some_iff.1 h2).1⟩
            cases hve
            have HN0 := Lib.hid h0; clear h0
            go_wp2_with (go_at_call 58; refine (cur_among W1 _ bs b _ _ [-1, 4] _ HV.out hl ((D6.step (alQ _ _)).cur) (by omega) (own_base (own_litL _ 3 [-1, 4] (by simp)) (by omega)) (by simp) (by simp)).mono ?_; rintro e w7 ⟨y, rfl, hy, k7, t7⟩; have D7 := (D6.step (alQ _ _)).went k7 t7; have ho7 := own_outQ (OwnI.below ho6 (alQ _ _)) t7 (by omega); have hf7 := ho7.frozenAt 0; have hc7 := ho7.cellAt 0 (by omega); rw [List.getElem?_eq_getElem (by simp [ints]; omega)] at hc7; have ho8 : OwnInts (w7.setCell ⟨g, 0, none⟩ (.int .i64 y)) (s + 1) (.slice (some ⟨g, 0, none⟩) am.length ku) (am.set 0 y) := (by have := (ho7.stored 0 (.int .i64 y)).1; rw [ints_setx] at this; show World.ownsRow _ _ _ 1 _ (am.set 0 y).length (ints (am.set 0 y)); rw [List.length_set]; exact this); have D8 : DrvAt W1 (.slice ao bs.length cap) (w7.setCell ⟨g, 0, none⟩ (.int .i64 y)) b _ w.heap.size s (.slice aw d.weights.length kw) (.slice aq d.proxies.length kq) d := D7.keep ((Below.refl _ _).setCell (p := ⟨g, 0, none⟩) (by omega) _); have rR := D8.res.cells; have fR := D8.res.free; have cB := D8.box.cells)
            refine bodyPost_ret (v := .tuple #[vVoters (.slice aw d.weights.length kw) (.slice aq d.proxies.length kq), (.slice (some ⟨g, 0, none⟩) am.length ku)]) (by simp [results, Try.results14, go_sem, rR, hsx, hsx2]) rfl ⟨_, _, d, _, am.set 0 y, rfl, ?_⟩
            have hL := fun wf ho => DrvAt.last (w := w) (w2 := wf) D8 HWb.out ho
            have hI : ∀ wf, OutOf w.heap.size (w.heap.size + 1) _ wf → IntsAt wf (.slice (some ⟨g, 0, none⟩) am.length ku) (am.set 0 y) := fun wf ho' => OwnI.at_ (own_outQ ho8 ho' (by omega))
            refine ⟨(hL _ ?_).1, hI _ ?_, by first | omega | (simp; omega), hx1, hx2, (hL _ ?_).2⟩
            all_goals repeat (first | with_reducible exact OutOf.refl _ _ _ | with_reducible refine OutOf.drew' ?_ | with_reducible refine OutOf.set ?_ _)
        · have xb1 : (x == 1) = false := by simp [x11]
          have rR := D6.res.cells; have fR := D6.res.free; have cB := D6.box.cells
          go_wp2_with fail
          refine bodyPost_ret (v := .tuple #[vVoters (.slice aw d.weights.length kw) (.slice aq d.proxies.length kq), (.slice au am.length ku)]) (by simp [results, Try.results14, go_sem, rR, hsx, hsx2]) rfl ⟨_, _, d, _, am, rfl, ?_⟩
          have hL := fun wf ho => DrvAt.last (w := w) (w2 := wf) D6 HWb.out ho
          have hI : ∀ wf, OutOf w.heap.size (w.heap.size + 1) _ wf → IntsAt wf (.slice au am.length ku) (am) := fun wf ho' => OwnI.at_ (own_outQ ho6 ho' (by omega))
          refine ⟨(hL _ ?_).1, hI _ ?_, by first | omega | (simp; omega), hx1, hx2, (hL _ ?_).2⟩
          all_goals repeat (first | with_reducible exact OutOf.refl _ _ _ | with_reducible refine OutOf.drew' ?_ | with_reducible refine OutOf.set ?_ _)


end Go.Proofs.Ytapkicfbknoioaa
