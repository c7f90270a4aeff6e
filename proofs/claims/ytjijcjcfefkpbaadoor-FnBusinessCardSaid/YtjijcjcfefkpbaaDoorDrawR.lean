/- Contracts: the draws of chapter 16. Condition: fewer than a thousand million choices. -/
import Derived.Test.YtjijcjcfefkpbaaDoorDrawQ
namespace Go.Proofs.YtjijcjcfefkpbaaDoor
open Go.RowKit
set_option linter.unusedVariables false
set_option linter.unusedSimpArgs false

/-- A session drawn, in its variable (block s), the result's variable in block r, the cursor in block b. -/
structure DrwAt (W0 : World) (cv : Value) (w' : World) (b m r s : Nat) (en nu de re : Int) (u : Value) (xs : List Int) : Prop where
  cur : CurAt W0 cv w' b m
  res : BoxAt w' r #[.int .i64 0, .int .i64 0, .int .i64 0, .slice none 0 0, .int .i64 0]
  box : BoxAt w' s #[.int .i64 en, .int .i64 nu, .int .i64 de, u, .int .i64 re]
  own : OwnInts w' (b + 1) u xs
  ord : r < b ∧ b < s
theorem DrwAt.step {W0 : World} {cv : Value} {w1 w2 : World} {b m r s : Nat} {en nu de re : Int} {u : Value} {xs : List Int} (h : DrwAt W0 cv w1 b m r s en nu de re u xs) (hb : Below w1.heap.size w1 w2) : DrwAt W0 cv w2 b m r s en nu de re u xs :=
  ⟨h.cur.step hb, h.res.below hb, h.box.below hb, OwnI.below h.own hb, h.ord⟩
theorem DrwAt.went {W0 : World} {cv : Value} {w1 w2 : World} {b m m' r s : Nat} {en nu de re : Int} {u : Value} {xs : List Int} (h : DrwAt W0 cv w1 b m r s en nu de re u xs) (k : CurAt W0 cv w2 b m') (t : CurTo b w1 w2) : DrwAt W0 cv w2 b m' r s en nu de re u xs :=
  ⟨k, OutOf.box t h.res (.inl h.ord.1), OutOf.box t h.box (.inr h.ord.2), own_outQ h.own t, h.ord⟩
theorem DrwAt.last {W0 : World} {cv : Value} {w w1 w2 : World} {b m s : Nat} {en nu de re : Int} {u : Value} {xs : List Int} (h : DrwAt W0 cv w1 b m w.heap.size s en nu de re u xs) (hw : Below w.heap.size w W0) (ho : OutOf w.heap.size (w.heap.size + 1) w1 w2) : OwnInts w2 w.heap.size u xs ∧ Below w.heap.size w w2 :=
  ⟨own_base (fin_own2 (lo := w.heap.size) (b := w.heap.size) h.own (Below.refl _ _) ho (by have := h.ord; omega)) (by have := h.ord; omega), (hw.trans (h.cur.below.mono hw.size)).trans (ho.below (Nat.le_refl _) (by have := h.res.1; omega))⟩
theorem ints_cutQ {w : World} {B g n c : Nat} {xs : List Int} (h : OwnInts w B (.slice (some ⟨g, 0, none⟩) n c) xs) {d : Nat} (hd : d ≤ xs.length) : OwnInts w B (.slice (some ⟨g, 0, none⟩) d c) (xs.take d) := by
  have hn : n = xs.length := by
    obtain ⟨_, ao, cp, hv, _⟩ := rowAt_of_own h
    cases hv; rfl
  subst hn
  have h1 := own_cut (m := d) h hd (by simp)
  have h2 : (xs.take d).length = d := by rw [List.length_take]; omega
  unfold OwnInts OwnI
  rw [h2]
  have h3 : (ints xs).take (d * 1) = ints (xs.take d) := by rw [Nat.mul_one]; simp [ints, List.map_take]
  rw [h3] at h1
  exact h1

set_option maxRecDepth 100000 in
set_option maxHeartbeats 2000000 in
theorem draw_IsValid (cv : Value) (bs : List Int) (w : World) (hv : BytesAt w cv bs) (hl : bs.length ≤ 65537) :
    Calls Tryd.prog 44 #[cv] w fun e w' => ∃ en nu de u xs re, e = .returned (vSess en nu de u re) ∧ OwnInts w' w.heap.size u xs ∧ xs.length ≤ 40 ∧ Below w.heap.size w w' := by
  obtain ⟨ao, cap, rfl⟩ := hv.1.form
  obtain ⟨W1, hW1⟩ : ∃ W1, W1 = w.alloc (.cells #[.int .i64 0, .int .i64 0, .int .i64 0, .slice none 0 0, .int .i64 0] 28) := ⟨_, rfl⟩
  have bR : BoxAt W1 w.heap.size #[.int .i64 0, .int .i64 0, .int .i64 0, .slice none 0 0, .int .i64 0] := by rw [hW1]; exact BoxAt.new _ _ _
  have hWb : Below w.heap.size w W1 := by rw [hW1]; exact alQ _ _
  have hWs : W1.heap.size = w.heap.size + 1 := by rw [hW1]; simp
  have HV : Hid (BytesAt W1 (.slice ao bs.length cap) bs) := hv.below hWb
  have hc := cur_new (.slice ao bs.length cap) W1
  have bR2 := bR.below (alQ W1 (.cells #[.slice ao bs.length cap, .int .i64 0, .int .u64 0] 53))
  have HW1 := Lib.hid hW1; have HWs := Lib.hid hWs; have HWb := Lib.hid hWb
  clear hW1 hWs hv
  go_enter Tryd.func44, Tryd.ntmps44
  go_wp2_with fail
  rw [← HW1.out, ← HWs.out]
  refine (cur_session W1 _ bs _ 0 _ HV.out hl hc (by omega)).mono ?_
  rintro e w3 ⟨en, nu, de, re, u, xs, rfl, ho, hx, k3, t3⟩
  obtain ⟨au, ku, rfl⟩ := ho.at_.form
  have bR3 := OutOf.box t3 bR2 (.inl bR.1)
  have rR := bR3.cells
  have fR := bR3.free
  have hs1 := bR.1
  have hb3 : Below w.heap.size w w3 := HWb.out.trans (k3.below.mono HWb.out.size)
  go_wp2_with fail
  refine bodyPost_ret (v := vSess en nu de (.slice au xs.length ku) re) (by simp [results, Tryd.results44, go_sem, rR]) rfl ⟨_, _, _, _, xs, _, rfl, ?_⟩
  have hL : ∀ wf, OutOf w.heap.size (w.heap.size + 1) w3 wf → OwnInts wf w.heap.size (.slice au xs.length ku) xs ∧ Below w.heap.size w wf := fun wf hf =>
    ⟨own_base (fin_own2 (lo := w.heap.size) (b := w.heap.size) ho (Below.refl _ _) hf (by simp; omega)) (by simp; omega), hb3.trans (hf.below (Nat.le_refl _) hb3.size)⟩
  refine ⟨(hL _ ?_).1, hx, (hL _ ?_).2⟩
  all_goals repeat (first | with_reducible exact OutOf.refl _ _ _ | with_reducible refine OutOf.set ?_ _)

end Go.Proofs.YtjijcjcfefkpbaaDoor
