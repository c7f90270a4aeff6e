/- Contracts: the draws of committees with a name, a person, people. Condition: fewer than a thousand million choices. -/
import Derived.Test.YtpjmcjdnobihbaaDrawM
namespace Go.Proofs.Ytpjmcjdnobihbaa
open Go.RowKit
set_option linter.unusedVariables false
set_option linter.unusedSimpArgs false

theorem LooseC.get {w : World} {B : Nat} {ao : Option Addr} {cap : Nat} {cs : List DCommittee} (h : LooseC w B (.slice ao cs.length cap) cs) {k : Nat} (hk : k < cs.length) :
    ∃ b off u, ao = some ⟨b, off, none⟩ ∧ b < w.heap.size ∧ OwnInts w B u cs[k].members ∧ w.cell? ⟨b, off + k * 3, none⟩ = some (.string cs[k].name) ∧ w.cell? ⟨b, off + k * 3 + 1, none⟩ = some u ∧ w.cell? ⟨b, off + k * 3 + 2, none⟩ = some (.int .i64 cs[k].head) := by
  obtain ⟨es, he, h2, h3, _⟩ := h
  obtain ⟨_, ao', cap', hs, _, _, q3⟩ := rowAt_of_own h2
  have hke : k < es.length := by rw [← he] at hk; simpa using hk
  obtain ⟨b, off, rfl, hb, hc⟩ := q3 (by omega)
  simp only [Value.slice.injEq] at hs
  obtain ⟨rfl, _, _⟩ := hs
  have hx : cs[k] = es[k].2 := by subst he; simp
  have h4 := fun j hj => CellsAt.flat (fun p : Value × DCommittee => ccell p.1 p.2) 3 (fun p => rfl) hc hke j hj
  refine ⟨b, off, es[k].1, rfl, hb, by rw [hx]; exact h3 _ (List.getElem_mem hke), ?_⟩
  rw [hx]
  exact ⟨by have := h4 0 (by omega); rwa [Nat.add_zero] at this, h4 1 (by omega), h4 2 (by omega)⟩

set_option maxHeartbeats 1000000 in
theorem cur_person (W0 : World) (cv : Value) (bs : List Int) (b m : Nat) (w : World) (hv : BytesAt W0 cv bs) (hl : bs.length ≤ 65537) (h : CurAt W0 cv w b m) (hm : m ≤ 800000000) :
    Calls Try.prog 45 #[.pointer (some ⟨b, 0, none⟩)] w fun e w' => ∃ x : Int, e = .returned (.int .i64 x) ∧ CurAt W0 cv w' b (m + 4) ∧ CurTo b w w' := by
  have hbw := h.lt
  have hbB : b + 1 ≤ w.heap.size := hbw
  have hlit := own_litL w 3 [1, 2, 3, 4, 5, 99, 0, 100] (by simp)
  have h0 := h.step (alQ w (.cells (ints [1, 2, 3, 4, 5, 99, 0, 100]).toArray 3))
  have HV := Lib.hid hv; clear hv
  go_enter Try.func45, Try.ntmps45
  go_wp2_with fail
  refine (cur_pick W0 cv bs b m 24 _ HV.out hl h0 (by omega) (by omega)).mono ?_
  rintro e w1 ⟨x, rfl, x0, x1, x2, k1, t1⟩
  have x1' := x1 (by omega)
  have ho1 := own_outQ hlit t1 hbB
  obtain ⟨d, hd, hd2⟩ : ∃ d : Nat, (6 : Int) + x / 11 = (d : Int) ∧ 6 ≤ d ∧ d ≤ 8 := ⟨(6 + x / 11).toNat, by omega, by omega, by omega⟩
  have hcut : OwnInts w1 w.heap.size (.slice (some ⟨w.heap.size, 0, none⟩) d 8) ([1, 2, 3, 4, 5, 99, 0, 100].take d) := by
    have h1 := own_cut (m := d) ho1 (by simp; omega) (by simp)
    have h2 : ([1, 2, 3, 4, 5, 99, 0, 100].take d : List Int).length = d := by simp; omega
    unfold OwnInts OwnI
    rw [h2]
    have h3 : (ints [1, 2, 3, 4, 5, 99, 0, 100]).take (d * 1) = ints ([1, 2, 3, 4, 5, 99, 0, 100].take d) := by rw [Nat.mul_one]; simp [ints, List.map_take]
    rw [h3] at h1
    exact h1
  have hd0 : (0 : Int) ≤ (d : Int) := by omega
  have hd1 : (d : Int) ≤ 8 := by omega
  have T1 : CurTo b w w1 := (curTo_of (alQ w _)).trans t1
  clear ho1 hlit
  go_wp2_with (go_at_call 75; refine (cur_among W0 cv bs b _ _ ([1, 2, 3, 4, 5, 99, 0, 100].take d) _ HV.out hl k1 (by omega) (own_base hcut hbB) (by simp; omega) (by simp; omega)).mono ?_; rintro e w2 ⟨y, rfl, hy, k2, t2⟩)
  go_ret
  exact ⟨y, rfl, k2.more (by omega), T1.trans t2⟩

def namesQ : List ByteArray := [⟨#[122, 122]⟩, ⟨#[]⟩, ⟨#[65]⟩, ⟨#[109, 97, 105, 110]⟩]
set_option maxHeartbeats 2000000 in
theorem cur_committeeName (W0 : World) (cv : Value) (bs : List Int) (b m : Nat) (v : Value) (cs : List DCommittee) (w : World) (hv : BytesAt W0 cv bs) (hl : bs.length ≤ 65537) (h : CurAt W0 cv w b m) (hm : m ≤ 800000000)
    (hL : LooseC w (b + 1) v cs) (hS : SmallC 9 cs) :
    Calls Try.prog 44 #[.pointer (some ⟨b, 0, none⟩), v] w fun e w' => ∃ x : ByteArray, e = .returned (.string x) ∧ x.size ≤ 10 ∧ CurAt W0 cv w' b (m + 4) ∧ CurTo b w w' := by
  have hbw := h.lt
  have hsz : ∀ x ∈ namesQ, x.size ≤ 10 := by decide
  have hSz := hS.2
  have hln := hS.1
  obtain ⟨ao, cap, rfl⟩ := hL.form
  have HV := Lib.hid hv; clear hv
  by_cases h0 : 0 < cs.length
  · have h0I : ((cs.length : Int) == 0) = false := by rw [beq_eq_false_iff_ne]; omega
    go_enter Try.func44, Try.ntmps44
    go_wp2_with fail
    refine (cur_one W0 cv bs b _ 6 _ HV.out hl h (by omega) (by omega)).mono ?_
    rintro e w1 ⟨x, rfl, k1, t1⟩
    cases x with
    | true =>
      go_wp2_with (go_at_call 74; refine (cur_of W0 cv bs b _ _ namesQ _ HV.out hl (k1.step (alQ _ _)) (by omega) (own_base (own_litS _ namesQ (by decide)) (by have := k1.lt; omega)) (by decide) (by decide)).mono ?_; rintro e w2 ⟨y, rfl, hy, k2, t2⟩)
      go_ret
      exact ⟨y, rfl, hsz y hy, k2.more (by omega), t1.trans ((curTo_of (alQ w1 _)).trans t2)⟩
    | false =>
      have L1 := hL.out t1 (Nat.le_refl _)
      go_wp2_with fail
      refine (cur_pick W0 cv bs b _ (cs.length : Int) _ HV.out hl k1 (by omega) (by omega)).mono ?_
      rintro e w2 ⟨x, rfl, x0, x1, x2, k2, t2⟩
      have x1' := x1 (by omega)
      obtain ⟨k, rfl⟩ : ∃ k : Nat, x = k := ⟨x.toNat, by omega⟩
      have hk : k < cs.length := by omega
      have L2 := L1.out t2 (Nat.le_refl _)
      obtain ⟨lb, lo, u, rfl, l1, _, n1, _, _⟩ := (LooseC.at_ L2).get hk
      have hz := (hSz _ (List.getElem_mem hk)).2
      generalize cs[k] = c at *
      go_wp2_with fail
      go_ret
      exact ⟨c.name, rfl, hz, k2.more (by omega), t1.trans t2⟩
  · have h0I : ((cs.length : Int) == 0) = true := by rw [beq_iff_eq]; omega
    have hk0 := h.step (alQ w (.cells (strs namesQ).toArray 9))
    go_enter Try.func44, Try.ntmps44
    go_wp2_with (go_at_call 74; refine (cur_of W0 cv bs b _ _ namesQ _ HV.out hl (h.step (alQ _ _)) (by omega) (own_base (own_litS _ namesQ (by decide)) (by omega)) (by decide) (by decide)).mono ?_; rintro e w2 ⟨y, rfl, hy, k2, t2⟩)
    go_ret
    exact ⟨y, rfl, hsz y hy, k2.more (by omega), (curTo_of (alQ w _)).trans t2⟩

set_option maxHeartbeats 1000000 in
theorem draw_CommitteesOf (cv : Value) (bs : List Int) (w : World) (hv : BytesAt w cv bs) (hl : bs.length ≤ 65537) :
    Calls Try.prog 30 #[cv] w fun e w' => ∃ u cs p, e = .returned (.tuple #[u, .int .i64 p]) ∧ CommsAt w' u cs ∧ SmallC 9 cs ∧ Below w.heap.size w w' := by
  have hc := cur_new cv w
  obtain ⟨ao, cap, rfl⟩ := hv.1.form
  have HV := Lib.hid hv; clear hv
  go_enter Try.func30, Try.ntmps30
  go_wp2_with fail
  refine (cur_committees w _ bs _ 0 _ HV.out hl hc (by omega)).mono ?_
  rintro e w1 ⟨u, cs, rfl, ho, hs, k1, t1⟩
  obtain ⟨au, ku, rfl⟩ := ho.form
  go_wp2_with fail
  refine (cur_person w _ bs _ _ _ HV.out hl k1 (by omega)).mono ?_
  rintro e w2 ⟨p, rfl, k2, t2⟩
  have ho2 := ho.out t2 (by simp)
  go_wp2_with fail
  go_ret2
  exact ⟨_, cs, p, rfl, ho2.at_, hs, k2.below⟩

set_option maxHeartbeats 1000000 in
theorem draw_AppointMember (cv : Value) (bs : List Int) (w : World) (hv : BytesAt w cv bs) (hl : bs.length ≤ 65537) :
    Calls Try.prog 18 #[cv] w fun e w' => ∃ u cs n p, e = .returned (.tuple #[u, .string n, .int .i64 p]) ∧ CommsAt w' u cs ∧ SmallC 9 cs ∧ n.size ≤ 10 ∧ Below w.heap.size w w' := by
  have hc := cur_new cv w
  obtain ⟨ao, cap, rfl⟩ := hv.1.form
  have HV := Lib.hid hv; clear hv
  go_enter Try.func18, Try.ntmps18
  go_wp2_with fail
  refine (cur_committees w _ bs _ 0 _ HV.out hl hc (by omega)).mono ?_
  rintro e w1 ⟨u, cs, rfl, ho, hs, k1, t1⟩
  obtain ⟨au, ku, rfl⟩ := ho.form
  have ho1 := LooseN.base ho (B' := w.heap.size + 1) (by simp)
  go_wp2_with fail
  refine (cur_committeeName w _ bs _ _ _ cs _ HV.out hl k1 (by omega) ho1 hs).mono ?_
  rintro e w2 ⟨n, rfl, hn, k2, t2⟩
  have ho2 := ho1.out t2 (Nat.le_refl _)
  go_wp2_with fail
  refine (cur_person w _ bs _ _ _ HV.out hl k2 (by omega)).mono ?_
  rintro e w3 ⟨p, rfl, k3, t3⟩
  have ho3 := ho2.out t3 (Nat.le_refl _)
  go_wp2_with fail
  go_ret3
  exact ⟨_, cs, n, p, rfl, LooseC.at_ ho3, hs, hn, k3.below⟩

set_option maxHeartbeats 1000000 in
theorem draw_FormCommittee (cv : Value) (bs : List Int) (w : World) (hv : BytesAt w cv bs) (hl : bs.length ≤ 65537) :
    Calls Try.prog 27 #[cv] w fun e w' => ∃ u cs n v ms, e = .returned (.tuple #[u, .string n, v]) ∧ CommsAt w' u cs ∧ IntsAt w' v ms ∧ SmallC 9 cs ∧ n.size ≤ 10 ∧ ms.length ≤ 14 ∧ Below w.heap.size w w' := by
  have hc := cur_new cv w
  obtain ⟨ao, cap, rfl⟩ := hv.1.form
  have HV := Lib.hid hv; clear hv
  go_enter Try.func27, Try.ntmps27
  go_wp2_with fail
  refine (cur_committees w _ bs _ 0 _ HV.out hl hc (by omega)).mono ?_
  rintro e w1 ⟨u, cs, rfl, ho, hs, k1, t1⟩
  obtain ⟨au, ku, rfl⟩ := ho.form
  have ho1 := LooseN.base ho (B' := w.heap.size + 1) (by simp)
  go_wp2_with fail
  refine (cur_one w _ bs _ _ 6 _ HV.out hl k1 (by omega) (by omega)).mono ?_
  rintro e w2 ⟨x, rfl, k2, t2⟩
  have ho2 := ho1.out t2 (Nat.le_refl _)
  cases x with
  | true =>
    go_wp2_with fail
    refine (cur_committeeName w _ bs _ _ _ cs _ HV.out hl k2 (by omega) ho2 hs).mono ?_
    rintro e w3 ⟨n, rfl, hn, k3, t3⟩
    have ho3 := ho2.out t3 (Nat.le_refl _)
    go_wp2_with fail
    refine (cur_people w _ bs _ _ _ HV.out hl k3 (by omega)).mono ?_
    rintro e w4 ⟨v, ms, rfl, hM, hml, k4, t4⟩
    have ho4 := ho3.out t4 (Nat.le_refl _)
    obtain ⟨av, kv, rfl⟩ := (OwnI.at_ hM : IntsAt w4 v ms).form
    go_wp2_with fail
    go_ret3
    exact ⟨_, cs, n, _, ms, rfl, LooseC.at_ ho4, OwnI.at_ hM, hs, hn, hml, k4.below⟩
  | false =>
    go_wp2_with fail
    refine (cur_word w _ bs _ _ _ HV.out hl k2 (by omega)).mono ?_
    rintro e w3 ⟨n, rfl, hn, k3, t3⟩
    have ho3 := ho2.out t3 (Nat.le_refl _)
    go_wp2_with fail
    refine (cur_people w _ bs _ _ _ HV.out hl k3 (by omega)).mono ?_
    rintro e w4 ⟨v, ms, rfl, hM, hml, k4, t4⟩
    have ho4 := ho3.out t4 (Nat.le_refl _)
    obtain ⟨av, kv, rfl⟩ := (OwnI.at_ hM : IntsAt w4 v ms).form
    go_wp2_with fail
    go_ret3
    exact ⟨_, cs, n, _, ms, rfl, LooseC.at_ ho4, OwnI.at_ hM, hs, hn, hml, k4.below⟩

set_option maxRecDepth 100000 in
set_option maxHeartbeats 4000000 in
theorem draw_DismissMember (cv : Value) (bs : List Int) (w : World) (hv : BytesAt w cv bs) (hl : bs.length ≤ 65537) :
    Calls Try.prog 24 #[cv] w fun e w' => ∃ u cs n p, e = .returned (.tuple #[u, .string n, .int .i64 p]) ∧ CommsAt w' u cs ∧ SmallC 9 cs ∧ n.size ≤ 10 ∧ Below w.heap.size w w' := by
  have hc := cur_new cv w
  obtain ⟨ao, cap, rfl⟩ := hv.1.form
  have HV := Lib.hid hv; clear hv
  go_enter Try.func24, Try.ntmps24
  go_wp2_with fail
  refine (cur_committees w _ bs _ 0 _ HV.out hl hc (by omega)).mono ?_
  rintro e w1 ⟨u, cs, rfl, ho, hs, k1, t1⟩
  obtain ⟨au, ku, rfl⟩ := ho.form
  have ho1 := LooseN.base ho (B' := w.heap.size + 1) (by simp)
  have hln := hs.1
  have hSz := hs.2
  by_cases h0 : 0 < cs.length
  · have h0I : (0 : Int) < (cs.length : Int) := by omega
    go_wp2_with fail
    refine (cur_one w _ bs _ _ 4 _ HV.out hl k1 (by omega) (by omega)).mono ?_
    rintro e w2 ⟨x, rfl, k2, t2⟩
    have ho2 := ho1.out t2 (Nat.le_refl _)
    cases x with
    | true =>
      go_wp2_with fail
      refine (cur_committeeName w _ bs _ _ _ cs _ HV.out hl k2 (by omega) ho2 hs).mono ?_
      rintro e w8 ⟨n, rfl, hn, k8, t8⟩
      have ho8 := LooseN.out ho2 t8 (Nat.le_refl _)
      go_wp2_with fail
      refine (cur_person w _ bs _ _ _ HV.out hl k8 (by omega)).mono ?_
      rintro e w9 ⟨p, rfl, k9, t9⟩
      have ho9 := LooseN.out ho8 t9 (Nat.le_refl _)
      go_wp2_with fail
      go_ret3
      exact ⟨_, cs, n, p, rfl, LooseC.at_ ho9, hs, hn, k9.below⟩
    | false =>
      go_wp2_with fail
      refine (cur_pick w _ bs _ _ (cs.length : Int) _ HV.out hl k2 (by omega) (by omega)).mono ?_
      rintro e w3 ⟨x, rfl, x0, x1, x2, k3, t3⟩
      have x1' := x1 (by omega)
      obtain ⟨k, rfl⟩ : ∃ k : Nat, x = k := ⟨x.toNat, by omega⟩
      have hk : k < cs.length := by omega
      have ho3 : LooseC w3 (w.heap.size + 1) (.slice au cs.length ku) cs := LooseN.out ho2 t3 (Nat.le_refl _)
      obtain ⟨lb, lo, u, hau, l1, i1, n1, m1, d1⟩ := LooseC.get ho3 hk
      subst hau
      have hz := hSz _ (List.getElem_mem hk)
      generalize cs[k] = c at *
      obtain ⟨qo, qc, rfl⟩ := (OwnI.at_ i1 : IntsAt w3 u c.members).form
      clear k1 k2 ho1 ho2 ho t1 t2 t3 x1 x2
      have hs3 := k3.lt
      obtain ⟨W4, hW4⟩ : ∃ W4, W4 = w3.alloc (.cells #[.string c.name, .slice qo c.members.length qc, .int .i64 c.head] 40) := ⟨_, rfl⟩
      have hb4 : Below w3.heap.size w3 W4 := by rw [hW4]; exact alQ _ _
      have bx : BoxAt W4 w3.heap.size #[.string c.name, .slice qo c.members.length qc, .int .i64 c.head] := by rw [hW4]; exact BoxAt.new _ _ _
      have ho4 : LooseC W4 (w.heap.size + 1) (.slice (some ⟨lb, lo, none⟩) cs.length ku) cs := LooseN.below ho3 hb4
      have i4 : OwnInts W4 (w.heap.size + 1) (.slice qo c.members.length qc) c.members := OwnI.below i1 hb4
      have k4 := k3.step hb4
      have HW4 := Lib.hid hW4; clear hW4
      have hmI : (0 : Int) ≤ (c.members.length : Int) := by omega
      go_upto_region 5 with fail
      rw [← HW4.out]
      have cS := bx.cells; have fS := bx.free
      by_cases h1 : 0 < c.members.length
      · have h1I : (0 : Int) < (c.members.length : Int) := by omega
        go_upto_region 6 with fail
        have hEn := enters_of Try.func61 (by kernel_rfl) (by kernel_rfl)
        have HEN := Lib.hid hEn; clear hEn
        clear n1 m1 d1
        go_region_law (first
          | ((with_reducible change ite (Region.wanted (Oper.mk (some 42) _ _ _ _ _) _ = true) _ _); (refine step_call2 (by rfl) 61 (.tmp 38) (.tmp 41) _ _ (by rfl) HEN.out _ _ (by rfl) (by rfl) ?_);
             (refine (cur_pick w _ bs _ _ (c.members.length : Int) _ HV.out hl (k4.step (by first | exact Below.refl _ _ | exact Below.drew (Below.refl _ _))) (by omega) (by omega)).mono ?_);
             (rintro e w7 ⟨y, rfl, y0, y1, y2, k7, t7⟩); (refine ⟨_, rfl, ?_⟩);
             (have t8 : CurTo w.heap.size W4 w7 := (curTo_of (by first | exact Below.refl _ _ | exact Below.drew (Below.refl _ _))).trans t7);
             (have bx7 := OutOf.box t8 bx (.inr (by omega))); (have c7 := bx7.cells); (have y3 := y1 (by omega));
             (obtain ⟨j, rfl⟩ : ∃ j : Nat, y = j := ⟨y.toNat, by omega⟩); (have hj : j < c.members.length := by omega);
             (have ho7 := LooseN.out ho4 t8 (Nat.le_refl _));
             (have d7 : ∃ bq oq, qo = some ⟨bq, oq, none⟩ ∧ w7.cell? ⟨bq, oq + j, none⟩ = some (.int .i64 c.members[j]) ∧ (c.members.length : Int) ≤ (qc : Int) ∧ qc ≤ 9223372036854775807 := by
               obtain ⟨_, _, _, hve, q1, q2, q3⟩ := OwnI.at_ (own_outQ i4 t8 (Nat.le_refl _))
               cases hve
               obtain ⟨bq, oq, rfl, _, hcs⟩ := q3 h1
               exact ⟨bq, oq, rfl, CellsAt.int hcs hj, by have := q1; omega, by unfold maxLen at q2; omega⟩);
             (obtain ⟨bq, oq, rfl, d8, d9, d10⟩ := d7)))
        all_goals
          go_wp2_with fail
          go_ret3
          refine ⟨_, cs, c.name, c.members[j], rfl, ?_, hs, hz.2, ?_⟩
          · first | exact LooseC.at_ ho7 | exact (LooseC.at_ ho7).below (Below.drew (Below.refl _ _))
          · first | exact k7.below | exact k7.below.trans (Below.drew (Below.refl _ _))
      · have h1I : ¬ (0 : Int) < (c.members.length : Int) := by omega
        go_wp2_with fail
        refine (cur_committeeName w _ bs _ _ _ cs _ HV.out hl k4 (by omega) ho4 hs).mono ?_
        rintro e w8 ⟨n, rfl, hn, k8, t8⟩
        have ho8 := LooseN.out ho4 t8 (Nat.le_refl _)
        go_wp2_with fail
        refine (cur_person w _ bs _ _ _ HV.out hl k8 (by omega)).mono ?_
        rintro e w9 ⟨p, rfl, k9, t9⟩
        have ho9 := LooseN.out ho8 t9 (Nat.le_refl _)
        go_wp2_with fail
        go_ret3
        exact ⟨_, cs, n, p, rfl, LooseC.at_ ho9, hs, hn, k9.below⟩
  · have h0I : ¬ (0 : Int) < (cs.length : Int) := by omega
    go_wp2_with fail
    refine (cur_committeeName w _ bs _ _ _ cs _ HV.out hl k1 (by omega) ho1 hs).mono ?_
    rintro e w8 ⟨n, rfl, hn, k8, t8⟩
    have ho8 := LooseN.out ho1 t8 (Nat.le_refl _)
    go_wp2_with fail
    refine (cur_person w _ bs _ _ _ HV.out hl k8 (by omega)).mono ?_
    rintro e w9 ⟨p, rfl, k9, t9⟩
    have ho9 := LooseN.out ho8 t9 (Nat.le_refl _)
    go_wp2_with fail
    go_ret3
    exact ⟨_, cs, n, p, rfl, LooseC.at_ ho9, hs, hn, k9.below⟩

end Go.Proofs.Ytpjmcjdnobihbaa
