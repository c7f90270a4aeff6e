/- Contracts: members in common, free slots, MeetingSlots; the reference's and the program's. No conditions beyond sizes. -/
import Derived.Test.YtpjmcjdnobihbaaCommB
import Derived.Test.YtpjmcjdnobihbaaIdxF
import Derived.Test.YtpjmcjdnobihbaaPush
namespace Go.Proofs.Ytpjmcjdnobihbaa
open Go.RowKit
set_option linter.unusedVariables false
set_option linter.unusedSimpArgs false

def shareB (a b : DCommittee) : Bool := a.members.any (fun p => hasB b.members p)

theorem i_share1 (x : Int) (B : Nat) (u : Value) (b : DCommittee) (w : World) (hc : w.cell? ⟨B, 1, none⟩ = some u) (h : IntsAt w u b.members) :
    Calls Try.prog 71 #[.int .i64 x, .pointer (some ⟨B, 0, none⟩)] w fun e w' => e = .returned (.bool (hasB b.members x)) ∧ w = w' := by
  obtain ⟨ao, cap, rfl⟩ := h.form
  go_enter Try.func71, Try.ntmps71
  go_wp2_with (go_at_call 54; refine (slices_Contains _ b.members _ _ h).mono ?_; rintro e w' ⟨rfl, rfl⟩)
  go_ret
  exact ⟨rfl, rfl⟩

set_option maxHeartbeats 1000000 in
theorem i_share (u u' : Value) (a b : DCommittee) (w : World) (h : IntsAt w u a.members) (h' : IntsAt w u' b.members) :
    Calls Try.prog 36 #[vComm u a, vComm u' b] w fun e w' => e = .returned (.bool (shareB a b)) ∧ Below w.heap.size w w' := by
  obtain ⟨ao, cap, rfl⟩ := h.form
  obtain ⟨bo, dap, rfl⟩ := h'.form
  obtain ⟨W, hW⟩ : ∃ W, W = (w.alloc (.cells #[.string a.name, .slice ao a.members.length cap, .int .i64 a.head] 40)).alloc (.cells #[.string b.name, .slice bo b.members.length dap, .int .i64 b.head] 40) := ⟨_, rfl⟩
  have bA : BoxAt W w.heap.size #[.string a.name, .slice ao a.members.length cap, .int .i64 a.head] := by rw [hW]; exact (BoxAt.new _ _ _).alloc _
  have bB : BoxAt W (w.heap.size + 1) #[.string b.name, .slice bo b.members.length dap, .int .i64 b.head] := by rw [hW]; exact BoxAt.new_at _ _ _ _ (by simp)
  have hWb : Below w.heap.size w W := by rw [hW]; go_grown
  have hI := h.below hWb
  have hI' := h'.below hWb
  have HW := Lib.hid hW; clear hW
  have hcl := ContainsFunc_int 71 (enters_of Try.func71 (by kernel_rfl) (by kernel_rfl)) [.pointer (some ⟨w.heap.size + 1, 0, none⟩)] (fun p => hasB b.members p) _ a.members W hI
    (fun x w' hb => (i_share1 x (w.heap.size + 1) (.slice bo b.members.length dap) b w' (by simpa using (bB.below hb).cells 1) (hI'.below hb)).mono fun e w'' ⟨he, hw⟩ => ⟨he, hw ▸ Below.refl _ _⟩)
  have HC := Lib.hid hcl; clear hcl
  have a0 := bA.cells
  go_enter Try.func36, Try.ntmps36
  go_wp2_with fail
  rw [← HW.out]
  refine HC.out.mono ?_
  rintro e w1 ⟨rfl, hb1⟩
  go_wp2_with fail
  go_ret
  exact ⟨rfl, hWb.trans (hb1.mono hWb.size)⟩

set_option maxHeartbeats 1000000 in
theorem s_l15Conflict (u u' : Value) (a b : DCommittee) (w : World) (h : IntsAt w u a.members) (h' : IntsAt w u' b.members) :
    Calls Try.prog 37 #[vComm u a, vComm u' b] w fun e w' => e = .returned (.bool (shareB a b)) ∧ Below w.heap.size w w' := by
  have hIc := h
  obtain ⟨_, ao, cap, rfl, p1, p2, p3⟩ := h
  unfold maxLen at p2
  obtain ⟨bo, dap, rfl⟩ := h'.form
  obtain ⟨W, hW⟩ : ∃ W, W = (w.alloc (.cells #[.string a.name, .slice ao a.members.length cap, .int .i64 a.head] 40)).alloc (.cells #[.string b.name, .slice bo b.members.length dap, .int .i64 b.head] 40) := ⟨_, rfl⟩
  have bA : BoxAt W w.heap.size #[.string a.name, .slice ao a.members.length cap, .int .i64 a.head] := by rw [hW]; exact (BoxAt.new _ _ _).alloc _
  have bB : BoxAt W (w.heap.size + 1) #[.string b.name, .slice bo b.members.length dap, .int .i64 b.head] := by rw [hW]; exact BoxAt.new_at _ _ _ _ (by simp)
  have hWb : Below w.heap.size w W := by rw [hW]; go_grown
  have hI' := h'.below hWb
  have HW := Lib.hid hW; clear hW
  have a0 := bA.cells
  go_enter Try.func37, Try.ntmps37
  go_wp2_with fail
  rw [← HW.out]
  go_loopw [5] (fun i wr => ∃ k : Nat, k ≤ a.members.length ∧ i = .int .i64 k ∧ Hid (shareB a b = (a.members.drop k).any (fun p => hasB b.members p)) ∧ Below W.heap.size W wr) (fun i _ => a.members.length - (intOf i).toNat)
  case atStart => exact ⟨0, by omega, rfl, by simp [Hid, shareB], Below.refl _ _⟩
  case round =>
    obtain ⟨k, hk, rfl, hd, hb⟩ := hrel
    have hd' := hd.out
    clear hd
    have a1 := (bA.below hb).cells
    clear a0
    by_cases hlt : k < a.members.length
    · obtain ⟨bb, off, rfl, h4, h5⟩ := p3 (by omega)
      have hc0 := h5.int hlt
      have hbw := below_step hWb hb
      have hc := (hbw.cell (p := ⟨bb, off + k, none⟩) h4).trans hc0
      rw [drop_at hlt, List.any_cons] at hd'
      have hk0 : (0 : Int) ≤ (k : Int) := by omega
      have hk1 : (k : Int) < (a.members.length : Int) := by omega
      have h4r : bb < wr.heap.size := by have := hbw.size; omega
      have r0 := BW.cell h4r hc
      have rA := BW.box (bA.below hb)
      have rB := BW.box (bB.below hb)
      have hIr := hI'.below hb
      have hq := fun x : BW wr => BW.quiet (s_l1Has _ b.members a.members[k] x.w (hIr.below x.h))
      cases hx : hasB b.members a.members[k] with
      | true =>
        have HD : Hid (shareB a b = true) := by simp [Hid, hd', hx]
        simp only [hx] at hq
        have HQ := Lib.hid hq
        clear hd' hx hq hc0
        generalize a.members[k] = y at *
        go_wp2_with fail
        refine wp_region_bw (by kernel_rfl) (by kernel_rfl) ?_
        repeat (first
          | go_big_quiet_skip
          | (go_big_quiet_want; go_big_quiet_op; first | go_big_quiet_on | (apply Exists.intro; refine ⟨fun _ => ?_, ?_⟩; ((go_at_call 42; exact BW.call (HQ.out _))); go_big_quiet_on)))
        refine wpQuiet_nil ?_
        rintro _ ⟨xq, rfl⟩
        go_wp2_with fail
        go_ret
        exact ⟨ret_bool HD.out.symm, below_step hbw xq.h⟩
      | false =>
        have HD : Hid (shareB a b = (a.members.drop (k + 1)).any (fun p => hasB b.members p)) := by simp only [Hid]; rw [hd', hx, Bool.false_or]
        simp only [hx] at hq
        have HQ := Lib.hid hq
        clear hd' hx hq hc0
        generalize a.members[k] = y at *
        go_wp2_with fail
        refine wp_region_bw (by kernel_rfl) (by kernel_rfl) ?_
        repeat (first
          | go_big_quiet_skip
          | (go_big_quiet_want; go_big_quiet_op; first | go_big_quiet_on | (apply Exists.intro; refine ⟨fun _ => ?_, ?_⟩; ((go_at_call 42; exact BW.call (HQ.out _))); go_big_quiet_on)))
        refine wpQuiet_nil ?_
        rintro _ ⟨xq, rfl⟩
        go_wp2_with fail
        go_roundw
        case rel => exact ⟨k + 1, by omega, by go_num, HD, below_step hb xq.h⟩
        case measure => simp [intOf]; omega
    · have HD : Hid (shareB a b = false) := by
        rw [List.drop_of_length_le (by omega)] at hd'
        simpa [Hid] using hd'
      clear hd'
      go_wp2_with fail
      go_ret
      exact ⟨ret_bool HD.out.symm, below_step hWb hb⟩

def commZ : DCommittee := ⟨⟨#[]⟩, [], 0⟩
def badB (xs : List DCommittee) (sl : List Int) (s : Int) (i : Nat) : Bool := (sl.getD i 0 == s) && shareB (xs.getD i commZ) (xs.getD sl.length commZ)
def freeB (xs : List DCommittee) (sl : List Int) (s : Int) : Bool := (List.range sl.length).all (fun i => !badB xs sl s i)
theorem freeB_no {xs : List DCommittee} {sl : List Int} {s : Int} {i : Nat} (hi : i < sl.length) (h : badB xs sl s i = true) : freeB xs sl s = false := by
  unfold freeB
  rw [List.all_eq_false]
  exact ⟨i, List.mem_range.2 hi, by simp [h]⟩
theorem freeB_yes {xs : List DCommittee} {sl : List Int} {s : Int} (h : ∀ i, i < sl.length → badB xs sl s i = false) : freeB xs sl s = true := by
  unfold freeB
  rw [List.all_eq_true]
  intro i hi
  simp [h i (List.mem_range.1 hi)]
theorem freeB_big {xs : List DCommittee} {sl : List Int} {s : Int} (h : ∀ x ∈ sl, x < s) : freeB xs sl s = true := freeB_yes fun i hi => by
  have h1 : sl.getD i 0 = sl[i] := by simp [List.getD_eq_getElem?_getD, List.getElem?_eq_getElem hi]
  have h2 := h sl[i] (List.getElem_mem hi)
  have : (sl.getD i 0 == s) = false := by rw [h1, beq_eq_false_iff_ne]; omega
  simp only [badB, this, Bool.false_and]
theorem getD_c {xs : List DCommittee} {k : Nat} (h : k < xs.length) : xs.getD k commZ = xs[k] := by simp [List.getD_eq_getElem?_getD, List.getElem?_eq_getElem h]
theorem getD_i {xs : List Int} {k : Nat} (h : k < xs.length) : xs.getD k 0 = xs[k] := by simp [List.getD_eq_getElem?_getD, List.getElem?_eq_getElem h]

set_option maxHeartbeats 2000000 in
theorem i_isFreeSlot (v u : Value) (xs : List DCommittee) (sl : List Int) (s : Int) (w : World) (h : CommsAt w v xs) (hs : IntsAt w u sl) (hl : sl.length < xs.length) (hx : xs.length ≤ 8) :
    Calls Try.prog 33 #[v, u, .int .i64 s] w fun e w' => e = .returned (.bool (freeB xs sl s)) ∧ Below w.heap.size w w' := by
  obtain ⟨_, ao, cap, rfl, p1, p2, p3⟩ := hs
  unfold maxLen at p2
  obtain ⟨vo, vc, rfl⟩ := h.form
  go_enter Try.func33, Try.ntmps33
  go_wp2_with fail
  go_loopw [11] (fun i wr => ∃ k : Nat, k ≤ sl.length ∧ i = .int .i64 k ∧ Hid (∀ i, i < k → badB xs sl s i = false) ∧ Below w.heap.size w wr) (fun i _ => sl.length - (intOf i).toNat)
  case atStart => exact ⟨0, by omega, rfl, by intro i hi; omega, Below.refl _ _⟩
  case round =>
    obtain ⟨k, hk, rfl, hd, hb⟩ := hrel
    by_cases hlt : k < sl.length
    · obtain ⟨bb, off, rfl, h4, h5⟩ := p3 (by omega)
      have hc := (hb.cell (p := ⟨bb, off + k, none⟩) h4).trans (h5.int hlt)
      have hkx : k < xs.length := by omega
      obtain ⟨b, of1, u0, rfl, g4, g5, c0, c1, c2⟩ := (h.below hb).get hkx
      obtain ⟨b', of2, u1, hbo, g4', g5', e0, e1, e2⟩ := (h.below hb).get hl
      simp only [Option.some.injEq, Addr.mk.injEq, and_true] at hbo
      obtain ⟨rfl, rfl⟩ := hbo
      obtain ⟨a1, k1, rfl⟩ := g5.form
      obtain ⟨a2, k2, rfl⟩ := g5'.form
      have hbad : badB xs sl s k = ((sl[k] == s) && shareB xs[k] xs[sl.length]) := by simp only [badB]; rw [getD_i hlt, getD_c hkx, getD_c hl]
      have hk0 : (0 : Int) ≤ (k : Int) := by omega
      have hk1 : (k : Int) < (xs.length : Int) := by omega
      have hn0 : (0 : Int) ≤ (sl.length : Int) := by omega
      have hn1 : (sl.length : Int) < (xs.length : Int) := by omega
      have r0 := BW.cell g4 c0; have r1 := BW.cell g4 c1; have r2 := BW.cell g4 c2
      have s0 := BW.cell g4 e0; have s1 := BW.cell g4 e1; have s2 := BW.cell g4 e2
      have hq := fun x : BW wr => i_share _ _ xs[k] xs[sl.length] x.w (g5.below x.h) (g5'.below x.h)
      by_cases hsl : sl[k] = s
      · have hslb : (sl[k] == s) = true := by simp [hsl]
        rw [hslb, Bool.true_and] at hbad
        cases hsh : shareB xs[k] xs[sl.length] with
        | true =>
          have HD : Hid (freeB xs sl s = false) := freeB_no hlt (by rw [hbad]; exact hsh)
          simp only [hsh] at hq
          have HQ := Lib.hid hq
          clear hd hbad hq hsh hsl
          generalize xs[k] = A at *
          generalize xs[sl.length] = B at *
          generalize sl[k] = y at *
          go_wp2_with fail
          refine wp_region_bw (by kernel_rfl) (by kernel_rfl) ?_
          repeat (first
            | go_big_quiet_skip
            | (go_big_quiet_want; go_big_quiet_op; first | go_big_quiet_on | (apply Exists.intro; refine ⟨fun _ => ?_, ?_⟩; ((go_at_call 36; exact BW.call (HQ.out _))); go_big_quiet_on)))
          refine wpQuiet_nil ?_
          rintro _ ⟨xq, rfl⟩
          go_wp2_with fail
          go_ret
          exact ⟨ret_bool HD.out.symm, below_step hb xq.h⟩
        | false =>
          have HD : Hid (∀ i, i < k + 1 → badB xs sl s i = false) := by
            intro i hi
            by_cases hik : i = k
            · subst hik; rw [hbad]; exact hsh
            · exact hd.out i (by omega)
          simp only [hsh] at hq
          have HQ := Lib.hid hq
          clear hd hbad hq hsh hsl
          generalize xs[k] = A at *
          generalize xs[sl.length] = B at *
          generalize sl[k] = y at *
          go_wp2_with fail
          refine wp_region_bw (by kernel_rfl) (by kernel_rfl) ?_
          repeat (first
            | go_big_quiet_skip
            | (go_big_quiet_want; go_big_quiet_op; first | go_big_quiet_on | (apply Exists.intro; refine ⟨fun _ => ?_, ?_⟩; ((go_at_call 36; exact BW.call (HQ.out _))); go_big_quiet_on)))
          refine wpQuiet_nil ?_
          rintro _ ⟨xq, rfl⟩
          go_wp2_with fail
          go_roundw
          case rel => exact ⟨k + 1, by omega, by go_num, HD, below_step hb xq.h⟩
          case measure => simp [intOf]; omega
      · have hslb : (sl[k] == s) = false := by simp [hsl]
        rw [hslb, Bool.false_and] at hbad
        have HD : Hid (∀ i, i < k + 1 → badB xs sl s i = false) := by
          intro i hi
          by_cases hik : i = k
          · subst hik; exact hbad
          · exact hd.out i (by omega)
        clear hd hbad hq hsl
        generalize xs[k] = A at *
        generalize xs[sl.length] = B at *
        generalize sl[k] = y at *
        go_wp2_with fail
        refine wp_region_bw (by kernel_rfl) (by kernel_rfl) ?_
        repeat (first
          | go_big_quiet_skip
          | (go_big_quiet_want; go_big_quiet_op; first | go_big_quiet_on | (apply Exists.intro; refine ⟨fun _ => ?_, ?_⟩; (fail); go_big_quiet_on)))
        refine wpQuiet_nil ?_
        rintro _ ⟨xq, rfl⟩
        go_wp2_with fail
        go_roundw
        case rel => exact ⟨k + 1, by omega, by go_num, HD, below_step hb xq.h⟩
        case measure => simp [intOf]; omega
    · have HD : Hid (freeB xs sl s = true) := freeB_yes fun i hi => hd.out i (by omega)
      clear hd
      go_wp2_with fail
      go_ret
      exact ⟨ret_bool HD.out.symm, hb⟩

set_option maxHeartbeats 2000000 in
theorem s_l15Free (v u : Value) (xs : List DCommittee) (sl : List Int) (s : Int) (w : World) (h : CommsAt w v xs) (hs : IntsAt w u sl) (hl : sl.length < xs.length) (hx : xs.length ≤ 8) :
    Calls Try.prog 35 #[v, u, .int .i64 s] w fun e w' => e = .returned (.bool (freeB xs sl s)) ∧ Below w.heap.size w w' := by
  obtain ⟨_, ao, cap, rfl, p1, p2, p3⟩ := hs
  unfold maxLen at p2
  obtain ⟨vo, vc, rfl⟩ := h.form
  go_enter Try.func35, Try.ntmps35
  go_wp2_with fail
  go_loopw [8] (fun i wr => ∃ k : Nat, k ≤ sl.length ∧ i = .int .i64 k ∧ Hid (∀ i, i < k → badB xs sl s i = false) ∧ Below w.heap.size w wr) (fun i _ => sl.length - (intOf i).toNat)
  case atStart => exact ⟨0, by omega, rfl, by intro i hi; omega, Below.refl _ _⟩
  case round =>
    obtain ⟨k, hk, rfl, hd, hb⟩ := hrel
    by_cases hlt : k < sl.length
    · obtain ⟨bb, off, rfl, h4, h5⟩ := p3 (by omega)
      have hc := (hb.cell (p := ⟨bb, off + k, none⟩) h4).trans (h5.int hlt)
      have hkx : k < xs.length := by omega
      obtain ⟨b, of1, u0, rfl, g4, g5, c0, c1, c2⟩ := (h.below hb).get hkx
      obtain ⟨b', of2, u1, hbo, g4', g5', e0, e1, e2⟩ := (h.below hb).get hl
      simp only [Option.some.injEq, Addr.mk.injEq, and_true] at hbo
      obtain ⟨rfl, rfl⟩ := hbo
      obtain ⟨a1, k1, rfl⟩ := g5.form
      obtain ⟨a2, k2, rfl⟩ := g5'.form
      have hbad : badB xs sl s k = ((sl[k] == s) && shareB xs[k] xs[sl.length]) := by simp only [badB]; rw [getD_i hlt, getD_c hkx, getD_c hl]
      have hk0 : (0 : Int) ≤ (k : Int) := by omega
      have hk1 : (k : Int) < (xs.length : Int) := by omega
      have hn0 : (0 : Int) ≤ (sl.length : Int) := by omega
      have hn1 : (sl.length : Int) < (xs.length : Int) := by omega
      have h4r : bb < wr.heap.size := by have := hb.size; omega
      have q0 := BW.cell h4r hc
      have hj1 : (k : Int) < (sl.length : Int) := by omega
      have r0 := BW.cell g4 c0; have r1 := BW.cell g4 c1; have r2 := BW.cell g4 c2
      have s0 := BW.cell g4 e0; have s1 := BW.cell g4 e1; have s2 := BW.cell g4 e2
      have hq := fun x : BW wr => s_l15Conflict _ _ xs[k] xs[sl.length] x.w (g5.below x.h) (g5'.below x.h)
      by_cases hsl : sl[k] = s
      · have hslb : (sl[k] == s) = true := by simp [hsl]
        rw [hslb, Bool.true_and] at hbad
        cases hsh : shareB xs[k] xs[sl.length] with
        | true =>
          have HD : Hid (freeB xs sl s = false) := freeB_no hlt (by rw [hbad]; exact hsh)
          simp only [hsh] at hq
          have HQ := Lib.hid hq
          clear hd hbad hq hsh hsl
          generalize xs[k] = A at *
          generalize xs[sl.length] = B at *
          generalize sl[k] = y at *
          go_wp2_with fail
          refine wp_region_bw (by kernel_rfl) (by kernel_rfl) ?_
          repeat (first
            | go_big_quiet_skip
            | (go_big_quiet_want; go_big_quiet_op; first | go_big_quiet_on | (apply Exists.intro; refine ⟨fun _ => ?_, ?_⟩; ((go_at_call 37; exact BW.call (HQ.out _))); go_big_quiet_on)))
          refine wpQuiet_nil ?_
          rintro _ ⟨xq, rfl⟩
          go_wp2_with fail
          go_ret
          exact ⟨ret_bool HD.out.symm, below_step hb xq.h⟩
        | false =>
          have HD : Hid (∀ i, i < k + 1 → badB xs sl s i = false) := by
            intro i hi
            by_cases hik : i = k
            · subst hik; rw [hbad]; exact hsh
            · exact hd.out i (by omega)
          simp only [hsh] at hq
          have HQ := Lib.hid hq
          clear hd hbad hq hsh hsl
          generalize xs[k] = A at *
          generalize xs[sl.length] = B at *
          generalize sl[k] = y at *
          go_wp2_with fail
          refine wp_region_bw (by kernel_rfl) (by kernel_rfl) ?_
          repeat (first
            | go_big_quiet_skip
            | (go_big_quiet_want; go_big_quiet_op; first | go_big_quiet_on | (apply Exists.intro; refine ⟨fun _ => ?_, ?_⟩; ((go_at_call 37; exact BW.call (HQ.out _))); go_big_quiet_on)))
          refine wpQuiet_nil ?_
          rintro _ ⟨xq, rfl⟩
          go_wp2_with fail
          go_roundw
          case rel => exact ⟨k + 1, by omega, by go_num, HD, below_step hb xq.h⟩
          case measure => simp [intOf]; omega
      · have hslb : (sl[k] == s) = false := by simp [hsl]
        rw [hslb, Bool.false_and] at hbad
        have HD : Hid (∀ i, i < k + 1 → badB xs sl s i = false) := by
          intro i hi
          by_cases hik : i = k
          · subst hik; exact hbad
          · exact hd.out i (by omega)
        clear hd hbad hq hsl
        generalize xs[k] = A at *
        generalize xs[sl.length] = B at *
        generalize sl[k] = y at *
        go_wp2_with fail
        refine wp_region_bw (by kernel_rfl) (by kernel_rfl) ?_
        repeat (first
          | go_big_quiet_skip
          | (go_big_quiet_want; go_big_quiet_op; first | go_big_quiet_on | (apply Exists.intro; refine ⟨fun _ => ?_, ?_⟩; (fail); go_big_quiet_on)))
        refine wpQuiet_nil ?_
        rintro _ ⟨xq, rfl⟩
        go_wp2_with fail
        go_roundw
        case rel => exact ⟨k + 1, by omega, by go_num, HD, below_step hb xq.h⟩
        case measure => simp [intOf]; omega
    · have HD : Hid (freeB xs sl s = true) := freeB_yes fun i hi => hd.out i (by omega)
      clear hd
      go_wp2_with fail
      go_ret
      exact ⟨ret_bool HD.out.symm, hb⟩

end Go.Proofs.Ytpjmcjdnobihbaa
