/- Contracts: whether committees are valid, the reference's and the program's. No conditions beyond sizes. -/
import Derived.Test.YtpjmcjdnobihbaaCommS
import Derived.Test.YtpjmcjdnobihbaaWord
namespace Go.Proofs.Ytpjmcjdnobihbaa
open Go.RowKit
set_option linter.unusedVariables false
set_option linter.unusedSimpArgs false

def commOk (c : DCommittee) : Bool := wordB c.name && inB c.members.length 1 12 && rising 1 99 c.members && hasB c.members c.head
/-- A name is ahead of another. -/
def ltN (a b : ByteArray) : Bool := Op.bytesLess a.toList b.toList
def commsF : Option ByteArray → List DCommittee → Bool
  | _, [] => true
  | p, c :: r => commOk c && (match p with | none => true | some q => ltN q c.name) && commsF (some c.name) r
def commsOk (xs : List DCommittee) : Bool := commsF none xs && decide (xs.length ≤ 8)
def prevN (xs : List DCommittee) (k : Nat) : Option ByteArray := if k = 0 then none else (xs[k - 1]?).map DCommittee.name
theorem prevN_succ (xs : List DCommittee) (k : Nat) (h : k < xs.length) : prevN xs (k + 1) = some xs[k].name := by simp [prevN, h]

set_option maxHeartbeats 1000000 in
theorem s_l15One (u : Value) (c : DCommittee) (w : World) (h : IntsAt w u c.members) (hs : c.name.size ≤ 1048576) :
    Calls Try.prog 69 #[vComm u c] w fun e w' => e = .returned (.bool (commOk c)) ∧ Below w.heap.size w w' := by
  have hL : c.members.length ≤ maxLen := by obtain ⟨_, _, _, _, h1, h2, _⟩ := h; omega
  unfold maxLen at hL
  obtain ⟨ao, cap, rfl⟩ := h.form
  obtain ⟨W, hW⟩ : ∃ W, W = w.alloc (.cells #[.string c.name, .slice ao c.members.length cap, .int .i64 c.head] 40) := ⟨_, rfl⟩
  have bA : BoxAt W w.heap.size #[.string c.name, .slice ao c.members.length cap, .int .i64 c.head] := by rw [hW]; exact BoxAt.new _ _ _
  have hWb : Below w.heap.size w W := by rw [hW]; go_grown
  have hI := h.below hWb
  have HW := Lib.hid hW; clear hW
  have a0 := bA.cells
  cases h1 : wordB c.name with
  | false =>
    have HR := Lib.hid (show commOk c = false by simp [commOk, h1])
    have H1 := Lib.hid h1; clear h1
    go_enter Try.func69, Try.ntmps69
    go_wp2_with fail
    rw [← HW.out]
    refine (s_l2Word _ _ hs).mono ?_
    rw [H1.out]; rintro e w' ⟨rfl, rfl⟩
    go_wp2_with fail
    go_ret
    exact ⟨ret_bool HR.out.symm, hWb⟩
  | true =>
    cases h2 : inB c.members.length 1 12 with
    | false =>
      have HR := Lib.hid (show commOk c = false by simp [commOk, h2])
      have H1 := Lib.hid h1; clear h1
      have H2 := Lib.hid h2; clear h2
      go_enter Try.func69, Try.ntmps69
      go_wp2_with fail
      rw [← HW.out]
      refine (s_l2Word _ _ hs).mono ?_
      rw [H1.out]; rintro e w' ⟨rfl, rfl⟩
      go_wp2_with (go_at_call 80; refine (s_l1In _ _ _ _).mono ?_; rw [H2.out]; rintro e w' ⟨rfl, rfl⟩)
      go_ret
      exact ⟨ret_bool HR.out.symm, hWb⟩
    | true =>
      cases h3 : rising 1 99 c.members with
      | false =>
        have HR := Lib.hid (show commOk c = false by simp [commOk, h3])
        have H1 := Lib.hid h1; clear h1
        have H2 := Lib.hid h2; clear h2
        have H3 := Lib.hid h3; clear h3
        go_enter Try.func69, Try.ntmps69
        go_wp2_with fail
        rw [← HW.out]
        refine (s_l2Word _ _ hs).mono ?_
        rw [H1.out]; rintro e w' ⟨rfl, rfl⟩
        go_wp2_with (first | (go_at_call 80; refine (s_l1In _ _ _ _).mono ?_; rw [H2.out]; rintro e w' ⟨rfl, rfl⟩) | (go_at_call 88; refine (s_l1Rising _ c.members _ _ _ hI).mono ?_; rw [H3.out]; rintro e w2 ⟨rfl, hb2⟩))
        go_ret
        exact ⟨ret_bool HR.out.symm, hWb.trans (hb2.mono hWb.size)⟩
      | true =>
        have HR := Lib.hid (show commOk c = hasB c.members c.head by simp [commOk, h1, h2, h3])
        have H1 := Lib.hid h1; clear h1
        have H2 := Lib.hid h2; clear h2
        have H3 := Lib.hid h3; clear h3
        go_enter Try.func69, Try.ntmps69
        go_wp2_with fail
        rw [← HW.out]
        refine (s_l2Word _ _ hs).mono ?_
        rw [H1.out]; rintro e w' ⟨rfl, rfl⟩
        go_wp2_with (first | (go_at_call 80; refine (s_l1In _ _ _ _).mono ?_; rw [H2.out]; rintro e w' ⟨rfl, rfl⟩) | (go_at_call 88; refine (s_l1Rising _ c.members _ _ _ hI).mono ?_; rw [H3.out]; rintro e w2 ⟨rfl, hb2⟩; have a2 := (bA.below hb2).cells; clear a0) | (go_at_call 42; refine (s_l1Has _ c.members _ _ (hI.below hb2)).mono ?_; rintro e w' ⟨rfl, rfl⟩))
        go_ret
        exact ⟨ret_bool HR.out.symm, hWb.trans (hb2.mono hWb.size)⟩

set_option maxHeartbeats 4000000 in
theorem s_l15Good (v : Value) (xs : List DCommittee) (w : World) (h : CommsAt w v xs) (hn : CommsLe xs) :
    Calls Try.prog 34 #[v] w fun e w' => e = .returned (.bool (commsOk xs)) ∧ Below w.heap.size w w' := by
  have hL := h.len
  unfold maxLen at hL
  have HN := Lib.hid hn.2; clear hn
  obtain ⟨ao, cap, rfl⟩ := h.form
  go_enter Try.func34, Try.ntmps34
  go_wp2_with fail
  go_loopw [3] (fun i wr => ∃ k : Nat, k ≤ xs.length ∧ i = .int .i64 k ∧ Hid (commsF none xs = commsF (prevN xs k) (xs.drop k)) ∧ Below w.heap.size w wr) (fun i _ => xs.length - (intOf i).toNat)
  case atStart => exact ⟨0, by omega, rfl, by simp [Hid, prevN], Below.refl _ _⟩
  case round =>
    obtain ⟨k, hk, rfl, hd, hb⟩ := hrel
    have hd' := hd.out
    clear hd
    by_cases hlt : k < xs.length
    · obtain ⟨b, off, u0, rfl, h4, h5, c0, c1, c2⟩ := (h.below hb).get hlt
      obtain ⟨a1, k1, rfl⟩ := h5.form
      have hnm := (HN.out _ (List.getElem_mem hlt)).2
      rw [drop_at hlt] at hd'
      simp only [commsF] at hd'
      have hps := prevN_succ xs k hlt
      have hk0 : (0 : Int) ≤ (k : Int) := by omega
      have hk1 : (k : Int) < (xs.length : Int) := by omega
      have r0 := BW.cell h4 c0; have r1 := BW.cell h4 c1; have r2 := BW.cell h4 c2
      have hq := fun x : BW wr => s_l15One _ xs[k] x.w (h5.below x.h) hnm
      cases hc : commOk xs[k] with
      | false =>
        have HD : Hid (commsOk xs = false) := by simp [Hid, commsOk, hd', hc]
        simp only [hc] at hq
        have HQ := Lib.hid hq
        clear hd' hc hq hps
        generalize xs[k] = r at *
        go_wp2_with fail
        refine wp_region_bw (by kernel_rfl) (by kernel_rfl) ?_
        repeat (first
          | go_big_quiet_skip
          | (go_big_quiet_want; go_big_quiet_op; first | go_big_quiet_on | (apply Exists.intro; refine ⟨fun _ => ?_, ?_⟩; ((go_at_call 69; exact BW.call (HQ.out _))); go_big_quiet_on)))
        refine wpQuiet_nil ?_
        rintro _ ⟨xq, rfl⟩
        go_wp2_with fail
        go_ret
        exact ⟨ret_bool HD.out.symm, below_step hb xq.h⟩
      | true =>
        simp only [hc] at hq
        have HQ := Lib.hid hq
        rw [hc, Bool.true_and] at hd'
        by_cases hz : k = 0
        · have hz' : decide (0 < k) = false := by simp [hz]
          have hz2 : ¬ (0 : Int) < (k : Int) := by omega
          have HD : Hid (commsF none xs = commsF (prevN xs (k + 1)) (xs.drop (k + 1))) := by rw [hps]; simpa [Hid, prevN, hz] using hd'
          clear hd' hc hq hps hz
          generalize xs[k] = r at *
          go_wp2_with fail
          refine wp_region_bw (by kernel_rfl) (by kernel_rfl) ?_
          repeat (first
            | go_big_quiet_skip
            | (go_big_quiet_want; go_big_quiet_op; first | go_big_quiet_on | (apply Exists.intro; refine ⟨fun _ => ?_, ?_⟩; ((go_at_call 69; exact BW.call (HQ.out _))); go_big_quiet_on)))
          refine wpQuiet_nil ?_
          rintro _ ⟨xq, rfl⟩
          go_wp2_with fail
          go_roundw
          case rel => exact ⟨k + 1, by omega, by go_num, HD, below_step hb xq.h⟩
          case measure => simp [intOf]; omega
        · have hpk : prevN xs k = some (xs[k - 1]'(by omega)).name := by
            have := prevN_succ xs (k - 1) (by omega)
            rwa [Nat.sub_add_cancel (by omega)] at this
          rw [hpk] at hd'
          simp only at hd'
          have hlt2 : k - 1 < xs.length := by omega
          have hpz : (0 : Int) < (k : Int) := by omega
          have hpn : decide (0 < k) = true := by simp; omega
          obtain ⟨b', off', u2, hbo, h4', h5', e0, _, _⟩ := (h.below hb).get hlt2
          simp only [Option.some.injEq, Addr.mk.injEq, and_true] at hbo
          obtain ⟨rfl, rfl⟩ := hbo
          have s0 := BW.cell h4' e0
          have hkk : IntKind.i64.wrap ((k : Int) - 1) = ((k - 1 : Nat) : Int) := by rw [IntWalk.i64_in _ (by omega)]; omega
          have hk2 : (0 : Int) ≤ ((k - 1 : Nat) : Int) := by omega
          have hk3 : ((k - 1 : Nat) : Int) < (xs.length : Int) := by omega
          cases hln : ltN (xs[k - 1]'hlt2).name xs[k].name with
          | false =>
            have HD : Hid (commsOk xs = false) := by simp [Hid, commsOk, hd', hln]
            simp only [ltN] at hln
            have HPS := Lib.hid hps; have HPK := Lib.hid hpk
            clear hd' hc hq hps hpk
            generalize xs[k] = r at *
            generalize xs[k - 1]'hlt2 = q at *
            go_wp2_with fail
            refine wp_region_bw (by kernel_rfl) (by kernel_rfl) ?_
            repeat (first
              | go_big_quiet_skip
              | (go_big_quiet_want; go_big_quiet_op; first | go_big_quiet_on | (apply Exists.intro; refine ⟨fun _ => ?_, ?_⟩; ((go_at_call 69; exact BW.call (HQ.out _))); go_big_quiet_on)))
            refine wpQuiet_nil ?_
            rintro _ ⟨xq, rfl⟩
            go_wp2_with fail
            go_ret
            exact ⟨ret_bool HD.out.symm, below_step hb xq.h⟩
          | true =>
            have HD : Hid (commsF none xs = commsF (prevN xs (k + 1)) (xs.drop (k + 1))) := by rw [hps]; simpa [Hid, hln] using hd'
            simp only [ltN] at hln
            have HPS := Lib.hid hps; have HPK := Lib.hid hpk
            clear hd' hc hq hps hpk
            generalize xs[k] = r at *
            generalize xs[k - 1]'hlt2 = q at *
            go_wp2_with fail
            refine wp_region_bw (by kernel_rfl) (by kernel_rfl) ?_
            repeat (first
              | go_big_quiet_skip
              | (go_big_quiet_want; go_big_quiet_op; first | go_big_quiet_on | (apply Exists.intro; refine ⟨fun _ => ?_, ?_⟩; ((go_at_call 69; exact BW.call (HQ.out _))); go_big_quiet_on)))
            refine wpQuiet_nil ?_
            rintro _ ⟨xq, rfl⟩
            go_wp2_with fail
            go_roundw
            case rel => exact ⟨k + 1, by omega, by go_num, HD, below_step hb xq.h⟩
            case measure => simp [intOf]; omega
    · have HD : Hid (commsOk xs = decide ((xs.length : Int) ≤ 8)) := by
        rw [List.drop_of_length_le (by omega)] at hd'
        have h0 : commsF none xs = true := by rw [hd']; rfl
        simp only [Hid, commsOk]
        rw [h0, Bool.true_and]
        rw [Bool.eq_iff_iff]; simp; omega
      clear hd'
      go_wp2_with fail
      go_ret
      exact ⟨ret_bool HD.out.symm, hb⟩

theorem BW.quiet {P : Program} {f : FuncId} {args : Array Value} {w : World} {v : Value} (h : Calls P f args w fun e w' => e = .returned v ∧ w = w') : Calls P f args w fun e w' => e = .returned v ∧ Below w.heap.size w w' :=
  h.mono fun _ _ ⟨he, hw⟩ => ⟨he, hw ▸ Below.refl _ _⟩

set_option maxHeartbeats 4000000 in
theorem i_AreCommittees (v : Value) (xs : List DCommittee) (w : World) (h : CommsAt w v xs) (hn : CommsLe xs) :
    Calls Try.prog 23 #[v] w fun e w' => e = .returned (.bool (commsOk xs)) ∧ Below w.heap.size w w' := by
  have hL := h.len
  unfold maxLen at hL
  have HN := Lib.hid hn.2; clear hn
  obtain ⟨ao, cap, rfl⟩ := h.form
  go_enter Try.func23, Try.ntmps23
  go_wp2_with fail
  go_loopw [7] (fun i wr => ∃ k : Nat, k ≤ xs.length ∧ i = .int .i64 k ∧ Hid (commsF none xs = commsF (prevN xs k) (xs.drop k)) ∧ Below w.heap.size w wr) (fun i _ => xs.length - (intOf i).toNat)
  case atStart => exact ⟨0, by omega, rfl, by simp [Hid, prevN], Below.refl _ _⟩
  case round =>
    obtain ⟨k, hk, rfl, hd, hb⟩ := hrel
    have hd' := hd.out
    clear hd
    by_cases hlt : k < xs.length
    · obtain ⟨b, off, u0, rfl, h4, h5, c0, c1, c2⟩ := (h.below hb).get hlt
      obtain ⟨a1, k1, rfl⟩ := h5.form
      have hnm := HN.out _ (List.getElem_mem hlt)
      rw [drop_at hlt] at hd'
      simp only [commsF] at hd'
      have hps := prevN_succ xs k hlt
      have hk0 : (0 : Int) ≤ (k : Int) := by omega
      have hk1 : (k : Int) < (xs.length : Int) := by omega
      obtain ⟨W2, hW2⟩ : ∃ W2, W2 = wr.alloc (.cells #[.string xs[k].name, .slice a1 xs[k].members.length k1, .int .i64 xs[k].head] 40) := ⟨_, rfl⟩
      have bC : BoxAt W2 wr.heap.size #[.string xs[k].name, .slice a1 xs[k].members.length k1, .int .i64 xs[k].head] := by rw [hW2]; exact BoxAt.new _ _ _
      have hW2b : Below wr.heap.size wr W2 := by rw [hW2]; exact (Below.refl _ _).alloc (Nat.le_refl _) _
      have hbn := below_step hb hW2b
      have hI2 := h5.below hW2b
      have HW2 := Lib.hid hW2; clear hW2
      have rC := BW.box bC
      have hq1 := fun x : BW W2 => BW.quiet (i_isWord xs[k].name x.w hnm.2)
      have hq2 := fun x : BW W2 => BW.quiet (i_inside (xs[k].members.length : Int) 1 12 x.w)
      have hq3 := fun x : BW W2 => i_ascending _ xs[k].members 1 99 x.w (hI2.below x.h)
      have hq4 := fun x : BW W2 => BW.quiet (slices_Contains _ xs[k].members xs[k].head x.w (hI2.below x.h))
      cases e1 : wordB xs[k].name with
      | false =>
        have hc : commOk xs[k] = false := by simp [commOk, e1]
        have HD : Hid (commsOk xs = false) := by simp [Hid, commsOk, hd', hc]
        simp only [e1] at hq1
        have H1 := Lib.hid hq1; have H2 := Lib.hid hq2; have H3 := Lib.hid hq3; have H4 := Lib.hid hq4; have HPS := Lib.hid hps; have HNM := Lib.hid hnm
        clear hd' hc hq1 hq2 hq3 hq4 hps hnm e1
        generalize xs[k] = r at *
        go_wp2_with fail
        rw [← HW2.out]
        refine wp_region_bw (by kernel_rfl) (by kernel_rfl) ?_
        repeat (first
          | go_big_quiet_skip
          | (go_big_quiet_want; go_big_quiet_op; first | go_big_quiet_on | (apply Exists.intro; refine ⟨fun _ => ?_, ?_⟩; ((first | (go_at_call 57; exact BW.call (H1.out _)) | (go_at_call 58; exact BW.call (H2.out _)) | (go_at_call 59; exact BW.call (H3.out _)) | (go_at_call 54; exact BW.call (H4.out _)))); go_big_quiet_on)))
        refine wpQuiet_nil ?_
        rintro _ ⟨xq, rfl⟩
        go_wp2_with fail
        go_ret
        exact ⟨ret_bool HD.out.symm, below_step hbn xq.h⟩
      | true =>
        cases e2 : inB xs[k].members.length 1 12 with
        | false =>
          have hc : commOk xs[k] = false := by simp [commOk, e2]
          have HD : Hid (commsOk xs = false) := by simp [Hid, commsOk, hd', hc]
          simp only [e1] at hq1
          simp only [e2] at hq2
          have H1 := Lib.hid hq1; have H2 := Lib.hid hq2; have H3 := Lib.hid hq3; have H4 := Lib.hid hq4; have HPS := Lib.hid hps; have HNM := Lib.hid hnm
          clear hd' hc hq1 hq2 hq3 hq4 hps hnm e1 e2
          generalize xs[k] = r at *
          go_wp2_with fail
          rw [← HW2.out]
          refine wp_region_bw (by kernel_rfl) (by kernel_rfl) ?_
          repeat (first
            | go_big_quiet_skip
            | (go_big_quiet_want; go_big_quiet_op; first | go_big_quiet_on | (apply Exists.intro; refine ⟨fun _ => ?_, ?_⟩; ((first | (go_at_call 57; exact BW.call (H1.out _)) | (go_at_call 58; exact BW.call (H2.out _)) | (go_at_call 59; exact BW.call (H3.out _)) | (go_at_call 54; exact BW.call (H4.out _)))); go_big_quiet_on)))
          refine wpQuiet_nil ?_
          rintro _ ⟨xq, rfl⟩
          go_wp2_with fail
          go_ret
          exact ⟨ret_bool HD.out.symm, below_step hbn xq.h⟩
        | true =>
          cases e3 : rising 1 99 xs[k].members with
          | false =>
            have hc : commOk xs[k] = false := by simp [commOk, e3]
            have HD : Hid (commsOk xs = false) := by simp [Hid, commsOk, hd', hc]
            simp only [e1] at hq1
            simp only [e2] at hq2
            simp only [e3] at hq3
            have H1 := Lib.hid hq1; have H2 := Lib.hid hq2; have H3 := Lib.hid hq3; have H4 := Lib.hid hq4; have HPS := Lib.hid hps; have HNM := Lib.hid hnm
            clear hd' hc hq1 hq2 hq3 hq4 hps hnm e1 e2 e3
            generalize xs[k] = r at *
            go_wp2_with fail
            rw [← HW2.out]
            refine wp_region_bw (by kernel_rfl) (by kernel_rfl) ?_
            repeat (first
              | go_big_quiet_skip
              | (go_big_quiet_want; go_big_quiet_op; first | go_big_quiet_on | (apply Exists.intro; refine ⟨fun _ => ?_, ?_⟩; ((first | (go_at_call 57; exact BW.call (H1.out _)) | (go_at_call 58; exact BW.call (H2.out _)) | (go_at_call 59; exact BW.call (H3.out _)) | (go_at_call 54; exact BW.call (H4.out _)))); go_big_quiet_on)))
            refine wpQuiet_nil ?_
            rintro _ ⟨xq, rfl⟩
            go_wp2_with fail
            go_ret
            exact ⟨ret_bool HD.out.symm, below_step hbn xq.h⟩
          | true =>
            cases e4 : hasB xs[k].members xs[k].head with
            | false =>
              have hc : commOk xs[k] = false := by simp [commOk, e4]
              have HD : Hid (commsOk xs = false) := by simp [Hid, commsOk, hd', hc]
              simp only [e1] at hq1
              simp only [e2] at hq2
              simp only [e3] at hq3
              simp only [e4] at hq4
              have H1 := Lib.hid hq1; have H2 := Lib.hid hq2; have H3 := Lib.hid hq3; have H4 := Lib.hid hq4; have HPS := Lib.hid hps; have HNM := Lib.hid hnm
              clear hd' hc hq1 hq2 hq3 hq4 hps hnm e1 e2 e3 e4
              generalize xs[k] = r at *
              go_wp2_with fail
              rw [← HW2.out]
              refine wp_region_bw (by kernel_rfl) (by kernel_rfl) ?_
              repeat (first
                | go_big_quiet_skip
                | (go_big_quiet_want; go_big_quiet_op; first | go_big_quiet_on | (apply Exists.intro; refine ⟨fun _ => ?_, ?_⟩; ((first | (go_at_call 57; exact BW.call (H1.out _)) | (go_at_call 58; exact BW.call (H2.out _)) | (go_at_call 59; exact BW.call (H3.out _)) | (go_at_call 54; exact BW.call (H4.out _)))); go_big_quiet_on)))
              refine wpQuiet_nil ?_
              rintro _ ⟨xq, rfl⟩
              go_wp2_with fail
              go_ret
              exact ⟨ret_bool HD.out.symm, below_step hbn xq.h⟩
            | true =>
              have hc : commOk xs[k] = true := by simp [commOk, e1, e2, e3, e4]
              simp only [e1] at hq1
              simp only [e2] at hq2
              simp only [e3] at hq3
              simp only [e4] at hq4
              have H1 := Lib.hid hq1; have H2 := Lib.hid hq2; have H3 := Lib.hid hq3; have H4 := Lib.hid hq4; have HNM := Lib.hid hnm
              clear hq1 hq2 hq3 hq4 e1 e2 e3 e4 hnm
              rw [hc, Bool.true_and] at hd'
              by_cases hz : k = 0
              · have hz' : decide (0 < k) = false := by simp [hz]
                have hz2 : ¬ (0 : Int) < (k : Int) := by omega
                have HD : Hid (commsF none xs = commsF (prevN xs (k + 1)) (xs.drop (k + 1))) := by rw [hps]; simpa [Hid, prevN, hz] using hd'
                have HPS := Lib.hid hps
                clear hd' hc hps hz
                generalize xs[k] = r at *
                go_wp2_with fail
                rw [← HW2.out]
                refine wp_region_bw (by kernel_rfl) (by kernel_rfl) ?_
                repeat (first
                  | go_big_quiet_skip
                  | (go_big_quiet_want; go_big_quiet_op; first | go_big_quiet_on | (apply Exists.intro; refine ⟨fun _ => ?_, ?_⟩; ((first | (go_at_call 57; exact BW.call (H1.out _)) | (go_at_call 58; exact BW.call (H2.out _)) | (go_at_call 59; exact BW.call (H3.out _)) | (go_at_call 54; exact BW.call (H4.out _)))); go_big_quiet_on)))
                refine wpQuiet_nil ?_
                rintro _ ⟨xq, rfl⟩
                go_wp2_with fail
                go_roundw
                case rel => exact ⟨k + 1, by omega, by go_num, HD, below_step hbn xq.h⟩
                case measure => simp [intOf]; omega
              · have hpk : prevN xs k = some (xs[k - 1]'(by omega)).name := by
                  have := prevN_succ xs (k - 1) (by omega)
                  rwa [Nat.sub_add_cancel (by omega)] at this
                rw [hpk] at hd'
                simp only at hd'
                have hlt2 : k - 1 < xs.length := by omega
                have hpz : (0 : Int) < (k : Int) := by omega
                have hpn : decide (0 < k) = true := by simp; omega
                obtain ⟨b', off', u2, hbo, h4', h5', e0, _, _⟩ := (h.below hbn).get hlt2
                simp only [Option.some.injEq, Addr.mk.injEq, and_true] at hbo
                obtain ⟨rfl, rfl⟩ := hbo
                have s0 := BW.cell h4' e0
                have hkk : IntKind.i64.wrap ((k : Int) - 1) = ((k - 1 : Nat) : Int) := by rw [IntWalk.i64_in _ (by omega)]; omega
                have hk2 : (0 : Int) ≤ ((k - 1 : Nat) : Int) := by omega
                have hk3 : ((k - 1 : Nat) : Int) < (xs.length : Int) := by omega
                cases hln : ltN (xs[k - 1]'hlt2).name xs[k].name with
                | false =>
                  have HD : Hid (commsOk xs = false) := by simp [Hid, commsOk, hd', hln]
                  simp only [ltN] at hln
                  have HPS := Lib.hid hps; have HPK := Lib.hid hpk
                  clear hd' hc hps hpk
                  generalize xs[k] = r at *
                  generalize xs[k - 1]'hlt2 = q at *
                  go_wp2_with fail
                  rw [← HW2.out]
                  refine wp_region_bw (by kernel_rfl) (by kernel_rfl) ?_
                  repeat (first
                    | go_big_quiet_skip
                    | (go_big_quiet_want; go_big_quiet_op; first | go_big_quiet_on | (apply Exists.intro; refine ⟨fun _ => ?_, ?_⟩; ((first | (go_at_call 57; exact BW.call (H1.out _)) | (go_at_call 58; exact BW.call (H2.out _)) | (go_at_call 59; exact BW.call (H3.out _)) | (go_at_call 54; exact BW.call (H4.out _)))); go_big_quiet_on)))
                  refine wpQuiet_nil ?_
                  rintro _ ⟨xq, rfl⟩
                  go_wp2_with fail
                  go_ret
                  exact ⟨ret_bool HD.out.symm, below_step hbn xq.h⟩
                | true =>
                  have HD : Hid (commsF none xs = commsF (prevN xs (k + 1)) (xs.drop (k + 1))) := by rw [hps]; simpa [Hid, hln] using hd'
                  simp only [ltN] at hln
                  have HPS := Lib.hid hps; have HPK := Lib.hid hpk
                  clear hd' hc hps hpk
                  generalize xs[k] = r at *
                  generalize xs[k - 1]'hlt2 = q at *
                  go_wp2_with fail
                  rw [← HW2.out]
                  refine wp_region_bw (by kernel_rfl) (by kernel_rfl) ?_
                  repeat (first
                    | go_big_quiet_skip
                    | (go_big_quiet_want; go_big_quiet_op; first | go_big_quiet_on | (apply Exists.intro; refine ⟨fun _ => ?_, ?_⟩; ((first | (go_at_call 57; exact BW.call (H1.out _)) | (go_at_call 58; exact BW.call (H2.out _)) | (go_at_call 59; exact BW.call (H3.out _)) | (go_at_call 54; exact BW.call (H4.out _)))); go_big_quiet_on)))
                  refine wpQuiet_nil ?_
                  rintro _ ⟨xq, rfl⟩
                  go_wp2_with fail
                  go_roundw
                  case rel => exact ⟨k + 1, by omega, by go_num, HD, below_step hbn xq.h⟩
                  case measure => simp [intOf]; omega
    · have HD : Hid (commsOk xs = decide ((xs.length : Int) ≤ 8)) := by
        rw [List.drop_of_length_le (by omega)] at hd'
        have h0 : commsF none xs = true := by rw [hd']; rfl
        simp only [Hid, commsOk]
        rw [h0, Bool.true_and]
        rw [Bool.eq_iff_iff]; simp; omega
      clear hd'
      go_wp2_with fail
      go_ret
      exact ⟨ret_bool HD.out.symm, hb⟩

end Go.Proofs.Ytpjmcjdnobihbaa
