/- Contracts: laws.rCommittees at committees that read alike, laws.rHasText. No conditions. -/
import Derived.Test.YtpjmcjdnobihbaaCommB
import Derived.Test.YtpjmcjdnobihbaaLawU
import Derived.Test.YtpjmcjdnobihbaaBw
namespace Go.Proofs.Ytpjmcjdnobihbaa
open Go.RowKit
set_option linter.unusedVariables false
set_option linter.unusedSimpArgs false

set_option maxHeartbeats 2000000 in
theorem rCommittees_eq (v u : Value) (cs : List DCommittee) (w : World) (h : CommsAt w v cs) (g : CommsAt w u cs) :
    Calls Try.prog 21 #[v, u] w fun e w' => e = .returned (.bool true) ∧ Below w.heap.size w w' := by
  have hL := h.len
  unfold maxLen at hL
  obtain ⟨ao, cap, rfl⟩ := h.form
  obtain ⟨ao', cap', rfl⟩ := g.form
  go_enter Try.func21, Try.ntmps21
  go_wp2_with fail
  go_loopw [5] (fun i wr => ∃ k : Nat, k ≤ cs.length ∧ i = .int .i64 k ∧ Below w.heap.size w wr) (fun i _ => cs.length - (intOf i).toNat)
  case atStart => exact ⟨0, by omega, rfl, Below.refl _ _⟩
  case round =>
    obtain ⟨k, hk, rfl, hb⟩ := hrel
    by_cases hlt : k < cs.length
    · obtain ⟨b, off, u0, rfl, h4, h5, c0, c1, c2⟩ := (h.below hb).get hlt
      obtain ⟨b', off', u1, rfl, g4, g5, d0, d1, d2⟩ := (g.below hb).get hlt
      obtain ⟨a0, k0, rfl⟩ := h5.form
      obtain ⟨a1, k1, rfl⟩ := g5.form
      have hq := fun x : BW wr => rInts_c _ _ cs[k].members cs[k].members x.w (h5.below x.h) (g5.below x.h)
      simp only [decide_true] at hq
      have r0 := BW.cell h4 c0; have r1 := BW.cell h4 c1; have r2 := BW.cell h4 c2
      have s0 := BW.cell g4 d0; have s1 := BW.cell g4 d1; have s2 := BW.cell g4 d2
      have HQ := Lib.hid hq
      clear hq
      generalize cs[k] = p at *
      go_wp2_with fail
      refine wp_region_bw (by kernel_rfl) (by kernel_rfl) ?_
      repeat (first
        | go_big_quiet_skip
        | (go_big_quiet_want; go_big_quiet_op; first | go_big_quiet_on | (apply Exists.intro; refine ⟨fun _ => ?_, ?_⟩; ((go_at_call 9; exact BW.call (HQ.out _))); go_big_quiet_on)))
      refine wpQuiet_nil ?_
      rintro _ ⟨xq, rfl⟩
      go_wp2_with fail
      go_roundw
      case rel => exact ⟨k + 1, by omega, by go_num, below_step hb xq.h⟩
      case measure => simp [intOf]; omega
    · go_wp2_with fail
      go_ret
      exact ⟨rfl, hb⟩

def hasT (ss : List ByteArray) (n : ByteArray) : Bool := ss.any (fun x => decide (x = n))
theorem hasT_iff {ss : List ByteArray} {n : ByteArray} : hasT ss n = true ↔ n ∈ ss := by
  simp only [hasT, List.any_eq_true, decide_eq_true_eq]
  exact ⟨fun ⟨x, h, e⟩ => e ▸ h, fun h => ⟨n, h, rfl⟩⟩
set_option maxHeartbeats 1000000 in
theorem rHasText_c (v : Value) (ss : List ByteArray) (n : ByteArray) (w : World) (h : StrsAt w v ss) :
    Calls Try.prog 26 #[v, .string n] w fun e w' => e = .returned (.bool (hasT ss n)) ∧ w = w' := by
  obtain ⟨_, ao, cap, rfl, h1, h2, h3⟩ := h
  unfold maxLen at h2
  go_enter Try.func26, Try.ntmps26
  go_wp2
  go_loop [5] (fun i => ∃ k : Nat, k ≤ ss.length ∧ i = .int .i64 k ∧ Hid (hasT ss n = hasT (ss.drop k) n)) (fun i => ss.length - (intOf i).toNat)
  case atStart => exact ⟨0, by omega, rfl, by simp [Hid]⟩
  case round =>
    obtain ⟨k, hk, rfl, hd⟩ := hrel
    by_cases hlt : k < ss.length
    · obtain ⟨b, off, rfl, h4, h5⟩ := h3 (by omega)
      have d0 := h5 k (by simpa [strs] using hlt)
      simp [strs] at d0
      have hd' := hd.out
      rw [drop_at hlt] at hd'
      simp only [hasT, List.any_cons] at hd'
      clear hd
      by_cases hx : ss[k] = n
      · have HD : Hid (hasT ss n = true) := by simp only [Hid, hasT]; rw [hd']; simp [hx]
        have hb1 : (ss[k].toList == n.toList) = true := by rw [hx]; simp
        generalize ss[k] = x at *
        clear hd' hx
        go_wp2
        go_ret
        exact ⟨ret_bool HD.out.symm, rfl⟩
      · have HD : Hid (hasT ss n = hasT (ss.drop (k + 1)) n) := by
          simp only [Hid, hasT]; rw [hd']; simp [hx]
        have hb1 : (ss[k].toList == n.toList) = false := (Lib.bytes_beq_false_iff _ _).2 hx
        generalize ss[k] = x at *
        clear hd' hx
        go_wp2
        go_round
        case rel => exact ⟨k + 1, by omega, by go_num, HD⟩
        case measure => simp [intOf]; omega
    · have HD : Hid (hasT ss n = false) := by
        have hd' := hd.out
        rw [List.drop_of_length_le (by omega)] at hd'
        simpa [Hid, hasT] using hd'
      go_wp2
      go_ret
      exact ⟨ret_bool HD.out.symm, rfl⟩

theorem rHasText_b {b : Bool} (v : Value) (ss : List ByteArray) (n : ByteArray) (w : World) (h : StrsAt w v ss) (hb : hasT ss n = b) :
    Calls Try.prog 26 #[v, .string n] w fun e w' => e = .returned (.bool b) ∧ Below w.heap.size w w' :=
  (rHasText_c v ss n w h).mono fun _ _ ⟨a, c⟩ => ⟨by rw [a, hb], c ▸ Below.refl _ _⟩

end Go.Proofs.Ytpjmcjdnobihbaa
