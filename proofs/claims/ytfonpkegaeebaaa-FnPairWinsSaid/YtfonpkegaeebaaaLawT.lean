/- Contracts: the laws' helpers on tables and rankings. No conditions. -/
import Derived.Test.YtfonpkegaeebaaaLawU
import Derived.Test.YtfonpkegaeebaaaRankM
namespace Go.Proofs.Ytfonpkegaeebaaa
open Go.RowKit
set_option linter.unusedVariables false
set_option linter.unusedSimpArgs false

set_option maxHeartbeats 1000000 in
theorem vTable_c (v u : Value) (xs ys : List (List Int)) (w : World) (h : IntSSAt w v xs) (g : IntSSAt w u ys) :
    Calls Try.prog 16 #[v, u] w fun e w' => e = .returned (.bool (decide (xs = ys))) ∧ Below w.heap.size w w' := by
  have hL := h.len; have gL := g.len
  unfold maxLen at hL gL
  obtain ⟨ao, cap, rfl⟩ := h.form
  obtain ⟨ao', cap', rfl⟩ := g.form
  by_cases hl : xs.length = ys.length
  · have hlb : (((xs.length : Nat) : Int) != ((ys.length : Nat) : Int)) = false := by simp [hl]
    have HL := Lib.hid hl; clear hl
    go_enter Try.func16, Try.ntmps16
    go_wp2_with fail
    go_loopw [5] (fun i wr => ∃ k : Nat, k ≤ xs.length ∧ i = .int .i64 k ∧ Hid (decide (xs = ys) = decide (xs.drop k = ys.drop k)) ∧ Below w.heap.size w wr) (fun i _ => xs.length - (intOf i).toNat)
    case atStart => exact ⟨0, by omega, rfl, by simp [Hid], Below.refl _ _⟩
    case round =>
      obtain ⟨k, hk, rfl, hd, hb⟩ := hrel
      by_cases hlt : k < xs.length
      · have hlt' : k < ys.length := by have := HL.out; omega
        obtain ⟨b, off, u0, rfl, h4, h5, c0⟩ := (h.below hb).get hlt
        obtain ⟨b', off', u1, rfl, g4, g5, d0⟩ := (g.below hb).get hlt'
        have hd' := hd.out
        rw [drop_at hlt, drop_at hlt'] at hd'
        simp only [List.cons.injEq] at hd'
        have hq := fun x : BW wr => vInts_c u0 u1 xs[k] ys[k] x.w (h5.below x.h) (g5.below x.h)
        have r0 := BW.cell h4 c0
        have s0 := BW.cell g4 d0
        by_cases hxy : xs[k] = ys[k]
        · have HD : Hid (decide (xs = ys) = decide (xs.drop (k + 1) = ys.drop (k + 1))) := by simpa [Hid, hxy] using hd'
          have HX : decide (xs[k] = ys[k]) = true := by simp [hxy]
          simp only [HX] at hq
          have HQ := Lib.hid hq
          clear hd hd' hxy HX hq
          generalize xs[k] = p at *
          generalize ys[k] = q at *
          go_wp2_with fail
          refine wp_region_bw (by kernel_rfl) (by kernel_rfl) ?_
          repeat (first
            | go_big_quiet_skip
            | (go_big_quiet_want; go_big_quiet_op; first | go_big_quiet_on | (apply Exists.intro; refine ⟨fun _ => ?_, ?_⟩; ((go_at_call 8; exact BW.call (HQ.out _))); go_big_quiet_on)))
          refine wpQuiet_nil ?_
          rintro _ ⟨xq, rfl⟩
          go_wp2_with fail
          go_roundw
          case rel => exact ⟨k + 1, by omega, by go_num, HD, below_step hb xq.h⟩
          case measure => simp [intOf]; omega
        · have HD : Hid (decide (xs = ys) = false) := by simpa [Hid, hxy] using hd'
          have HX : decide (xs[k] = ys[k]) = false := by simp [hxy]
          simp only [HX] at hq
          have HQ := Lib.hid hq
          clear hd hd' hxy HX hq
          generalize xs[k] = p at *
          generalize ys[k] = q at *
          go_wp2_with fail
          refine wp_region_bw (by kernel_rfl) (by kernel_rfl) ?_
          repeat (first
            | go_big_quiet_skip
            | (go_big_quiet_want; go_big_quiet_op; first | go_big_quiet_on | (apply Exists.intro; refine ⟨fun _ => ?_, ?_⟩; ((go_at_call 8; exact BW.call (HQ.out _))); go_big_quiet_on)))
          refine wpQuiet_nil ?_
          rintro _ ⟨xq, rfl⟩
          go_wp2_with fail
          go_ret
          exact ⟨ret_bool HD.out.symm, below_step hb xq.h⟩
      · have HD : Hid (decide (xs = ys) = true) := by
          have hd' := hd.out
          rw [List.drop_of_length_le (by omega), List.drop_of_length_le (by have := HL.out; omega)] at hd'
          simpa [Hid] using hd'
        clear hd
        go_wp2_with fail
        go_ret
        exact ⟨ret_bool HD.out.symm, hb⟩
  · have hlb : (((xs.length : Nat) : Int) != ((ys.length : Nat) : Int)) = true := by rw [bne_iff_ne]; omega
    have HD : Hid (decide (xs = ys) = false) := by
      simp only [Hid, decide_eq_false_iff_not]; rintro rfl; exact hl rfl
    have HL := Lib.hid hl; clear hl
    go_enter Try.func16, Try.ntmps16
    go_wp2_with fail
    go_ret
    exact ⟨ret_bool HD.out.symm, Below.refl _ _⟩

end Go.Proofs.Ytfonpkegaeebaaa
