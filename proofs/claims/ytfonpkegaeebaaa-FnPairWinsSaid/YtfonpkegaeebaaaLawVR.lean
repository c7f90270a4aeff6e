/- Contract: the laws' helper on rankings, at lists that are the same. No conditions. -/
import Derived.Test.YtfonpkegaeebaaaLawU
import Derived.Test.YtfonpkegaeebaaaRankS
import Derived.Test.YtfonpkegaeebaaaBw
namespace Go.Proofs.Ytfonpkegaeebaaa
open Go.RowKit
set_option linter.unusedVariables false
set_option linter.unusedSimpArgs false

set_option maxHeartbeats 2000000 in
theorem vRankings_eq (v u : Value) (xs : List DRanking) (w : World) (h : RanksAt w v xs) (g : RanksAt w u xs) :
    Calls Try.prog 20 #[v, u] w fun e w' => e = .returned (.bool true) ∧ Below w.heap.size w w' := by
  have hL := h.len; have gL := g.len
  unfold maxLen at hL gL
  obtain ⟨ao, cap, rfl⟩ := h.form
  obtain ⟨ao', cap', rfl⟩ := g.form
  go_enter Try.func20, Try.ntmps20
  go_wp2_with fail
  go_loopw [5] (fun i wr => ∃ k : Nat, k ≤ xs.length ∧ i = .int .i64 k ∧ Below w.heap.size w wr) (fun i _ => xs.length - (intOf i).toNat)
  case atStart => exact ⟨0, by omega, rfl, Below.refl _ _⟩
  case round =>
    obtain ⟨k, hk, rfl, hb⟩ := hrel
    by_cases hlt : k < xs.length
    · obtain ⟨b, off, u0, rfl, h4, h5, c0, c1⟩ := (h.below hb).get hlt
      obtain ⟨b', off', u1, rfl, g4, g5, d0, d1⟩ := (g.below hb).get hlt
      have hq := fun x : BW wr => vInts_c u0 u1 xs[k].order xs[k].order x.w (h5.below x.h) (g5.below x.h)
      have r0 := BW.cell h4 c0; have r1 := BW.cell h4 c1
      have s0 := BW.cell g4 d0; have s1 := BW.cell g4 d1
      simp only [decide_true] at hq
      have HQ := Lib.hid hq
      clear hq
      generalize xs[k] = p at *
      obtain ⟨po, pw⟩ := p
      dsimp only at *
      go_wp2_with fail
      refine wp_region_bw (by kernel_rfl) (by kernel_rfl) ?_
      repeat (first
        | go_big_quiet_skip
        | (go_big_quiet_want; go_big_quiet_op; first | go_big_quiet_on | (apply Exists.intro; refine ⟨fun _ => ?_, ?_⟩; ((go_at_call 8; exact BW.call (HQ.out _))); go_big_quiet_on)))
      refine wpQuiet_nil ?_
      rintro _ ⟨xq, rfl⟩
      go_wp2_with fail
      go_roundw
      case rel => exact ⟨k + 1, by omega, by go_num, below_step hb xq.h⟩
      case measure => simp [intOf]; omega
    · go_wp2_with fail
      go_ret
      exact ⟨rfl, hb⟩

end Go.Proofs.Ytfonpkegaeebaaa
