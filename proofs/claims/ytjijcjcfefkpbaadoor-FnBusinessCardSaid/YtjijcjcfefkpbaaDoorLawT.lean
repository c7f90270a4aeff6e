/- Contract: laws.rTable at tables that read alike. No conditions. -/
import Derived.Test.YtjijcjcfefkpbaaDoorRankM
import Derived.Test.YtjijcjcfefkpbaaDoorLawU
import Derived.Test.YtjijcjcfefkpbaaDoorBw
namespace Go.Proofs.YtjijcjcfefkpbaaDoor
open Go.RowKit
set_option linter.unusedVariables false
set_option linter.unusedSimpArgs false

set_option maxHeartbeats 2000000 in
theorem rTable_eq (v u : Value) (ts : List (List Int)) (w : World) (h : IntSSAt w v ts) (g : IntSSAt w u ts) :
    Calls Tryd.prog 14 #[v, u] w fun e w' => e = .returned (.bool true) ∧ Below w.heap.size w w' := by
  have hL := h.len
  unfold maxLen at hL
  obtain ⟨ao, cap, rfl⟩ := h.form
  obtain ⟨ao', cap', rfl⟩ := g.form
  go_enter Tryd.func14, Tryd.ntmps14
  go_wp2_with fail
  go_loopw [5] (fun i wr => ∃ k : Nat, k ≤ ts.length ∧ i = .int .i64 k ∧ Below w.heap.size w wr) (fun i _ => ts.length - (intOf i).toNat)
  case atStart => exact ⟨0, by omega, rfl, Below.refl _ _⟩
  case round =>
    obtain ⟨k, hk, rfl, hb⟩ := hrel
    by_cases hlt : k < ts.length
    · obtain ⟨b, off, u0, rfl, h4, h5, c0⟩ := (h.below hb).get hlt
      obtain ⟨b', off', u1, rfl, g4, g5, d0⟩ := (g.below hb).get hlt
      obtain ⟨a0, k0, rfl⟩ := h5.form
      obtain ⟨a1, k1, rfl⟩ := g5.form
      have hq := fun x : BW wr => rInts_c _ _ ts[k] ts[k] x.w (h5.below x.h) (g5.below x.h)
      simp only [decide_true] at hq
      have r0 := BW.cell h4 c0
      have s0 := BW.cell g4 d0
      have HQ := Lib.hid hq
      clear hq
      generalize ts[k] = p at *
      go_wp2_with fail
      refine wp_region_bw (by kernel_rfl) (by kernel_rfl) ?_
      repeat (first
        | go_big_quiet_skip
        | (go_big_quiet_want; go_big_quiet_op; first | go_big_quiet_on | (apply Exists.intro; refine ⟨fun _ => ?_, ?_⟩; ((go_at_call 38; exact BW.call (HQ.out _))); go_big_quiet_on)))
      refine wpQuiet_nil ?_
      rintro _ ⟨xq, rfl⟩
      go_wp2_with fail
      go_roundw
      case rel => exact ⟨k + 1, by omega, by go_num, below_step hb xq.h⟩
      case measure => simp [intOf]; omega
    · go_wp2_with fail
      go_ret
      exact ⟨rfl, hb⟩

end Go.Proofs.YtjijcjcfefkpbaaDoor
