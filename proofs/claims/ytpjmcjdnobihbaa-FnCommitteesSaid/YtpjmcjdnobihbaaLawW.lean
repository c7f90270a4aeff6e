/- Contract: laws.rTexts at slices of texts that read alike. No conditions. -/
import Derived.Test.YtpjmcjdnobihbaaCommB
namespace Go.Proofs.Ytpjmcjdnobihbaa
open Go.RowKit
set_option linter.unusedVariables false
set_option linter.unusedSimpArgs false

set_option maxHeartbeats 1000000 in
theorem rTexts_eq (v u : Value) (ss : List ByteArray) (w : World) (h : StrsAt w v ss) (g : StrsAt w u ss) :
    Calls Try.prog 12 #[v, u] w fun e w' => e = .returned (.bool true) ∧ Below w.heap.size w w' := by
  obtain ⟨_, ao, cap, rfl, h1, h2, h3⟩ := h
  obtain ⟨_, ao', cap', rfl, g1, g2, g3⟩ := g
  unfold maxLen at h2 g2
  go_enter Try.func12, Try.ntmps12
  go_wp2_with fail
  go_loopw [5] (fun i wr => ∃ k : Nat, k ≤ ss.length ∧ i = .int .i64 k ∧ Below w.heap.size w wr) (fun i _ => ss.length - (intOf i).toNat)
  case atStart => exact ⟨0, by omega, rfl, Below.refl _ _⟩
  case round =>
    obtain ⟨k, hk, rfl, hb⟩ := hrel
    by_cases hlt : k < ss.length
    · obtain ⟨b, off, rfl, h4, h5⟩ := h3 (by omega)
      obtain ⟨b', off', rfl, g4, g5⟩ := g3 (by omega)
      have d0 := (CellsAt.below h5 hb h4) k (by simpa [strs] using hlt)
      have d1 := (CellsAt.below g5 hb g4) k (by simpa [strs] using hlt)
      simp [strs] at d0 d1
      generalize ss[k] = y at *
      go_wp2_with fail
      go_quiet (fail)
      go_wp2_with fail
      go_roundw
      case rel => exact ⟨k + 1, by omega, by go_num, Below.drewN' hb _⟩
      case measure => simp [intOf]; omega
    · go_wp2_with fail
      go_ret
      exact ⟨rfl, hb⟩

end Go.Proofs.Ytpjmcjdnobihbaa
