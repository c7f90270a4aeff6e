/- Contract: laws.rVoters at voters that read alike. No conditions beyond sizes. -/
import Derived.Test.YtapkicfbknoioaaVoterS
import Derived.Test.YtapkicfbknoioaaLawU
namespace Go.Proofs.Ytapkicfbknoioaa
open Go.RowKit
set_option linter.unusedVariables false
set_option linter.unusedSimpArgs false

set_option maxHeartbeats 1000000 in
theorem rVoters_eq (v u v' u' : Value) (d : DVoters) (w : World) (h : VotersAt w v u d) (g : VotersAt w v' u' d) :
    Calls Try.prog 36 #[vVoters v u, vVoters v' u'] w fun e w' => e = .returned (.bool true) ∧ Below w.heap.size w w' := by
  obtain ⟨aw, kw, aq, kq, rfl, rfl⟩ := h.form
  obtain ⟨aw', kw', aq', kq', rfl, rfl⟩ := g.form
  obtain ⟨W, hW⟩ : ∃ W, W = (w.alloc (.cells #[.slice aw d.weights.length kw, .slice aq d.proxies.length kq] 29)).alloc (.cells #[.slice aw' d.weights.length kw', .slice aq' d.proxies.length kq'] 29) := ⟨_, rfl⟩
  have bA : BoxAt W w.heap.size #[.slice aw d.weights.length kw, .slice aq d.proxies.length kq] := by rw [hW]; exact (BoxAt.new _ _ _).alloc _
  have bB : BoxAt W (w.heap.size + 1) #[.slice aw' d.weights.length kw', .slice aq' d.proxies.length kq'] := by rw [hW]; exact BoxAt.new_at _ _ _ _ (by simp)
  have hWb : Below w.heap.size w W := by rw [hW]; go_grown
  have hI := h.below hWb
  have hJ := g.below hWb
  have HW := Lib.hid hW; clear hW
  have a0 := bA.cells; have b0 := bB.cells
  go_enter Try.func36, Try.ntmps36
  go_wp2_with fail
  rw [← HW.out]
  go_wp2_with fail
  refine (rInts_c _ _ d.weights d.weights _ hI.1 hJ.1).mono ?_
  simp only [decide_true]
  rintro e w1 ⟨rfl, hb1⟩
  have A1 := bA.below hb1; have B1 := bB.below hb1
  have hI1 := (hI.below hb1).2; have hJ1 := (hJ.below hb1).2
  have a1 := A1.cells; have b1 := B1.cells
  have hW1 : Below w.heap.size w w1 := hWb.trans (hb1.mono hWb.size)
  clear a0 b0
  go_wp2_with fail
  go_loopw [5] (fun i wr => ∃ k : Nat, k ≤ d.proxies.length ∧ i = .int .i64 k ∧ Below w1.heap.size w1 wr) (fun i _ => d.proxies.length - (intOf i).toNat)
  case atStart => exact ⟨0, by omega, rfl, Below.refl _ _⟩
  case round =>
    obtain ⟨k, hk, rfl, hb⟩ := hrel
    have A2 := A1.below hb; have B2 := B1.below hb
    have a2 := A2.cells; have b2 := B2.cells
    clear a1 b1
    by_cases hlt : k < d.proxies.length
    · obtain ⟨_, _, _, hv1, g1, g2, g3⟩ := hI1
      obtain ⟨_, _, _, hv2, f1, f2, f3⟩ := hJ1
      cases hv1; cases hv2
      unfold maxLen at g2 f2
      obtain ⟨b, off, rfl, h4, h5⟩ := g3 (by omega)
      obtain ⟨b', off', rfl, i4, i5⟩ := f3 (by omega)
      obtain ⟨c0, c1⟩ := (CellsAt.below h5 hb h4).prox hlt
      obtain ⟨d0, d1⟩ := (CellsAt.below i5 hb i4).prox hlt
      generalize d.proxies[k] = y at *
      obtain ⟨fr, tq⟩ := y
      go_wp2_with fail
      go_quiet (fail)
      go_wp2_with fail
      go_roundw
      case rel => exact ⟨k + 1, by omega, by go_num, Below.drewN' hb _⟩
      case measure => simp [intOf]; omega
    · go_wp2_with fail
      go_ret
      exact ⟨rfl, hW1.trans (hb.mono hW1.size)⟩

end Go.Proofs.Ytapkicfbknoioaa
