/- The walk of FnExactVotesToReverse out of its callees' contracts: it returns true, and what was there stays. No conditions. -/
import Derived.Test.YtcfajbocgclccaaPoints
namespace Go.Proofs.Ytcfajbocgclccaa
open Go.RowKit
set_option linter.unusedVariables false
set_option linter.unusedSimpArgs false

theorem law_VotesToReverse (w : World) (y0 n0 a0 : Int) (b0 : (-9223372036854775808 ≤ y0 ∧ y0 ≤ 9223372036854775807) ∧ (-9223372036854775808 ≤ n0 ∧ n0 ≤ 9223372036854775807) ∧ (-9223372036854775808 ≤ a0 ∧ a0 ≤ 9223372036854775807)) :
    Calls Try.prog 3 #[vTally y0 n0 a0] w fun e w' => e = .returned (.bool true) ∧ Below w.heap.size w w' := by
  obtain ⟨W, hW⟩ : ∃ W, W = (w).alloc (.cells #[.int .i64 y0, .int .i64 n0, .int .i64 a0] 23) := ⟨_, rfl⟩
  have hWb : Below w.heap.size w W := by rw [hW]; go_grown
  have bx0 : BoxAt W (w.heap.size) #[.int .i64 y0, .int .i64 n0, .int .i64 a0] := by rw [hW]; exact ⟨by simp, fun i => by simp [go_sem]⟩
  have HW := Lib.hid hW; clear hW
  have hg := Below.refl W.heap.size W
  have cb0 := (bx0.below hg).cells
  go_enter Try.func3, Try.ntmps3
  go_wp2_with fail
  rw [← HW.out]
  refine (toTally_c _ _ _ _).mono ?_
  rintro e w1 ⟨rfl, hb1⟩
  replace hg := below_step hg hb1
  replace cb0 := (bx0.below hg).cells
  go_wp2_with fail
  refine (s_VotesToReverse _ _ _ _  ).mono ?_
  rintro e w2 ⟨rfl, hb2⟩
  replace hg := below_step hg hb2
  replace cb0 := (bx0.below hg).cells
  go_wp2_with fail
  refine (toTally_c _ _ _ _).mono ?_
  rintro e w3 ⟨rfl, hb3⟩
  replace hg := below_step hg hb3
  replace cb0 := (bx0.below hg).cells
  go_wp2_with fail
  refine (i_VotesToReverse _ _ _ _  ).mono ?_
  rintro e w4 ⟨rfl, hb4⟩
  replace hg := below_step hg hb4
  replace cb0 := (bx0.below hg).cells
  go_wp2_with fail
  go_ret
  exact ⟨rfl, hWb.trans (hg.mono (by have := hWb.size; omega))⟩
end Go.Proofs.Ytcfajbocgclccaa
