/- Contracts: removal of a number from a list (by slices.DeleteFunc; by a loop of appends). No conditions beyond sizes. -/
import Derived.Test.YtpjmcjdnobihbaaDelete
namespace Go.Proofs.Ytpjmcjdnobihbaa
open Go.RowKit
set_option linter.unusedVariables false
set_option linter.unusedSimpArgs false

/-- A list without a number. -/
abbrev outB (n : Int) (xs : List Int) : List Int := keepF (fun y => y == n) xs
theorem outB_len (n : Int) (xs : List Int) : (outB n xs).length ≤ xs.length := List.length_filter_le _ _

theorem i_without1 (x n : Int) (b : Nat) (w : World) (h : w.cell? ⟨b, 0, none⟩ = some (.int .i64 n)) :
    Calls Try.prog 83 #[.int .i64 x, .pointer (some ⟨b, 0, none⟩)] w fun e w' => e = .returned (.bool (x == n)) ∧ w = w' := by
  go_enter Try.func83, Try.ntmps83
  go_wp2
  go_ret
  exact ⟨rfl, rfl⟩

set_option maxHeartbeats 1000000 in
theorem i_without (v : Value) (xs : List Int) (n : Int) (w : World) (h : IntsAt w v xs) (hn : xs.length ≤ 1048576) :
    Calls Try.prog 55 #[v, .int .i64 n] w fun e w' => ∃ u, e = .returned u ∧ OwnInts w' w.heap.size u (outB n xs) ∧ Below w.heap.size w w' := by
  obtain ⟨ao, cap, rfl⟩ := h.form
  obtain ⟨W, hW⟩ : ∃ W, W = w.alloc (.cells #[.int .i64 n] 3) := ⟨_, rfl⟩
  have bN : BoxAt W w.heap.size #[.int .i64 n] := by rw [hW]; exact BoxAt.new _ _ _
  have hWb : Below w.heap.size w W := by rw [hW]; go_grown
  have hI : IntsAt W (.slice ao xs.length cap) xs := h.below hWb
  have HW := Lib.hid hW; clear hW
  go_enter Try.func55, Try.ntmps55
  go_wp2_with fail
  rw [← HW.out]
  refine (i_copyInts _ xs _ hI (by omega)).mono ?_
  rintro e w1 ⟨u, rfl, ho, hb1⟩
  have B1 := bN.below hb1
  have hlt := bN.1
  have hdel := DeleteFunc_int 83 (enters_of Try.func83 (by kernel_rfl) (by kernel_rfl)) [.pointer (some ⟨w.heap.size, 0, none⟩)] (fun y => y == n) W.heap.size u xs w1 ho hb1.size
    (fun x w' hb => (i_without1 x n w.heap.size w' (by rw [hb.cell (p := ⟨w.heap.size, 0, none⟩) hlt]; simpa using B1.cells 0)).mono fun e w'' ⟨he, hw⟩ => ⟨he, hw ▸ Below.refl _ _⟩)
  have HD := Lib.hid hdel; clear hdel
  obtain ⟨a1, k1, rfl⟩ := ho.at_.form
  go_wp2_with fail
  refine HD.out.mono ?_
  rintro e w2 ⟨u2, rfl, ho2, hb2⟩
  obtain ⟨a2, k2, rfl⟩ := ho2.at_.form
  go_wp2_with fail
  go_ret
  exact ⟨_, rfl, own_base ho2 hWb.size, hWb.trans ((hb1.trans hb2).mono hWb.size)⟩

end Go.Proofs.Ytpjmcjdnobihbaa
