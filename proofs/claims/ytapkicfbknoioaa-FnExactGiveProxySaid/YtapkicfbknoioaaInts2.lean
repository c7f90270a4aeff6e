/- Contracts: copies of slices of ints, membership, removal; marks within bounds. No conditions beyond sizes. -/
import Derived.Test.YtapkicfbknoioaaIntS
import Derived.Test.YtapkicfbknoioaaMem
namespace Go.Proofs.Ytapkicfbknoioaa
open Go.RowKit
set_option linter.unusedVariables false
set_option linter.unusedSimpArgs false

theorem s_l1Own (v : Value) (xs : List Int) (w : World) (h : IntsAt w v xs) (hn : xs.length ≤ 2097152) :
    Calls Try.prog 75 #[v] w fun e w' => ∃ u, e = .returned u ∧ OwnInts w' w.heap.size u xs ∧ Below w.heap.size w w' := by
  obtain ⟨i0, hi, hz0, hz1, hz2⟩ := info_parts int_info
  have hlit := World.ownsRow_lit (base := w.heap.size) (e := 3) (size := 1) w #[] 0 (Nat.le_refl _) (by simp [maxLen]) rfl
  have hr : RowAt (w.alloc (.cells #[] 3)) v xs.length 1 (ints xs) := h.alloc _
  obtain ⟨ao, cap, rfl⟩ := h.form
  go_enter Try.func75, Try.ntmps75
  go_wp2_with (at_builtin; refine wpList_append_row _ rfl (.tmp 3) (.tmp 4) _ rfl w.heap.size 3 i0 (.int .i64 0) 1 8 Try.underlying22 hi hz0 hz1 hz2 rfl (by decide) (.slice (some ⟨w.heap.size, 0, none⟩) 0 0) 0 [] rfl hlit _ xs.length (ints xs) rfl hr (ints_one xs) (by unfold maxLen; omega) (by omega) (by simp) ?_; intro u w1 hown hg _)
  go_ret
  exact ⟨u, rfl, by simpa [OwnI] using hown, ((Below.refl _ _).alloc (Nat.le_refl _) _).grown hg (by simp) (by simp [Value.ownBlock])⟩

theorem i_copyInts (v : Value) (xs : List Int) (w : World) (h : IntsAt w v xs) (hn : xs.length ≤ 2097152) :
    Calls Try.prog 47 #[v] w fun e w' => ∃ u, e = .returned u ∧ OwnInts w' w.heap.size u xs ∧ Below w.heap.size w w' := by
  obtain ⟨i0, hi, hz0, hz1, hz2⟩ := info_parts int_info
  have hlit := World.ownsRow_lit (base := w.heap.size) (e := 3) (size := 1) w #[] 0 (Nat.le_refl _) (by simp [maxLen]) rfl
  have hr : RowAt (w.alloc (.cells #[] 3)) v xs.length 1 (ints xs) := h.alloc _
  obtain ⟨ao, cap, rfl⟩ := h.form
  go_enter Try.func47, Try.ntmps47
  go_wp2_with (at_builtin; refine wpList_append_row _ rfl (.tmp 3) (.tmp 4) _ rfl w.heap.size 3 i0 (.int .i64 0) 1 8 Try.underlying22 hi hz0 hz1 hz2 rfl (by decide) (.slice (some ⟨w.heap.size, 0, none⟩) 0 0) 0 [] rfl hlit _ xs.length (ints xs) rfl hr (ints_one xs) (by unfold maxLen; omega) (by omega) (by simp) ?_; intro u w1 hown hg _)
  go_ret
  exact ⟨u, rfl, by simpa [OwnI] using hown, ((Below.refl _ _).alloc (Nat.le_refl _) _).grown hg (by simp) (by simp [Value.ownBlock])⟩

/-- A number is in a list. -/
def hasB (xs : List Int) (n : Int) : Bool := xs.contains n
theorem hasB_iff {xs : List Int} {n : Int} : hasB xs n = true ↔ n ∈ xs := by simp [hasB]

/-- The marks of a slice of ints, within bounds. -/
def OwnR (e : TypeId) (w : World) (lo hi : Nat) (v : Value) (xs : List Int) : Prop := OwnIn e 1 lo hi w v xs.length (ints xs)
theorem OwnR.of {e B : Nat} {w : World} {v : Value} {xs : List Int} (h : OwnI e w B v xs) : OwnR e w B w.heap.size v xs := OwnIn.of h
theorem OwnR.keep {e lo hi : Nat} {w w' : World} {v : Value} {xs : List Int} (h : OwnR e w lo hi v xs) (hs : SameIn lo hi w w') : OwnR e w' lo hi v xs := OwnIn.keep h hs
theorem OwnR.at_ {e lo hi : Nat} {w : World} {v : Value} {xs : List Int} (h : OwnR e w lo hi v xs) : IntsAt w v xs := OwnIn.at_ h

theorem OwnI.toR {e B : Nat} {w : World} {v : Value} {xs : List Int} (h : OwnI e w B v xs) : OwnR e w B w.heap.size v xs := OwnIn.of h
theorem OwnR.hiLe {e lo hi : Nat} {w : World} {v : Value} {xs : List Int} (h : OwnR e w lo hi v xs) : hi ≤ w.heap.size := h.2.2

theorem heldIntS_n (v : Value) (xs : List Int) (k : Int) (w : World) (h : IntsAt w v (upFrom k xs.length)) (hk : 0 ≤ k) (hk2 : k + xs.length ≤ 9000000000000000000) :
    Calls Try.prog 54 #[v, .int .i64 k] w fun e w' => e = .returned (.int .i64 (k + xs.length)) ∧ Below w.heap.size w w' := by
  have := heldIntS_c v (upFrom k xs.length) k w h (by simp) hk (by simpa using hk2)
  simpa using this

theorem markIntS_r (lo hi : Nat) (v : Value) (xs : List Int) (k : Int) (w : World) (h : OwnR 3 w lo hi v xs) (hk : 0 ≤ k) (hk2 : k + xs.length ≤ 9000000000000000000) :
    Calls Try.prog 52 #[v, .int .i64 k] w fun e w' => e = .returned (.int .i64 (k + xs.length)) ∧ OwnR 3 w' lo hi v (upFrom k xs.length) ∧ OutOf lo hi w w' :=
  (markIntS_c lo v xs.length (ints xs) k w h.1 hk hk2).mono fun e w' ⟨he, ho, hg⟩ =>
    ⟨he, ⟨by simpa using ho, h.2.1, Nat.le_trans h.2.2 hg.size⟩, OutOf.of_grown hg fun b hb => ⟨(h.1.lt b hb).1, h.2.1 b hb⟩⟩

end Go.Proofs.Ytapkicfbknoioaa
