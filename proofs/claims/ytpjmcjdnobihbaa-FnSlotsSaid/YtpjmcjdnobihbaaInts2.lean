/- Contracts: copies of slices of ints, membership, removal; marks within bounds. No conditions beyond sizes. -/
import Derived.Test.YtpjmcjdnobihbaaIntS
import Derived.Test.YtpjmcjdnobihbaaMem
namespace Go.Proofs.Ytpjmcjdnobihbaa
open Go.RowKit
set_option linter.unusedVariables false
set_option linter.unusedSimpArgs false

theorem s_l1Own (v : Value) (xs : List Int) (w : World) (h : IntsAt w v xs) (hn : xs.length ≤ 2097152) :
    Calls Try.prog 68 #[v] w fun e w' => ∃ u, e = .returned u ∧ OwnInts w' w.heap.size u xs ∧ Below w.heap.size w w' := by
  obtain ⟨i0, hi, hz0, hz1, hz2⟩ := info_parts int_info
  have hlit := World.ownsRow_lit (base := w.heap.size) (e := 3) (size := 1) w #[] 0 (Nat.le_refl _) (by simp [maxLen]) rfl
  have hr : RowAt (w.alloc (.cells #[] 3)) v xs.length 1 (ints xs) := h.alloc _
  obtain ⟨ao, cap, rfl⟩ := h.form
  go_enter Try.func68, Try.ntmps68
  go_wp2_with (at_builtin; refine wpList_append_row _ rfl (.tmp 3) (.tmp 4) _ rfl w.heap.size 3 i0 (.int .i64 0) 1 8 Try.underlying26 hi hz0 hz1 hz2 rfl (by decide) (.slice (some ⟨w.heap.size, 0, none⟩) 0 0) 0 [] rfl hlit _ xs.length (ints xs) rfl hr (ints_one xs) (by unfold maxLen; omega) (by omega) (by simp) ?_; intro u w1 hown hg _)
  go_ret
  exact ⟨u, rfl, by simpa [OwnI] using hown, ((Below.refl _ _).alloc (Nat.le_refl _) _).grown hg (by simp) (by simp [Value.ownBlock])⟩

theorem i_copyInts (v : Value) (xs : List Int) (w : World) (h : IntsAt w v xs) (hn : xs.length ≤ 2097152) :
    Calls Try.prog 64 #[v] w fun e w' => ∃ u, e = .returned u ∧ OwnInts w' w.heap.size u xs ∧ Below w.heap.size w w' := by
  obtain ⟨i0, hi, hz0, hz1, hz2⟩ := info_parts int_info
  have hlit := World.ownsRow_lit (base := w.heap.size) (e := 3) (size := 1) w #[] 0 (Nat.le_refl _) (by simp [maxLen]) rfl
  have hr : RowAt (w.alloc (.cells #[] 3)) v xs.length 1 (ints xs) := h.alloc _
  obtain ⟨ao, cap, rfl⟩ := h.form
  go_enter Try.func64, Try.ntmps64
  go_wp2_with (at_builtin; refine wpList_append_row _ rfl (.tmp 3) (.tmp 4) _ rfl w.heap.size 3 i0 (.int .i64 0) 1 8 Try.underlying26 hi hz0 hz1 hz2 rfl (by decide) (.slice (some ⟨w.heap.size, 0, none⟩) 0 0) 0 [] rfl hlit _ xs.length (ints xs) rfl hr (ints_one xs) (by unfold maxLen; omega) (by omega) (by simp) ?_; intro u w1 hown hg _)
  go_ret
  exact ⟨u, rfl, by simpa [OwnI] using hown, ((Below.refl _ _).alloc (Nat.le_refl _) _).grown hg (by simp) (by simp [Value.ownBlock])⟩

/-- A number is in a list. -/
def hasB (xs : List Int) (n : Int) : Bool := xs.contains n
theorem hasB_iff {xs : List Int} {n : Int} : hasB xs n = true ↔ n ∈ xs := by simp [hasB]

theorem s_l1Has (v : Value) (xs : List Int) (n : Int) (w : World) (h : IntsAt w v xs) :
    Calls Try.prog 42 #[v, .int .i64 n] w fun e w' => e = .returned (.bool (hasB xs n)) ∧ w = w' := by
  obtain ⟨_, ao, cap, rfl, h1, h2, h3⟩ := h
  unfold maxLen at h2
  go_enter Try.func42, Try.ntmps42
  go_wp2
  go_loop [5] (fun i => ∃ k : Nat, k ≤ xs.length ∧ i = .int .i64 k ∧ Hid (hasB xs n = hasB (xs.drop k) n)) (fun i => xs.length - (intOf i).toNat)
  case atStart => exact ⟨0, by omega, rfl, by simp [Hid]⟩
  case round =>
    obtain ⟨k, hk, rfl, hd⟩ := hrel
    by_cases hlt : k < xs.length
    · obtain ⟨b, off, rfl, h4, h5⟩ := h3 (by omega)
      have hc : w.cell? ⟨b, off + k, none⟩ = some (.int .i64 xs[k]) := h5.int hlt
      have hd' := hd.out
      simp only [drop_at hlt, hasB, List.contains_cons] at hd'
      clear hd
      by_cases hx : xs[k] = n
      · have HD : Hid (hasB xs n = true) := by simp only [Hid, hasB]; rw [hd']; simp [hx]
        have hb1 : (xs[k] == n) = true := by simp [hx]
        generalize xs[k] = x at *
        clear hd' hx
        go_wp2
        go_ret
        exact ⟨ret_bool HD.out.symm, rfl⟩
      · have HD : Hid (hasB xs n = hasB (xs.drop (k + 1)) n) := by
          simp only [Hid, hasB]; rw [hd']
          have : (n == xs[k]) = false := by simp; exact fun e => hx e.symm
          rw [this, Bool.false_or]
        have hb1 : (xs[k] == n) = false := by simp [hx]
        generalize xs[k] = x at *
        clear hd' hx
        go_wp2
        go_round
        case rel => exact ⟨k + 1, by omega, by go_num, HD⟩
        case measure => simp [intOf]; omega
    · have HD : Hid (hasB xs n = false) := by
        have := hd.out
        rw [List.drop_of_length_le (by omega)] at this
        simpa [Hid, hasB] using this
      clear hd
      go_wp2
      go_ret
      exact ⟨ret_bool HD.out.symm, rfl⟩

theorem slices_Index (v : Value) (xs : List Int) (n : Int) (w : World) (h : IntsAt w v xs) :
    Calls Try.prog 81 #[v, .int .i64 n] w fun e w' => e = .returned (.int .i64 (idxFrom (fun x => n == x) 0 xs)) ∧ w = w' := by
  obtain ⟨_, ao, cap, rfl, h1, h2, h3⟩ := h
  unfold maxLen at h2
  go_enter Try.func81, Try.ntmps81
  go_wp2
  go_loop [8] (fun i => ∃ k : Nat, k ≤ xs.length ∧ i = .int .i64 k ∧ Hid (idxFrom (fun x => n == x) 0 xs = idxFrom (fun x => n == x) k (xs.drop k))) (fun i => xs.length - (intOf i).toNat)
  case atStart => exact ⟨0, by omega, rfl, by simp [Hid]⟩
  case round =>
    obtain ⟨k, hk, rfl, hd⟩ := hrel
    by_cases hlt : k < xs.length
    · obtain ⟨b, off, rfl, h4, h5⟩ := h3 (by omega)
      have hc : w.cell? ⟨b, off + k, none⟩ = some (.int .i64 xs[k]) := h5.int hlt
      have hd' := hd.out
      simp only [drop_at hlt, idxFrom] at hd'
      clear hd
      cases hx : (n == xs[k]) with
      | true =>
        have HD : Hid (idxFrom (fun x => n == x) 0 xs = k) := by simpa [Hid, hx] using hd'
        generalize xs[k] = x at *
        clear hd'
        go_wp2
        go_ret
        exact ⟨ret_int HD.out.symm, rfl⟩
      | false =>
        have HD : Hid (idxFrom (fun x => n == x) 0 xs = idxFrom (fun x => n == x) (k + 1) (xs.drop (k + 1))) := by simpa [Hid, hx] using hd'
        generalize xs[k] = x at *
        clear hd'
        go_wp2
        go_round
        case rel => exact ⟨k + 1, by omega, by go_num, HD⟩
        case measure => simp [intOf]; omega
    · have HD : Hid (idxFrom (fun x => n == x) 0 xs = -1) := by
        have := hd.out
        rw [List.drop_of_length_le (by omega)] at this
        simpa [Hid, idxFrom] using this
      clear hd
      go_wp2
      go_ret
      exact ⟨ret_int HD.out.symm, rfl⟩

theorem slices_Contains (v : Value) (xs : List Int) (n : Int) (w : World) (h : IntsAt w v xs) :
    Calls Try.prog 54 #[v, .int .i64 n] w fun e w' => e = .returned (.bool (hasB xs n)) ∧ w = w' := by
  have hany : decide (0 ≤ idxFrom (fun x => n == x) 0 xs) = hasB xs n := by
    unfold hasB
    rw [idxFrom_eq, idxBy_neg, List.contains_eq_any_beq]
  have HA := Lib.hid hany; clear hany
  go_enter Try.func54, Try.ntmps54
  go_wp2_with (go_at_call 81; refine (slices_Index _ xs _ _ h).mono ?_; rintro e w' ⟨rfl, rfl⟩)
  go_ret
  exact ⟨ret_bool (by rw [← HA.out]), rfl⟩

/-- The marks of a slice of ints, within bounds. -/
def OwnR (e : TypeId) (w : World) (lo hi : Nat) (v : Value) (xs : List Int) : Prop := OwnIn e 1 lo hi w v xs.length (ints xs)
theorem OwnR.of {e B : Nat} {w : World} {v : Value} {xs : List Int} (h : OwnI e w B v xs) : OwnR e w B w.heap.size v xs := OwnIn.of h
theorem OwnR.keep {e lo hi : Nat} {w w' : World} {v : Value} {xs : List Int} (h : OwnR e w lo hi v xs) (hs : SameIn lo hi w w') : OwnR e w' lo hi v xs := OwnIn.keep h hs
theorem OwnR.at_ {e lo hi : Nat} {w : World} {v : Value} {xs : List Int} (h : OwnR e w lo hi v xs) : IntsAt w v xs := OwnIn.at_ h

theorem OwnI.toR {e B : Nat} {w : World} {v : Value} {xs : List Int} (h : OwnI e w B v xs) : OwnR e w B w.heap.size v xs := OwnIn.of h
theorem OwnR.hiLe {e lo hi : Nat} {w : World} {v : Value} {xs : List Int} (h : OwnR e w lo hi v xs) : hi ≤ w.heap.size := h.2.2

end Go.Proofs.Ytpjmcjdnobihbaa
