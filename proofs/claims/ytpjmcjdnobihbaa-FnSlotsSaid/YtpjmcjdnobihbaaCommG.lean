/- Contracts: MeetingSlots, the reference's and the program's. No conditions beyond sizes. -/
import Derived.Test.YtpjmcjdnobihbaaCommF
namespace Go.Proofs.Ytpjmcjdnobihbaa
open Go.RowKit
set_option linter.unusedVariables false
set_option linter.unusedSimpArgs false

/-- The first free slot from s on. -/
def slotF (xs : List DCommittee) (sl : List Int) : Nat → Int → Int
  | 0, s => s
  | f + 1, s => if freeB xs sl s then s else slotF xs sl f (s + 1)
def slotOf (xs : List DCommittee) (sl : List Int) : Int := slotF xs sl (sl.length + 1) 0
theorem slotF_bd {xs : List DCommittee} {sl : List Int} : ∀ (f m : Nat) (s : Int), m < f → freeB xs sl (s + m) = true → s ≤ slotF xs sl f s ∧ slotF xs sl f s ≤ s + m ∧ freeB xs sl (slotF xs sl f s) = true ∧ ∀ r, s ≤ r → r < slotF xs sl f s → freeB xs sl r = false := by
  intro f
  induction f with
  | zero => intro m s h; omega
  | succ f ih =>
    intro m s hm hf
    simp only [slotF]
    cases hs : freeB xs sl s with
    | true =>
      rw [if_pos rfl]
      exact ⟨by omega, by omega, hs, fun r h1 h2 => by omega⟩
    | false =>
      rw [if_neg (by simp)]
      have hm0 : m ≠ 0 := by
        rintro rfl
        simp at hf
        rw [hf] at hs
        cases hs
      obtain ⟨h1, h2, h3, h4⟩ := ih (m - 1) (s + 1) (by omega) (by have : s + 1 + ((m - 1 : Nat) : Int) = s + m := by omega
                                                                   rw [this]; exact hf)
      refine ⟨by omega, by omega, h3, fun r h5 h6 => ?_⟩
      by_cases hr : r = s
      · subst hr; exact hs
      · exact h4 r (by omega) h6
theorem slotOf_spec {xs : List DCommittee} {sl : List Int} (h : ∀ x ∈ sl, 0 ≤ x ∧ x < sl.length) : 0 ≤ slotOf xs sl ∧ slotOf xs sl ≤ sl.length ∧ freeB xs sl (slotOf xs sl) = true ∧ ∀ r, 0 ≤ r → r < slotOf xs sl → freeB xs sl r = false := by
  have := slotF_bd (xs := xs) (sl := sl) (sl.length + 1) sl.length 0 (by omega) (freeB_big (fun x hx => by have := h x hx; omega))
  unfold slotOf
  simpa using this
def meetL (xs : List DCommittee) : Nat → List Int
  | 0 => []
  | k + 1 => meetL xs k ++ [slotOf xs (meetL xs k)]
@[simp] theorem meetL_len (xs : List DCommittee) (k : Nat) : (meetL xs k).length = k := by
  induction k with
  | zero => rfl
  | succ k ih => simp [meetL, ih]
theorem meetL_bd (xs : List DCommittee) (k : Nat) : ∀ x ∈ meetL xs k, 0 ≤ x ∧ x < (meetL xs k).length := by
  induction k with
  | zero => intro x hx; simp [meetL] at hx
  | succ k ih =>
    intro x hx
    have hs := slotOf_spec (xs := xs) ih
    simp only [meetL, List.mem_append, List.mem_singleton] at hx
    simp only [meetL, List.length_append, List.length_singleton]
    rcases hx with hx | hx
    · have := ih x hx; omega
    · omega
def meetV (xs : List DCommittee) : List Int × Bool := if commsOk xs then (meetL xs xs.length, true) else ([], false)
theorem meetV_len (xs : List DCommittee) : (meetV xs).1.length ≤ 4000000 := by
  unfold meetV
  split
  · rename_i h; have := commsOk_len h; simp; omega
  · simp

set_option maxHeartbeats 2000000 in
theorem i_MeetingSlots (v : Value) (xs : List DCommittee) (w : World) (h : CommsAt w v xs) (hn : CommsLe xs) :
    Calls Try.prog 7 #[v] w fun e w' => ∃ u, e = .returned (.tuple #[u, .bool (meetV xs).2]) ∧ OwnInts w' w.heap.size u (meetV xs).1 ∧ Below w.heap.size w w' := by
  have HQ := i_AreCommittees v xs w h hn
  obtain ⟨ao, cap, rfl⟩ := h.form
  cases hok : commsOk xs with
  | false =>
    have HR : meetV xs = ([], false) := by simp [meetV, hok]
    rw [HR]
    rw [hok] at HQ
    have HQ' := Lib.hid HQ; clear HQ hok HR
    go_enter Try.func7, Try.ntmps7
    go_wp2_with (go_at_call 23; refine HQ'.out.mono ?_; rintro e w1 ⟨rfl, hb1⟩)
    go_ret2
    exact ⟨_, rfl, World.ownsRow_nil _ _ 3 1, hb1⟩
  | true =>
    have hx := commsOk_len hok
    have HR : meetV xs = (meetL xs xs.length, true) := by simp [meetV, hok]
    rw [HR]
    rw [hok] at HQ
    have HQ' := Lib.hid HQ; clear HQ hok HR
    go_enter Try.func7, Try.ntmps7
    go_wp2_with (go_at_call 23; refine HQ'.out.mono ?_; rintro e w1 ⟨rfl, hb1⟩)
    have ho1 : OwnInts (w1.alloc (.cells #[] 3)) w.heap.size (.slice (some ⟨w1.heap.size, 0, none⟩) 0 0) (meetL xs 0) := own_base (own_lit0 w1 3) hb1.size
    have hb1' : Below w.heap.size w (w1.alloc (.cells #[] 3)) := hb1.alloc hb1.size _
    go_loopw [4, 12] (fun o i wr => ∃ k : Nat, k ≤ xs.length ∧ i = .int .i64 k ∧ OwnInts wr w.heap.size o (meetL xs k) ∧ Below w.heap.size w wr) (fun _ i _ => xs.length - (intOf i).toNat)
    case atStart => exact ⟨0, by omega, rfl, ho1, hb1'⟩
    case round =>
      clear ho1 hb1'
      rename World => wa
      obtain ⟨k, hk, rfl, ho, hb⟩ := hrel
      by_cases hlt : k < xs.length
      · have hml := meetL_len xs k
        have hsp := slotOf_spec (xs := xs) (meetL_bd xs k)
        have HSP := Lib.hid hsp
        have hS0 := hsp.1; have hS1 : slotOf xs (meetL xs k) ≤ k := by have := hsp.2.1; rw [hml] at this; exact this
        have HNX : Hid (meetL xs (k + 1) = meetL xs k ++ [slotOf xs (meetL xs k)]) := rfl
        have HML := Lib.hid hml
        clear hsp hml
        obtain ⟨oo, oc, hof⟩ := ho.at_.form
        generalize hsl : meetL xs k = sl at *
        clear hsl
        generalize hS : slotOf xs sl = S at *
        clear hS
        subst hof
        go_wp2_with fail
        go_loopw [5] (fun s wr => ∃ t : Int, 0 ≤ t ∧ t ≤ S ∧ s = .int .i64 t ∧ Below wa.heap.size wa wr) (fun s _ => (S - intOf s).toNat)
        case atStart => exact ⟨0, by omega, by omega, rfl, Below.refl _ _⟩
        case round =>
          obtain ⟨t, ht0, ht1, rfl, hbt⟩ := hrel
          have hbb := below_step hb hbt
          have ho2 := OwnI.below ho hbt
          have hq := i_isFreeSlot _ _ xs sl t wr (h.below hbb) ho2.at_ (by rw [HML.out]; exact hlt) hx
          by_cases hts : t = S
          · subst hts
            rw [HSP.out.2.2.1] at hq
            have HQ2 := Lib.hid hq
            clear hq
            have hsl5 : sl.length ≤ 8 := by rw [HML.out]; omega
            go_wp2_with (first | (go_at_call 33; refine HQ2.out.mono ?_; rintro e w3 ⟨rfl, hb3⟩; have ho3 := OwnI.below ho2 hb3; have hb3' := below_step hbb hb3) | (at_builtin; refine wpList_push_int rfl (.tmp 21) (.tmp 23) _ rfl _ 3 _ int_info Try.underlying26 _ _ t rfl ho3 rfl hb3'.size (by omega) ?_; intro u' w4 ho4 hb4))
            go_roundw
            case rel => exact ⟨k + 1, by omega, by go_num, by rw [HNX.out]; exact ho4, hb3'.trans hb4⟩
            case measure => simp [intOf]; omega
          · rw [HSP.out.2.2.2 t ht0 (by omega)] at hq
            have HQ2 := Lib.hid hq
            clear hq
            go_wp2_with (go_at_call 33; refine HQ2.out.mono ?_; rintro e w3 ⟨rfl, hb3⟩)
            go_roundw
            case rel => exact ⟨t + 1, by omega, by omega, rfl, below_step hbt hb3⟩
            case measure => simp [intOf]; omega
      · obtain rfl : k = xs.length := by omega
        go_wp2_with fail
        go_ret2
        exact ⟨_, rfl, ho, hb⟩

set_option maxHeartbeats 2000000 in
theorem s_MeetingSlots (v : Value) (xs : List DCommittee) (w : World) (h : CommsAt w v xs) (hn : CommsLe xs) :
    Calls Try.prog 8 #[v] w fun e w' => ∃ u, e = .returned (.tuple #[u, .bool (meetV xs).2]) ∧ OwnInts w' w.heap.size u (meetV xs).1 ∧ Below w.heap.size w w' := by
  obtain ⟨W, hW⟩ : ∃ W, W = w.alloc (.cells #[] 3) := ⟨_, rfl⟩
  have hWb : Below w.heap.size w W := by rw [hW]; exact (Below.refl _ _).alloc (Nat.le_refl _) _
  have ho0 : OwnInts W w.heap.size (.slice (some ⟨w.heap.size, 0, none⟩) 0 0) [] := by rw [hW]; exact own_lit0 w 3
  have HW := Lib.hid hW; clear hW
  have HQ := s_l15Good v xs W (h.below hWb) hn
  obtain ⟨ao, cap, rfl⟩ := h.form
  cases hok : commsOk xs with
  | false =>
    have HR : meetV xs = ([], false) := by simp [meetV, hok]
    rw [HR]
    rw [hok] at HQ
    have HQ' := Lib.hid HQ; clear HQ hok HR
    go_enter Try.func8, Try.ntmps8
    go_wp2_with fail
    rw [← HW.out]
    refine HQ'.out.mono ?_
    rintro e w1 ⟨rfl, hb1⟩
    go_wp2_with fail
    go_ret2
    exact ⟨_, rfl, OwnI.below ho0 hb1, below_step hWb hb1⟩
  | true =>
    have hx := commsOk_len hok
    have HR : meetV xs = (meetL xs xs.length, true) := by simp [meetV, hok]
    rw [HR]
    rw [hok] at HQ
    have HQ' := Lib.hid HQ; clear HQ hok HR
    go_enter Try.func8, Try.ntmps8
    go_wp2_with fail
    rw [← HW.out]
    refine HQ'.out.mono ?_
    rintro e w1 ⟨rfl, hb1⟩
    have ho1 := OwnI.below ho0 hb1
    have hb1' := below_step hWb hb1
    go_wp2_with fail
    go_loopw [4, 5] (fun o i wr => ∃ k : Nat, k ≤ xs.length ∧ i = .int .i64 k ∧ OwnInts wr w.heap.size o (meetL xs k) ∧ Below w.heap.size w wr) (fun _ i _ => xs.length - (intOf i).toNat)
    case atStart => exact ⟨0, by omega, rfl, ho1, hb1'⟩
    case round =>
      clear ho1 ho0
      rename World => wa
      obtain ⟨k, hk, rfl, ho, hb⟩ := hrel
      by_cases hlt : k < xs.length
      · have hml := meetL_len xs k
        have hsp := slotOf_spec (xs := xs) (meetL_bd xs k)
        have HSP := Lib.hid hsp
        have hS0 := hsp.1; have hS1 : slotOf xs (meetL xs k) ≤ k := by have := hsp.2.1; rw [hml] at this; exact this
        have HNX : Hid (meetL xs (k + 1) = meetL xs k ++ [slotOf xs (meetL xs k)]) := rfl
        have HML := Lib.hid hml
        clear hsp hml
        obtain ⟨oo, oc, hof⟩ := ho.at_.form
        generalize hsl : meetL xs k = sl at *
        clear hsl
        generalize hS : slotOf xs sl = S at *
        clear hS
        subst hof
        go_wp2_with fail
        go_loopw [6] (fun s wr => ∃ t : Int, 0 ≤ t ∧ t ≤ S ∧ s = .int .i64 t ∧ Below wa.heap.size wa wr) (fun s _ => (S - intOf s).toNat)
        case atStart => exact ⟨0, by omega, by omega, rfl, Below.refl _ _⟩
        case round =>
          obtain ⟨t, ht0, ht1, rfl, hbt⟩ := hrel
          have hbb := below_step hb hbt
          have ho2 := OwnI.below ho hbt
          have hq := s_l15Free _ _ xs sl t wr (h.below hbb) ho2.at_ (by rw [HML.out]; exact hlt) hx
          by_cases hts : t = S
          · subst hts
            rw [HSP.out.2.2.1] at hq
            have HQ2 := Lib.hid hq
            clear hq
            have hsl5 : sl.length ≤ 8 := by rw [HML.out]; omega
            go_wp2_with (first | (go_at_call 35; refine HQ2.out.mono ?_; rintro e w3 ⟨rfl, hb3⟩; have ho3 := OwnI.below ho2 hb3; have hb3' := below_step hbb hb3) | (at_builtin; refine wpList_push_int rfl (.tmp 25) (.tmp 27) _ rfl _ 3 _ int_info Try.underlying26 _ _ t rfl ho3 rfl hb3'.size (by omega) ?_; intro u' w4 ho4 hb4))
            go_roundw
            case rel => exact ⟨k + 1, by omega, by go_num, by rw [HNX.out]; exact ho4, hb3'.trans hb4⟩
            case measure => simp [intOf]; omega
          · rw [HSP.out.2.2.2 t ht0 (by omega)] at hq
            have HQ2 := Lib.hid hq
            clear hq
            go_wp2_with (go_at_call 35; refine HQ2.out.mono ?_; rintro e w3 ⟨rfl, hb3⟩)
            go_roundw
            case rel => exact ⟨t + 1, by omega, by omega, rfl, below_step hbt hb3⟩
            case measure => simp [intOf]; omega
      · obtain rfl : k = xs.length := by omega
        go_wp2_with fail
        go_ret2
        exact ⟨_, rfl, ho, hb⟩

end Go.Proofs.Ytpjmcjdnobihbaa
