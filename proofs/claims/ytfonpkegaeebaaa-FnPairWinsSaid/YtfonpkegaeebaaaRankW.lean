/- Contracts: PluralityWinners, the reference's and the program's. No conditions beyond sizes. -/
import Derived.Test.YtfonpkegaeebaaaRankF
import Derived.Test.YtfonpkegaeebaaaUpTo
namespace Go.Proofs.Ytfonpkegaeebaaa
open Go.RowKit
set_option linter.unusedVariables false
set_option linter.unusedSimpArgs false

/-- The greatest of the first k numbers. -/
def mxK (xs : List Int) : Nat → Int
  | 0 => xs.getD 0 0
  | k + 1 => if mxK xs k ≤ xs.getD k 0 then xs.getD k 0 else mxK xs k
theorem mxK_one (xs : List Int) : mxK xs 1 = xs.getD 0 0 := by simp [mxK]
theorem mxK_up {xs : List Int} {k : Nat} (h : mxK xs k ≤ xs.getD k 0) : mxK xs (k + 1) = xs.getD k 0 := if_pos h
theorem mxK_stay {xs : List Int} {k : Nat} (h : ¬ mxK xs k ≤ xs.getD k 0) : mxK xs (k + 1) = mxK xs k := if_neg h
/-- The places, of the first k, where M stands. -/
def winL (M : Int) (xs : List Int) : Nat → List Int
  | 0 => []
  | k + 1 => winL M xs k ++ (if xs.getD k 0 == M then [(k : Int)] else [])
theorem winL_len (M : Int) (xs : List Int) (k : Nat) : (winL M xs k).length ≤ k := by
  induction k with
  | zero => simp [winL]
  | succ k ih =>
    simp only [winL, List.length_append]
    split <;> simp <;> omega
theorem winL_on {M : Int} {xs : List Int} {k : Nat} (h : (xs.getD k 0 == M) = true) : winL M xs (k + 1) = winL M xs k ++ [(k : Int)] := by simp only [winL, h, if_true]
theorem winL_off {M : Int} {xs : List Int} {k : Nat} (h : (xs.getD k 0 == M) = false) : winL M xs (k + 1) = winL M xs k := by simp only [winL, h]; simp
def best (xs : List Int) : List Int := winL (mxK xs xs.length) xs xs.length

set_option maxHeartbeats 1000000 in
theorem slices_Max (v : Value) (xs : List Int) (w : World) (h : IntsAt w v xs) (h1 : 1 ≤ xs.length) :
    Calls Try.prog 54 #[v] w fun e w' => e = .returned (.int .i64 (mxK xs xs.length)) ∧ w = w' := by
  obtain ⟨_, ao, cap, rfl, p1, p2, p3⟩ := h
  unfold maxLen at p2
  obtain ⟨b, off, rfl, h4, h5⟩ := p3 (by omega)
  have hc0 := h5.int (show 0 < xs.length from h1)
  rw [← getD_eqy h1, ← mxK_one xs] at hc0
  simp only [Nat.add_zero] at hc0
  have hlb : ¬ ((xs.length : Int) < 1) := by omega
  have h0b : (0 : Int) < (xs.length : Int) := by omega
  go_enter Try.func54, Try.ntmps54
  go_wp2_with fail
  go_loopw [3, 4] (fun m i wr => ∃ k : Nat, 1 ≤ k ∧ k ≤ xs.length ∧ i = .int .i64 k ∧ m = .int .i64 (mxK xs k) ∧ w = wr) (fun _ i _ => xs.length - (intOf i).toNat)
  case atStart => exact ⟨1, by omega, by omega, rfl, rfl, by trivial⟩
  case round =>
    obtain ⟨k, hk1, hk, rfl, rfl, rfl⟩ := hrel
    by_cases hlt : k < xs.length
    · have hc := h5.int hlt
      rw [← getD_eqy hlt] at hc
      by_cases hm : mxK xs k ≤ xs.getD k 0
      · have HM := Lib.hid (mxK_up hm)
        generalize mxK xs k = m at *
        generalize xs.getD k 0 = x at *
        go_wp2_with fail
        go_roundw
        case rel => exact ⟨k + 1, by omega, by omega, by go_num, by first | (rw [HM.out]; done) | (rw [HM.out]; congr 1; omega), by trivial⟩
        case measure => simp [intOf]; omega
      · have HM := Lib.hid (mxK_stay hm)
        generalize mxK xs k = m at *
        generalize xs.getD k 0 = x at *
        go_wp2_with fail
        go_roundw
        case rel => exact ⟨k + 1, by omega, by omega, by go_num, by first | (rw [HM.out]; done) | (rw [HM.out]; congr 1; omega), by trivial⟩
        case measure => simp [intOf]; omega
    · obtain rfl : k = xs.length := by omega
      go_wp2_with fail
      go_ret
      exact ⟨rfl, rfl⟩

theorem s_l1Most2 (a b : Int) (w : World) :
    Calls Try.prog 55 #[.int .i64 a, .int .i64 b] w fun e w' => e = .returned (.int .i64 (max a b)) ∧ w = w' := by
  by_cases h : b < a
  · go_enter Try.func55, Try.ntmps55
    go_wp2
    go_ret
    exact ⟨ret_int (by omega), rfl⟩
  · go_enter Try.func55, Try.ntmps55
    go_wp2
    go_ret
    exact ⟨ret_int (by omega), rfl⟩

set_option maxHeartbeats 2000000 in
theorem s_l13Best (v : Value) (xs : List Int) (w : World) (h : IntsAt w v xs) (h1 : 1 ≤ xs.length) (hx : xs.length ≤ 1000) :
    Calls Try.prog 40 #[v] w fun e w' => ∃ p, e = .returned p ∧ OwnInts w' w.heap.size p (best xs) ∧ Below w.heap.size w w' := by
  obtain ⟨_, ao, cap, rfl, p1, p2, p3⟩ := h
  unfold maxLen at p2
  obtain ⟨b, off, rfl, h4, h5⟩ := p3 (by omega)
  have hc0 := h5.int (show 0 < xs.length from h1)
  rw [← getD_eqy h1] at hc0
  simp only [Nat.add_zero] at hc0
  have h0b : (0 : Int) < (xs.length : Int) := by omega
  have ho1 : OwnInts (w.alloc (.cells #[] 3)) w.heap.size (.slice (some ⟨w.heap.size, 0, none⟩) 0 0) (winL (mxK xs xs.length) xs 0) := own_lit0 w 3
  have hb1 : Below w.heap.size w (w.alloc (.cells #[] 3)) := (Below.refl _ _).alloc (Nat.le_refl _) _
  go_enter Try.func40, Try.ntmps40
  go_wp2_with fail
  go_loopw [3, 4] (fun m i wr => ∃ k : Nat, k ≤ xs.length ∧ i = .int .i64 k ∧ m = .int .i64 (mxK xs k) ∧ w = wr) (fun _ i _ => xs.length - (intOf i).toNat)
  case atStart => exact ⟨0, by omega, rfl, rfl, by trivial⟩
  case round =>
    obtain ⟨k, hk, rfl, rfl, rfl⟩ := hrel
    by_cases hlt : k < xs.length
    · have hc := h5.int hlt
      rw [← getD_eqy hlt] at hc
      have HM : Hid (mxK xs (k + 1) = max (mxK xs k) (xs.getD k 0)) := by
        simp only [Hid]
        by_cases hm : mxK xs k ≤ xs.getD k 0
        · rw [mxK_up hm]; omega
        · rw [mxK_stay hm]; omega
      generalize mxK xs k = m at *
      generalize xs.getD k 0 = x at *
      go_wp2_with (go_at_call 55; refine (s_l1Most2 _ _ _).mono ?_; rw [← HM.out]; rintro e w' ⟨rfl, rfl⟩)
      go_roundw
      case rel => exact ⟨k + 1, by omega, by go_num, rfl, by trivial⟩
      case measure => simp [intOf]; omega
    · obtain rfl : k = xs.length := by omega
      go_wp2_with fail
      go_loopw [5, 6] (fun o i wr => ∃ k : Nat, k ≤ xs.length ∧ i = .int .i64 k ∧ OwnInts wr w.heap.size o (winL (mxK xs xs.length) xs k) ∧ Below w.heap.size w wr) (fun _ i _ => xs.length - (intOf i).toNat)
      case atStart => exact ⟨0, by omega, rfl, ho1, hb1⟩
      case round =>
        obtain ⟨k, hk, rfl, ho, hb⟩ := hrel
        by_cases hlt : k < xs.length
        · have hc := (hb.cell (p := ⟨b, off + k, none⟩) h4).trans (h5.int hlt)
          rw [← getD_eqy hlt] at hc
          have hlen := winL_len (mxK xs xs.length) xs k
          cases he : (xs.getD k 0 == mxK xs xs.length) with
          | true =>
            have HW := Lib.hid (winL_on he)
            generalize xs.getD k 0 = x at *
            generalize mxK xs xs.length = M at *
            go_wp2_with (at_builtin; refine wpList_push_int rfl (.tmp 35) (.tmp 37) _ rfl _ 3 _ int_info Try.underlying27 _ _ (k : Int) rfl ho rfl hb.size (by omega) ?_; intro u' w3 ho3 hb3)
            go_roundw
            case rel => exact ⟨k + 1, by omega, by go_num, by rw [HW.out]; exact ho3, hb.trans hb3⟩
            case measure => simp [intOf]; omega
          | false =>
            have HW := Lib.hid (winL_off he)
            generalize xs.getD k 0 = x at *
            generalize mxK xs xs.length = M at *
            go_wp2_with fail
            go_roundw
            case rel => exact ⟨k + 1, by omega, by go_num, by rw [HW.out]; exact ho, hb⟩
            case measure => simp [intOf]; omega
        · obtain rfl : k = xs.length := by omega
          go_wp2_with fail
          go_ret
          exact ⟨_, rfl, ho, hb⟩

set_option maxHeartbeats 2000000 in
theorem i_winners (v : Value) (xs : List Int) (w : World) (h : IntsAt w v xs) (h1 : 1 ≤ xs.length) (hx : xs.length ≤ 1000) :
    Calls Try.prog 39 #[v] w fun e w' => ∃ p, e = .returned p ∧ OwnInts w' w.heap.size p (best xs) ∧ Below w.heap.size w w' := by
  have HI := h
  obtain ⟨_, ao, cap, rfl, p1, p2, p3⟩ := h
  unfold maxLen at p2
  obtain ⟨b, off, rfl, h4, h5⟩ := p3 (by omega)
  have ho1 : OwnInts (w.alloc (.cells #[] 3)) w.heap.size (.slice (some ⟨w.heap.size, 0, none⟩) 0 0) (winL (mxK xs xs.length) xs 0) := own_lit0 w 3
  have hb1 : Below w.heap.size w (w.alloc (.cells #[] 3)) := (Below.refl _ _).alloc (Nat.le_refl _) _
  go_enter Try.func39, Try.ntmps39
  go_wp2_with fail
  go_loopw [3, 9] (fun o i wr => ∃ k : Nat, k ≤ xs.length ∧ i = .int .i64 k ∧ OwnInts wr w.heap.size o (winL (mxK xs xs.length) xs k) ∧ Below w.heap.size w wr) (fun _ i _ => xs.length - (intOf i).toNat)
  case atStart => exact ⟨0, by omega, rfl, ho1, hb1⟩
  case round =>
    obtain ⟨k, hk, rfl, ho, hb⟩ := hrel
    by_cases hlt : k < xs.length
    · have hc := (hb.cell (p := ⟨b, off + k, none⟩) h4).trans (h5.int hlt)
      rw [← getD_eqy hlt] at hc
      have hlen := winL_len (mxK xs xs.length) xs k
      have hmx := slices_Max _ xs wr (HI.below hb) h1
      cases he : (xs.getD k 0 == mxK xs xs.length) with
      | true =>
        have HW := Lib.hid (winL_on he)
        have HX := Lib.hid hmx; clear hmx
        generalize xs.getD k 0 = x at *
        generalize mxK xs xs.length = M at *
        go_wp2_with (first | (go_at_call 54; refine HX.out.mono ?_; rintro e w' ⟨rfl, rfl⟩) | (at_builtin; refine wpList_push_int rfl (.tmp 18) (.tmp 20) _ rfl _ 3 _ int_info Try.underlying27 _ _ (k : Int) rfl ho rfl hb.size (by omega) ?_; intro u' w3 ho3 hb3))
        go_roundw
        case rel => exact ⟨k + 1, by omega, by go_num, by rw [HW.out]; exact ho3, hb.trans hb3⟩
        case measure => simp [intOf]; omega
      | false =>
        have HW := Lib.hid (winL_off he)
        have HX := Lib.hid hmx; clear hmx
        generalize xs.getD k 0 = x at *
        generalize mxK xs xs.length = M at *
        go_wp2_with (go_at_call 54; refine HX.out.mono ?_; rintro e w' ⟨rfl, rfl⟩)
        go_roundw
        case rel => exact ⟨k + 1, by omega, by go_num, by rw [HW.out]; exact ho, hb⟩
        case measure => simp [intOf]; omega
    · obtain rfl : k = xs.length := by omega
      go_wp2_with fail
      go_ret
      exact ⟨_, rfl, ho, hb⟩

def plurV (n : Int) (rs : List DRanking) : List Int × Bool := if electOk n rs then (best (fAll (upFrom 0 n.toNat) rs rs.length), true) else ([], false)
theorem up_facts {N : Nat} {rs : List DRanking} (hok : electOk (N : Int) rs = true) : N ≤ 5 ∧ 1 ≤ N ∧
    rs.length ≤ 9 ∧ (upFrom 0 N).length ≤ 5 ∧ (∀ r ∈ rs, r.order.length ≤ 5 ∧ 1 ≤ r.weight ∧ r.weight ≤ 100) ∧ (∀ r ∈ rs, ∃ x ∈ r.order, hasB (upFrom 0 N) x = true) ∧ (∀ i j (hi : i < (upFrom 0 N).length) (hj : j < (upFrom 0 N).length), i ≠ j → (upFrom 0 N)[i] ≠ (upFrom 0 N)[j]) := by
  obtain ⟨N', hN', hN1, hN5, _, hr9, hrs⟩ := electOk_parts hok
  obtain rfl : N = N' := by omega
  refine ⟨hN5, hN1, hr9, by simpa using hN5, fun r hr => ⟨by have := (hrs r hr).1; omega, (hrs r hr).2.2⟩, fun r hr => ?_, fun i j hi hj hne => ?_⟩
  · obtain ⟨h1, h2, _⟩ := hrs r hr
    have h0 : 0 < r.order.length := by omega
    refine ⟨r.order[0], List.getElem_mem h0, ?_⟩
    have h3 := h2 _ (List.getElem_mem h0)
    rw [hasB_iff]
    simp only [upFrom, List.mem_map, List.mem_range]
    exact ⟨(r.order[0]).toNat, by omega, by omega⟩
  · have hi' : i < N := by simpa using hi
    have hj' : j < N := by simpa using hj
    rw [upFrom_get 0 N i hi', upFrom_get 0 N j hj']
    omega
theorem plurV_len (n : Int) (rs : List DRanking) : (plurV n rs).1.length ≤ 4000000 := by
  unfold plurV
  split
  · rename_i h
    obtain ⟨N, rfl, _, h5, _⟩ := electOk_parts h
    simp only [best, Int.toNat_natCast, fAll_len, upFrom_length]
    have := winL_len (mxK (fAll (upFrom 0 N) rs rs.length) N) (fAll (upFrom 0 N) rs rs.length) N
    omega
  · simp

end Go.Proofs.Ytfonpkegaeebaaa
