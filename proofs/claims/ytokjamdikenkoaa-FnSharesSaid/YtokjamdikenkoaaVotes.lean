/- Contracts: sums, votes, greatest common divisors. No conditions beyond sizes. -/
import Derived.Test.YtokjamdikenkoaaIntS
import Derived.Test.YtokjamdikenkoaaSmall
import Derived.Test.YtokjamdikenkoaaIdxF
namespace Go.Proofs.Ytokjamdikenkoaa
open Go.RowKit
set_option linter.unusedVariables false
set_option linter.unusedSimpArgs false

/-- All numbers of a list lie in a range. -/
abbrev allIn (lo hi : Int) (xs : List Int) : Bool := xs.all fun x => inB x lo hi
theorem allIn_iff {lo hi : Int} {xs : List Int} : allIn lo hi xs = true ↔ ∀ x ∈ xs, lo ≤ x ∧ x ≤ hi := by simp [allIn, inB]

theorem sum_bound (c : Int) (xs : List Int) (h : ∀ x ∈ xs, 0 ≤ x ∧ x ≤ c) : 0 ≤ xs.sum ∧ xs.sum ≤ c * xs.length := by
  induction xs with
  | nil => simp
  | cons a r ih =>
    have h1 := h a (by simp)
    have h2 := ih (fun x hx => h x (by simp [hx]))
    simp only [List.sum_cons, List.length_cons]
    have : c * ((r.length + 1 : Nat) : Int) = c * r.length + c := by simp [Int.mul_add]
    omega

theorem s_l14Sum (v : Value) (xs : List Int) (w : World) (h : IntsAt w v xs) (hx : ∀ x ∈ xs, 0 ≤ x ∧ x ≤ 1000000) (hn : xs.length ≤ 1048576) :
    Calls Try.prog 54 #[v] w fun e w' => e = .returned (.int .i64 xs.sum) ∧ w = w' := by
  obtain ⟨_, ao, cap, rfl, h1, h2, h3⟩ := h
  have HX := Lib.hid hx; clear hx
  go_enter Try.func54, Try.ntmps54
  go_wp2
  go_loop [3, 4] (fun acc i => ∃ (k : Nat) (s : Int), k ≤ xs.length ∧ i = .int .i64 k ∧ acc = .int .i64 s ∧ 0 ≤ s ∧ s ≤ 1000000 * k ∧ Hid (s + (xs.drop k).sum = xs.sum)) (fun _ i => xs.length - (intOf i).toNat)
  case atStart => exact ⟨0, 0, by omega, rfl, rfl, by omega, by omega, by simp [Hid]⟩
  case round =>
    obtain ⟨k, s, hk, rfl, rfl, hs1, hs2, hd⟩ := hrel
    by_cases hlt : k < xs.length
    · obtain ⟨b, off, rfl, h4, h5⟩ := h3 (by omega)
      have hc : w.cell? ⟨b, off + k, none⟩ = some (.int .i64 xs[k]) := h5.int hlt
      have hxk := HX.out xs[k] (List.getElem_mem hlt)
      have HD : Hid ((s + xs[k]) + (xs.drop (k + 1)).sum = xs.sum) := by
        have := hd.out
        rw [drop_at hlt, List.sum_cons] at this
        simp only [Hid]; omega
      generalize xs[k] = x at *
      obtain ⟨hx1, hx2⟩ := hxk
      clear hd
      go_wp2
      go_round
      case rel => exact ⟨k + 1, s + x, by omega, by go_num, by go_num, by omega, by omega, HD⟩
      case measure => simp [intOf]; omega
    · have HD : Hid (s = xs.sum) := by
        have := hd.out
        rw [List.drop_of_length_le (by omega)] at this
        simpa [Hid] using this
      clear hd
      go_wp2
      go_ret
      exact ⟨ret_int HD.out, rfl⟩

theorem i_sumInts (v : Value) (xs : List Int) (w : World) (h : IntsAt w v xs) (hx : ∀ x ∈ xs, 0 ≤ x ∧ x ≤ 1000000) (hn : xs.length ≤ 1048576) :
    Calls Try.prog 46 #[v] w fun e w' => e = .returned (.int .i64 xs.sum) ∧ w = w' := by
  obtain ⟨_, ao, cap, rfl, h1, h2, h3⟩ := h
  have HX := Lib.hid hx; clear hx
  go_enter Try.func46, Try.ntmps46
  go_wp2
  go_loop [3, 8] (fun acc i => ∃ (k : Nat) (s : Int), k ≤ xs.length ∧ i = .int .i64 k ∧ acc = .int .i64 s ∧ 0 ≤ s ∧ s ≤ 1000000 * k ∧ Hid (s + (xs.drop k).sum = xs.sum)) (fun _ i => xs.length - (intOf i).toNat)
  case atStart => exact ⟨0, 0, by omega, rfl, rfl, by omega, by omega, by simp [Hid]⟩
  case round =>
    obtain ⟨k, s, hk, rfl, rfl, hs1, hs2, hd⟩ := hrel
    by_cases hlt : k < xs.length
    · obtain ⟨b, off, rfl, h4, h5⟩ := h3 (by omega)
      have hc : w.cell? ⟨b, off + k, none⟩ = some (.int .i64 xs[k]) := h5.int hlt
      have hxk := HX.out xs[k] (List.getElem_mem hlt)
      have HD : Hid ((s + xs[k]) + (xs.drop (k + 1)).sum = xs.sum) := by
        have := hd.out
        rw [drop_at hlt, List.sum_cons] at this
        simp only [Hid]; omega
      generalize xs[k] = x at *
      obtain ⟨hx1, hx2⟩ := hxk
      clear hd
      go_wp2
      go_round
      case rel => exact ⟨k + 1, s + x, by omega, by go_num, by go_num, by omega, by omega, HD⟩
      case measure => simp [intOf]; omega
    · have HD : Hid (s = xs.sum) := by
        have := hd.out
        rw [List.drop_of_length_le (by omega)] at this
        simpa [Hid] using this
      clear hd
      go_wp2
      go_ret
      exact ⟨ret_int HD.out, rfl⟩

/-- Votes are valid. -/
def votesOk (xs : List Int) : Bool := inB xs.length 1 8 && allIn 0 10000 xs && decide (0 < xs.sum)

theorem s_l14Good (v : Value) (xs : List Int) (w : World) (h : IntsAt w v xs) :
    Calls Try.prog 57 #[v] w fun e w' => e = .returned (.bool (votesOk xs)) ∧ w = w' := by
  have hI := h
  obtain ⟨_, ao, cap, rfl, h1, h2, h3⟩ := h
  unfold maxLen at h2
  go_enter Try.func57, Try.ntmps57
  go_wp2
  go_loop [3] (fun i => ∃ k : Nat, k ≤ xs.length ∧ i = .int .i64 k ∧ Hid (allIn 0 10000 xs = allIn 0 10000 (xs.drop k))) (fun i => xs.length - (intOf i).toNat)
  case atStart => exact ⟨0, by omega, rfl, by simp [Hid]⟩
  case round =>
    obtain ⟨k, hk, rfl, hd⟩ := hrel
    by_cases hlt : k < xs.length
    · obtain ⟨b, off, rfl, h4, h5⟩ := h3 (by omega)
      have hc : w.cell? ⟨b, off + k, none⟩ = some (.int .i64 xs[k]) := h5.int hlt
      have hd' := hd.out
      simp only [drop_at hlt, allIn, List.all_cons] at hd'
      cases hin : inB xs[k] 0 10000 with
      | true =>
        have HD : Hid (allIn 0 10000 xs = allIn 0 10000 (xs.drop (k + 1))) := by simpa [Hid, hin] using hd'
        generalize xs[k] = x at *
        clear hd hd'
        have HPX := Lib.hid hin; clear hin
        go_wp2_with (go_at_call 52; refine (s_l1In _ _ _ _).mono ?_; rw [HPX.out]; rintro e w' ⟨rfl, rfl⟩)
        go_round
        case rel => exact ⟨k + 1, by omega, by go_num, HD⟩
        case measure => simp [intOf]; omega
      | false =>
        have HD : Hid (votesOk xs = false) := by
          have : allIn 0 10000 xs = false := by simpa [hin] using hd'
          simp [Hid, votesOk, this]
        generalize xs[k] = x at *
        clear hd hd'
        have HPX := Lib.hid hin; clear hin
        go_wp2_with (go_at_call 52; refine (s_l1In _ _ _ _).mono ?_; rw [HPX.out]; rintro e w' ⟨rfl, rfl⟩)
        go_ret
        exact ⟨ret_bool HD.out.symm, rfl⟩
    · have HA : Hid (allIn 0 10000 xs = true) := by
        have := hd.out
        rw [List.drop_of_length_le (by omega)] at this
        simpa [Hid] using this
      have hkn : k = xs.length := by omega
      clear hd
      cases hin : inB xs.length 1 8 with
      | true =>
        have HV : Hid (votesOk xs = decide (0 < xs.sum)) := by simp [Hid, votesOk, hin, HA.out]
        have hle : xs.length ≤ 1048576 := by have := (inB_iff.1 hin).2; omega
        have HPX := Lib.hid hin; clear hin
        have HK := Lib.hid hkn; clear hkn
        have hsum : ∀ x ∈ xs, 0 ≤ x ∧ x ≤ 1000000 := fun x hx => by have := allIn_iff.1 HA.out x hx; omega
        have HSUM := Lib.hid hsum; clear hsum
        go_wp2_with (first | (go_at_call 52; refine (s_l1In _ _ _ _).mono ?_; rw [HPX.out]; rintro e w' ⟨rfl, rfl⟩) | (go_at_call 54; refine (s_l14Sum _ xs _ hI HSUM.out hle).mono ?_; rintro e w' ⟨rfl, rfl⟩))
        all_goals go_ret
        all_goals exact ⟨ret_bool (by rw [HV.out]), rfl⟩
      | false =>
        have HV : Hid (votesOk xs = false) := by simp [Hid, votesOk, hin]
        have HPX := Lib.hid hin; clear hin
        have HK := Lib.hid hkn; clear hkn
        go_wp2_with (go_at_call 52; refine (s_l1In _ _ _ _).mono ?_; rw [HPX.out]; rintro e w' ⟨rfl, rfl⟩)
        all_goals go_ret
        all_goals exact ⟨ret_bool (by rw [HV.out]), rfl⟩

theorem i_AreVotes1 (x : Int) (w : World) :
    Calls Try.prog 49 #[.int .i64 x] w fun e w' => e = .returned (.bool (!inB x 0 10000)) ∧ w = w' := by
  go_enter Try.func49, Try.ntmps49
  go_wp2_with (go_at_call 47; refine (i_inside _ _ _ _).mono ?_; rintro e w' ⟨rfl, rfl⟩)
  go_ret
  exact ⟨rfl, rfl⟩

theorem i_AreVotes (v : Value) (xs : List Int) (w : World) (h : IntsAt w v xs) :
    Calls Try.prog 24 #[v] w fun e w' => e = .returned (.bool (votesOk xs)) ∧ Below w.heap.size w w' := by
  obtain ⟨ao, cap, rfl⟩ := h.form
  have hany : (xs.any fun x => !inB x 0 10000) = !allIn 0 10000 xs := by simp [allIn, List.all_eq_not_any_not]
  have hcl := ContainsFunc_int 49 (enters_of Try.func49 (by kernel_rfl) (by kernel_rfl)) [] (fun x => !inB x 0 10000) _ xs w h (fun x w' hb => (i_AreVotes1 x w').mono fun e w'' ⟨he, hw⟩ => ⟨he, hw ▸ Below.refl _ _⟩)
  rw [hany] at hcl
  have HC := Lib.hid hcl; clear hcl hany
  cases hin : inB xs.length 1 8 with
  | false =>
    have HV : Hid (votesOk xs = false) := by simp [Hid, votesOk, hin]
    have HPX := Lib.hid hin; clear hin
    go_enter Try.func24, Try.ntmps24
    go_wp2_with (go_at_call 47; refine (i_inside _ _ _ _).mono ?_; rw [HPX.out]; rintro e w' ⟨rfl, rfl⟩)
    go_ret
    exact ⟨ret_bool (by rw [HV.out]), Below.refl _ _⟩
  | true =>
    cases hal : allIn 0 10000 xs with
    | false =>
      have HV : Hid (votesOk xs = false) := by simp [Hid, votesOk, hal]
      have HPX := Lib.hid hin; clear hin
      have HPY := Lib.hid hal; clear hal
      go_enter Try.func24, Try.ntmps24
      go_wp2_with (first | (go_at_call 47; refine (i_inside _ _ _ _).mono ?_; rw [HPX.out]; rintro e w' ⟨rfl, rfl⟩) | (go_at_call 48; refine HC.out.mono ?_; rw [HPY.out]; rintro e w1 ⟨rfl, hb1⟩))
      go_ret
      exact ⟨ret_bool (by rw [HV.out]), hb1⟩
    | true =>
      have HV : Hid (votesOk xs = decide (0 < xs.sum)) := by simp [Hid, votesOk, hin, hal]
      have hle : xs.length ≤ 1048576 := by have := (inB_iff.1 hin).2; omega
      have hsum : ∀ x ∈ xs, 0 ≤ x ∧ x ≤ 1000000 := fun x hx => by have := allIn_iff.1 hal x hx; omega
      have HSUM := Lib.hid hsum; clear hsum
      have HPX := Lib.hid hin; clear hin
      have HPY := Lib.hid hal; clear hal
      go_enter Try.func24, Try.ntmps24
      go_wp2_with (first | (go_at_call 47; refine (i_inside _ _ _ _).mono ?_; rw [HPX.out]; rintro e w' ⟨rfl, rfl⟩) | (go_at_call 48; refine HC.out.mono ?_; rw [HPY.out]; rintro e w1 ⟨rfl, hb1⟩) | (go_at_call 46; refine (i_sumInts _ xs _ (h.below hb1) HSUM.out hle).mono ?_; rintro e w' ⟨rfl, rfl⟩))
      all_goals go_ret
      all_goals exact ⟨ret_bool (by rw [HV.out]), hb1⟩

end Go.Proofs.Ytokjamdikenkoaa
