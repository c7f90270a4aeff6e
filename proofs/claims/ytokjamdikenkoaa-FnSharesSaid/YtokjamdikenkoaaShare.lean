/- Contracts: exact shares of seats. -/
import Derived.Test.YtokjamdikenkoaaQuota
namespace Go.Proofs.Ytokjamdikenkoaa
open Go.RowKit
set_option linter.unusedVariables false
set_option linter.unusedSimpArgs false

/-- Votes and a number of seats are valid. -/
def seatsOk (vs : List Int) (seats : Int) : Bool := votesOk vs && inB seats 0 50
/-- They are, and there is such a group. -/
def shareOk (vs : List Int) (seats group : Int) : Bool := seatsOk vs seats && inB group 0 (vs.length - 1)
/-- Numerator and denominator of a fraction in lowest terms. -/
def loNum (n d : Int) : Int := ((n.toNat / Nat.gcd n.toNat d.toNat : Nat) : Int)
def loDen (n d : Int) : Int := ((d.toNat / Nat.gcd n.toNat d.toNat : Nat) : Int)
/-- What ExactShare returns. -/
def vShare (vs : List Int) (seats group : Int) : Value :=
  if shareOk vs seats group then .tuple #[.int .i64 (loNum (vs.getD group.toNat 0 * seats) vs.sum), .int .i64 (loDen (vs.getD group.toNat 0 * seats) vs.sum), .bool true]
  else .tuple #[.int .i64 0, .int .i64 0, .bool false]

theorem s_l14ReduceI (n d : Int) (w : World) (h0 : 0 ≤ n) (hn : n ≤ 1000000000) (hd0 : 0 < d) (hd : d ≤ 1000000000) :
    Calls Try.prog 53 #[.int .i64 n, .int .i64 d] w fun e w' => e = .returned (.tuple #[.int .i64 (loNum n d), .int .i64 (loDen n d)]) ∧ ∃ q, w' = w.drewN q := by
  obtain ⟨k, rfl⟩ := Int.eq_ofNat_of_zero_le h0
  obtain ⟨m, rfl⟩ := Int.eq_ofNat_of_zero_le (Int.le_of_lt hd0)
  exact s_l14Reduce k m w (by omega) (by omega) (by omega)
theorem i_lowestTermsI (n d : Int) (w : World) (h0 : 0 ≤ n) (hn : n ≤ 1000000000) (hd0 : 0 < d) (hd : d ≤ 1000000000) :
    Calls Try.prog 51 #[.int .i64 n, .int .i64 d] w fun e w' => e = .returned (.tuple #[.int .i64 (loNum n d), .int .i64 (loDen n d)]) ∧ ∃ q, w' = w.drewN q := by
  obtain ⟨k, rfl⟩ := Int.eq_ofNat_of_zero_le h0
  obtain ⟨m, rfl⟩ := Int.eq_ofNat_of_zero_le (Int.le_of_lt hd0)
  exact i_lowestTerms k m w (by omega) (by omega) (by omega)

theorem s_l14Asked (v : Value) (vs : List Int) (seats : Int) (w : World) (h : IntsAt w v vs) :
    Calls Try.prog 37 #[v, .int .i64 seats] w fun e w' => e = .returned (.bool (seatsOk vs seats)) ∧ w = w' := by
  cases hv : votesOk vs with
  | true =>
    have HV := Lib.hid hv
    go_enter Try.func37, Try.ntmps37
    go_wp2_with (first | (go_at_call 57; refine (s_l14Good _ vs _ h).mono ?_; rw [HV.out]; rintro e w' ⟨rfl, rfl⟩) | (go_at_call 52; refine (s_l1In _ _ _ _).mono ?_; rintro e w' ⟨rfl, rfl⟩))
    go_ret
    exact ⟨ret_bool (by simp [seatsOk, HV.out]), rfl⟩
  | false =>
    have HV := Lib.hid hv
    go_enter Try.func37, Try.ntmps37
    go_wp2_with (first | (go_at_call 57; refine (s_l14Good _ vs _ h).mono ?_; rw [HV.out]; rintro e w' ⟨rfl, rfl⟩) | (go_at_call 52; refine (s_l1In _ _ _ _).mono ?_; rintro e w' ⟨rfl, rfl⟩))
    go_ret
    exact ⟨ret_bool (by simp [seatsOk, HV.out]), rfl⟩

theorem i_areSeats (v : Value) (vs : List Int) (seats : Int) (w : World) (h : IntsAt w v vs) :
    Calls Try.prog 39 #[v, .int .i64 seats] w fun e w' => e = .returned (.bool (seatsOk vs seats)) ∧ Below w.heap.size w w' := by
  cases hv : votesOk vs with
  | true =>
    have HV := Lib.hid hv
    go_enter Try.func39, Try.ntmps39
    go_wp2_with (first | (go_at_call 24; refine (i_AreVotes _ vs _ h).mono ?_; rw [HV.out]; rintro e w1 ⟨rfl, hb1⟩) | (go_at_call 47; refine (i_inside _ _ _ _).mono ?_; rintro e w' ⟨rfl, rfl⟩))
    go_ret
    exact ⟨ret_bool (by simp [seatsOk, HV.out]), hb1⟩
  | false =>
    have HV := Lib.hid hv
    go_enter Try.func39, Try.ntmps39
    go_wp2_with (first | (go_at_call 24; refine (i_AreVotes _ vs _ h).mono ?_; rw [HV.out]; rintro e w1 ⟨rfl, hb1⟩) | (go_at_call 47; refine (i_inside _ _ _ _).mono ?_; rintro e w' ⟨rfl, rfl⟩))
    go_ret
    exact ⟨ret_bool (by simp [seatsOk, HV.out]), hb1⟩

theorem seatsOk_parts {vs : List Int} {seats : Int} (h : seatsOk vs seats = true) : votesOk vs = true ∧ 0 ≤ seats ∧ seats ≤ 50 := by
  simpa [seatsOk, inB] using h

theorem s_ExactShare0 (v : Value) (vs : List Int) (seats group : Int) (w : World) (h : IntsAt w v vs) :
    Calls Try.prog 28 #[v, .int .i64 seats, .int .i64 group] w fun e w' => e = .returned (vShare vs seats group) ∧ Below w.heap.size w w' := by
  have hI := h
  obtain ⟨_, ao, cap, rfl, h1, h2, h3⟩ := h
  unfold maxLen at h2
  cases hv : seatsOk vs seats with
  | false =>
    have HO : Hid (vShare vs seats group = .tuple #[.int .i64 0, .int .i64 0, .bool false]) := by simp [Hid, vShare, shareOk, hv]
    have HV := Lib.hid hv; clear hv
    go_enter Try.func28, Try.ntmps28
    go_wp2_with (go_at_call 37; refine (s_l14Asked _ vs _ _ hI).mono ?_; rw [HV.out]; rintro e w' ⟨rfl, rfl⟩)
    go_ret3
    exact ⟨by rw [HO.out]; rfl, Below.refl _ _⟩
  | true =>
    obtain ⟨hv1, s0, s1⟩ := seatsOk_parts hv
    obtain ⟨⟨v1, v2⟩, v3, v4, v5⟩ := votesOk_parts hv1
    have HV := Lib.hid hv
    cases hg : inB group 0 (vs.length - 1) with
    | false =>
      have HO : Hid (vShare vs seats group = .tuple #[.int .i64 0, .int .i64 0, .bool false]) := by simp [Hid, vShare, shareOk, hv, hg]
      have HG := Lib.hid hg; clear hg
      clear hv hv1 v3
      go_enter Try.func28, Try.ntmps28
      go_wp2_with (first | (go_at_call 37; refine (s_l14Asked _ vs _ _ hI).mono ?_; rw [HV.out]; rintro e w' ⟨rfl, rfl⟩) | (go_at_call 52; refine (s_l1In _ _ _ _).mono ?_; rw [HG.out]; rintro e w' ⟨rfl, rfl⟩))
      go_ret3
      exact ⟨by rw [HO.out]; rfl, Below.refl _ _⟩
    | true =>
      obtain ⟨g0, g1⟩ := inB_iff.1 hg
      obtain ⟨k, rfl⟩ := Int.eq_ofNat_of_zero_le g0
      have hk : k < vs.length := by omega
      have HO : Hid (vShare vs seats k = .tuple #[.int .i64 (loNum (vs[k] * seats) vs.sum), .int .i64 (loDen (vs[k] * seats) vs.sum), .bool true]) := by
        simp [Hid, vShare, shareOk, hv, hg, hk]
      have HG := Lib.hid hg; clear hg
      obtain ⟨b, off, rfl, h4, h5⟩ := h3 (by omega)
      have hc : w.cell? ⟨b, off + k, none⟩ = some (.int .i64 vs[k]) := h5.int hk
      have hx := v3 vs[k] (List.getElem_mem hk)
      have hm := mul_bd hx.1 hx.2 s0 s1
      have q3 : wrap64 (vs[k] * seats) = vs[k] * seats := IntWalk.wrap64_in _ (by omega)
      have hsv : ∀ x ∈ vs, 0 ≤ x ∧ x ≤ 1000000 := fun x hx => by have := v3 x hx; omega
      have HSV := Lib.hid hsv; clear hsv
      have hvl : vs.length ≤ 1048576 := by omega
      clear hv hv1 v3 g0 g1
      generalize vs[k] = x at *
      go_enter Try.func28, Try.ntmps28
      go_wp2_with (first | (go_at_call 37; refine (s_l14Asked _ vs _ _ hI).mono ?_; rw [HV.out]; rintro e w' ⟨rfl, rfl⟩) | (go_at_call 52; refine (s_l1In _ _ _ _).mono ?_; rw [HG.out]; rintro e w' ⟨rfl, rfl⟩))
      go_quiet ((first | (go_at_call 54; exact quiet_eq (s_l14Sum _ vs _ hI HSV.out hvl)) | (go_at_call 53; exact Calls.quiet_of (s_l14ReduceI _ _ _ hm.1 (by omega) v4 (by omega)))))
      go_wp2
      go_ret3
      exact ⟨by rw [HO.out]; rfl, Below.drewN' (Below.refl _ _) _⟩

theorem i_ExactShare0 (v : Value) (vs : List Int) (seats group : Int) (w : World) (h : IntsAt w v vs) :
    Calls Try.prog 27 #[v, .int .i64 seats, .int .i64 group] w fun e w' => e = .returned (vShare vs seats group) ∧ Below w.heap.size w w' := by
  have hI := h
  obtain ⟨_, ao, cap, rfl, h1, h2, h3⟩ := h
  unfold maxLen at h2
  cases hv : seatsOk vs seats with
  | false =>
    have HO : Hid (vShare vs seats group = .tuple #[.int .i64 0, .int .i64 0, .bool false]) := by simp [Hid, vShare, shareOk, hv]
    have HV := Lib.hid hv; clear hv
    go_enter Try.func27, Try.ntmps27
    go_wp2_with (go_at_call 39; refine (i_areSeats _ vs _ _ hI).mono ?_; rw [HV.out]; rintro e w1 ⟨rfl, hb1⟩)
    go_ret3
    exact ⟨by rw [HO.out]; rfl, hb1⟩
  | true =>
    obtain ⟨hv1, s0, s1⟩ := seatsOk_parts hv
    obtain ⟨⟨v1, v2⟩, v3, v4, v5⟩ := votesOk_parts hv1
    have HV := Lib.hid hv
    cases hg : inB group 0 (vs.length - 1) with
    | false =>
      have HO : Hid (vShare vs seats group = .tuple #[.int .i64 0, .int .i64 0, .bool false]) := by simp [Hid, vShare, shareOk, hv, hg]
      have HG := Lib.hid hg; clear hg
      clear hv hv1 v3
      go_enter Try.func27, Try.ntmps27
      go_wp2_with (first | (go_at_call 39; refine (i_areSeats _ vs _ _ hI).mono ?_; rw [HV.out]; rintro e w1 ⟨rfl, hb1⟩) | (go_at_call 47; refine (i_inside _ _ _ _).mono ?_; rw [HG.out]; rintro e w' ⟨rfl, rfl⟩))
      go_ret3
      exact ⟨by rw [HO.out]; rfl, hb1⟩
    | true =>
      obtain ⟨g0, g1⟩ := inB_iff.1 hg
      obtain ⟨k, rfl⟩ := Int.eq_ofNat_of_zero_le g0
      have hk : k < vs.length := by omega
      have HO : Hid (vShare vs seats k = .tuple #[.int .i64 (loNum (vs[k] * seats) vs.sum), .int .i64 (loDen (vs[k] * seats) vs.sum), .bool true]) := by
        simp [Hid, vShare, shareOk, hv, hg, hk]
      have HG := Lib.hid hg; clear hg
      obtain ⟨b, off, rfl, h4, h5⟩ := h3 (by omega)
      have hc : w.cell? ⟨b, off + k, none⟩ = some (.int .i64 vs[k]) := h5.int hk
      have hx := v3 vs[k] (List.getElem_mem hk)
      have hm := mul_bd hx.1 hx.2 s0 s1
      have q3 : wrap64 (vs[k] * seats) = vs[k] * seats := IntWalk.wrap64_in _ (by omega)
      have hsv : ∀ x ∈ vs, 0 ≤ x ∧ x ≤ 1000000 := fun x hx => by have := v3 x hx; omega
      have HSV := Lib.hid hsv; clear hsv
      have hvl : vs.length ≤ 1048576 := by omega
      clear hv hv1 v3 g0 g1
      generalize vs[k] = x at *
      go_enter Try.func27, Try.ntmps27
      go_wp2_with (first | (go_at_call 39; refine (i_areSeats _ vs _ _ hI).mono ?_; rw [HV.out]; rintro e w1 ⟨rfl, hb1⟩; have hc1 := (hb1.cell (p := ⟨b, off + k, none⟩) h4).trans hc; have hI1 := hI.below hb1) | (go_at_call 47; refine (i_inside _ _ _ _).mono ?_; rw [HG.out]; rintro e w' ⟨rfl, rfl⟩))
      go_quiet ((first | (go_at_call 46; exact quiet_eq (i_sumInts _ vs _ hI1 HSV.out hvl)) | (go_at_call 51; exact Calls.quiet_of (i_lowestTermsI _ _ _ hm.1 (by omega) v4 (by omega)))))
      go_wp2
      go_ret3
      exact ⟨by rw [HO.out]; rfl, Below.drewN' hb1 _⟩

def shNum (vs : List Int) (seats group : Int) : Int := if shareOk vs seats group then loNum (vs.getD group.toNat 0 * seats) vs.sum else 0
def shDen (vs : List Int) (seats group : Int) : Int := if shareOk vs seats group then loDen (vs.getD group.toNat 0 * seats) vs.sum else 0
theorem vShare_eq (vs : List Int) (seats group : Int) : vShare vs seats group = .tuple #[.int .i64 (shNum vs seats group), .int .i64 (shDen vs seats group), .bool (shareOk vs seats group)] := by
  unfold vShare shNum shDen
  cases shareOk vs seats group <;> rfl
theorem s_ExactShare (v : Value) (vs : List Int) (seats group : Int) (w : World) (h : IntsAt w v vs) :
    Calls Try.prog 28 #[v, .int .i64 seats, .int .i64 group] w fun e w' => e = .returned (.tuple #[.int .i64 (shNum vs seats group), .int .i64 (shDen vs seats group), .bool (shareOk vs seats group)]) ∧ Below w.heap.size w w' := by
  rw [← vShare_eq]; exact s_ExactShare0 v vs seats group w h
theorem i_ExactShare (v : Value) (vs : List Int) (seats group : Int) (w : World) (h : IntsAt w v vs) :
    Calls Try.prog 27 #[v, .int .i64 seats, .int .i64 group] w fun e w' => e = .returned (.tuple #[.int .i64 (shNum vs seats group), .int .i64 (shDen vs seats group), .bool (shareOk vs seats group)]) ∧ Below w.heap.size w w' := by
  rw [← vShare_eq]; exact i_ExactShare0 v vs seats group w h
end Go.Proofs.Ytokjamdikenkoaa
