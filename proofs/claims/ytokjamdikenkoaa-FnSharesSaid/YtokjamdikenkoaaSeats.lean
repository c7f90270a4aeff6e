/- Contracts: SeatsByHalves, SeatsByOdds, LastSeat, the reference's and the program's. No conditions. -/
import Derived.Test.YtokjamdikenkoaaQuot
import Derived.Test.YtokjamdikenkoaaPush
import Derived.Test.YtokjamdikenkoaaInts2
namespace Go.Proofs.Ytokjamdikenkoaa
open Go.RowKit
set_option linter.unusedVariables false
set_option linter.unusedSimpArgs false

theorem s_SeatsByHalves (v : Value) (vs : List Int) (s : Int) (w : World) (h : IntsAt w v vs) :
    Calls Try.prog 20 #[v, .int .i64 s] w fun e w' => ∃ u, e = .returned (.tuple #[u, .bool (seatsV 1 vs s).2]) ∧ OwnInts w' w.heap.size u (seatsV 1 vs s).1 ∧ Below w.heap.size w w' := by
  cases hok : seatsOk vs s with
  | false =>
    have HR : seatsV 1 vs s = ([], false) := by simp [seatsV, hok]
    have HO := Lib.hid hok; clear hok
    rw [HR]; clear HR
    go_enter Try.func20, Try.ntmps20
    go_wp2_with (go_at_call 37; refine (s_l14Asked _ vs _ _ h).mono ?_; rw [HO.out]; rintro e w1 ⟨rfl, rfl⟩)
    go_ret2
    exact ⟨_, rfl, own_lit0 _ _, by go_grown⟩
  | true =>
    obtain ⟨hv, s0, s1⟩ := seatsOk_parts hok
    obtain ⟨⟨hn1, hn8⟩, hva, _, _⟩ := votesOk_parts hv
    obtain ⟨n, rfl⟩ : ∃ n : Nat, s = n := ⟨s.toNat, by omega⟩
    have HR : seatsV 1 vs (n : Int) = ((qSeats 1 vs n).1, true) := by simp [seatsV, hok]
    have hs : n ≤ 50 := by omega
    have HO := Lib.hid hok; clear hok hv
    have HV := Lib.hid hva; clear hva
    rw [HR]; clear HR
    go_enter Try.func20, Try.ntmps20
    go_wp2_with (first | (go_at_call 37; refine (s_l14Asked _ vs _ _ h).mono ?_; rw [HO.out]; rintro e w1 ⟨rfl, rfl⟩) | (go_at_call 44; refine (s_l14Divisors _ vs n 1 _ h hn1 hn8 HV.out hs (by omega)).mono ?_; rintro e w2 ⟨u, rfl, ho, hb2⟩))
    obtain ⟨a1, k1, rfl⟩ := ho.at_.form
    go_ret2
    exact ⟨_, rfl, ho, hb2⟩

theorem i_SeatsByHalves (v : Value) (vs : List Int) (s : Int) (w : World) (h : IntsAt w v vs) :
    Calls Try.prog 17 #[v, .int .i64 s] w fun e w' => ∃ u, e = .returned (.tuple #[u, .bool (seatsV 1 vs s).2]) ∧ OwnInts w' w.heap.size u (seatsV 1 vs s).1 ∧ Below w.heap.size w w' := by
  cases hok : seatsOk vs s with
  | false =>
    have HR : seatsV 1 vs s = ([], false) := by simp [seatsV, hok]
    have HO := Lib.hid hok; clear hok
    rw [HR]; clear HR
    go_enter Try.func17, Try.ntmps17
    go_wp2_with (go_at_call 39; refine (i_areSeats _ vs _ _ h).mono ?_; rw [HO.out]; rintro e w1 ⟨rfl, hb1⟩)
    go_ret2
    exact ⟨_, rfl, World.ownsRow_nil _ _ 3 1, hb1⟩
  | true =>
    obtain ⟨hv, s0, s1⟩ := seatsOk_parts hok
    obtain ⟨⟨hn1, hn8⟩, hva, _, _⟩ := votesOk_parts hv
    obtain ⟨n, rfl⟩ : ∃ n : Nat, s = n := ⟨s.toNat, by omega⟩
    have HR : seatsV 1 vs (n : Int) = ((qSeats 1 vs n).1, true) := by simp [seatsV, hok]
    have hs : n ≤ 50 := by omega
    have HO := Lib.hid hok; clear hok hv
    have HV := Lib.hid hva; clear hva
    rw [HR]; clear HR
    go_enter Try.func17, Try.ntmps17
    go_wp2_with (first | (go_at_call 39; refine (i_areSeats _ vs _ _ h).mono ?_; rw [HO.out]; rintro e w1 ⟨rfl, hb1⟩) | (go_at_call 43; refine (i_byQuotients _ vs n 1 _ (h.below hb1) hn1 hn8 HV.out hs (by omega)).mono ?_; rintro e w2 ⟨u, rfl, ho, hb2⟩))
    obtain ⟨a1, k1, rfl⟩ := ho.at_.form
    go_ret2
    exact ⟨_, rfl, own_base ho hb1.size, below_step hb1 hb2⟩

theorem s_SeatsByOdds (v : Value) (vs : List Int) (s : Int) (w : World) (h : IntsAt w v vs) :
    Calls Try.prog 21 #[v, .int .i64 s] w fun e w' => ∃ u, e = .returned (.tuple #[u, .bool (seatsV 2 vs s).2]) ∧ OwnInts w' w.heap.size u (seatsV 2 vs s).1 ∧ Below w.heap.size w w' := by
  cases hok : seatsOk vs s with
  | false =>
    have HR : seatsV 2 vs s = ([], false) := by simp [seatsV, hok]
    have HO := Lib.hid hok; clear hok
    rw [HR]; clear HR
    go_enter Try.func21, Try.ntmps21
    go_wp2_with (go_at_call 37; refine (s_l14Asked _ vs _ _ h).mono ?_; rw [HO.out]; rintro e w1 ⟨rfl, rfl⟩)
    go_ret2
    exact ⟨_, rfl, own_lit0 _ _, by go_grown⟩
  | true =>
    obtain ⟨hv, s0, s1⟩ := seatsOk_parts hok
    obtain ⟨⟨hn1, hn8⟩, hva, _, _⟩ := votesOk_parts hv
    obtain ⟨n, rfl⟩ : ∃ n : Nat, s = n := ⟨s.toNat, by omega⟩
    have HR : seatsV 2 vs (n : Int) = ((qSeats 2 vs n).1, true) := by simp [seatsV, hok]
    have hs : n ≤ 50 := by omega
    have HO := Lib.hid hok; clear hok hv
    have HV := Lib.hid hva; clear hva
    rw [HR]; clear HR
    go_enter Try.func21, Try.ntmps21
    go_wp2_with (first | (go_at_call 37; refine (s_l14Asked _ vs _ _ h).mono ?_; rw [HO.out]; rintro e w1 ⟨rfl, rfl⟩) | (go_at_call 44; refine (s_l14Divisors _ vs n 2 _ h hn1 hn8 HV.out hs (by omega)).mono ?_; rintro e w2 ⟨u, rfl, ho, hb2⟩))
    obtain ⟨a1, k1, rfl⟩ := ho.at_.form
    go_ret2
    exact ⟨_, rfl, ho, hb2⟩

theorem i_SeatsByOdds (v : Value) (vs : List Int) (s : Int) (w : World) (h : IntsAt w v vs) :
    Calls Try.prog 18 #[v, .int .i64 s] w fun e w' => ∃ u, e = .returned (.tuple #[u, .bool (seatsV 2 vs s).2]) ∧ OwnInts w' w.heap.size u (seatsV 2 vs s).1 ∧ Below w.heap.size w w' := by
  cases hok : seatsOk vs s with
  | false =>
    have HR : seatsV 2 vs s = ([], false) := by simp [seatsV, hok]
    have HO := Lib.hid hok; clear hok
    rw [HR]; clear HR
    go_enter Try.func18, Try.ntmps18
    go_wp2_with (go_at_call 39; refine (i_areSeats _ vs _ _ h).mono ?_; rw [HO.out]; rintro e w1 ⟨rfl, hb1⟩)
    go_ret2
    exact ⟨_, rfl, World.ownsRow_nil _ _ 3 1, hb1⟩
  | true =>
    obtain ⟨hv, s0, s1⟩ := seatsOk_parts hok
    obtain ⟨⟨hn1, hn8⟩, hva, _, _⟩ := votesOk_parts hv
    obtain ⟨n, rfl⟩ : ∃ n : Nat, s = n := ⟨s.toNat, by omega⟩
    have HR : seatsV 2 vs (n : Int) = ((qSeats 2 vs n).1, true) := by simp [seatsV, hok]
    have hs : n ≤ 50 := by omega
    have HO := Lib.hid hok; clear hok hv
    have HV := Lib.hid hva; clear hva
    rw [HR]; clear HR
    go_enter Try.func18, Try.ntmps18
    go_wp2_with (first | (go_at_call 39; refine (i_areSeats _ vs _ _ h).mono ?_; rw [HO.out]; rintro e w1 ⟨rfl, hb1⟩) | (go_at_call 43; refine (i_byQuotients _ vs n 2 _ (h.below hb1) hn1 hn8 HV.out hs (by omega)).mono ?_; rintro e w2 ⟨u, rfl, ho, hb2⟩))
    obtain ⟨a1, k1, rfl⟩ := ho.at_.form
    go_ret2
    exact ⟨_, rfl, own_base ho hb1.size, below_step hb1 hb2⟩

theorem s_LastSeat (v : Value) (vs : List Int) (s : Int) (w : World) (h : IntsAt w v vs) :
    Calls Try.prog 36 #[v, .int .i64 s] w fun e w' => e = .returned (.tuple #[.int .i64 (lastV vs s).1, .bool (lastV vs s).2]) ∧ Below w.heap.size w w' := by
  cases hok : seatsOk vs s with
  | false =>
    have HR : Hid (lastV vs s = (0, false)) := by simp [Hid, lastV, hok]
    have HO := Lib.hid hok; clear hok
    rw [HR.out]
    go_enter Try.func36, Try.ntmps36
    go_wp2_with (go_at_call 37; refine (s_l14Asked _ vs _ _ h).mono ?_; rw [HO.out]; rintro e w1 ⟨rfl, rfl⟩)
    go_ret2
    exact ⟨rfl, Below.refl _ _⟩
  | true =>
    obtain ⟨hv, s0, s1⟩ := seatsOk_parts hok
    obtain ⟨⟨hn1, hn8⟩, hva, _, _⟩ := votesOk_parts hv
    obtain ⟨n, rfl⟩ : ∃ n : Nat, s = n := ⟨s.toNat, by omega⟩
    have hs : n ≤ 50 := by omega
    cases hz : ((n : Int) == 0) with
    | true =>
      have HR : Hid (lastV vs (n : Int) = (0, false)) := by simp [Hid, lastV, hz]
      have HO := Lib.hid hok; clear hok hv
      rw [HR.out]
      go_enter Try.func36, Try.ntmps36
      go_wp2_with (go_at_call 37; refine (s_l14Asked _ vs _ _ h).mono ?_; rw [HO.out]; rintro e w1 ⟨rfl, rfl⟩)
      go_ret2
      exact ⟨rfl, Below.refl _ _⟩
    | false =>
      have HR : Hid (lastV vs (n : Int) = ((((qSeats 1 vs n).2 : Nat) : Int), true)) := by simp [Hid, lastV, hz, hok]
      have HO := Lib.hid hok; clear hok hv
      have HV := Lib.hid hva; clear hva
      rw [HR.out]
      go_enter Try.func36, Try.ntmps36
      go_wp2_with (first | (go_at_call 37; refine (s_l14Asked _ vs _ _ h).mono ?_; rw [HO.out]; rintro e w1 ⟨rfl, rfl⟩) | (go_at_call 44; refine (s_l14Divisors _ vs n 1 _ h hn1 hn8 HV.out hs (by omega)).mono ?_; rintro e w2 ⟨u, rfl, ho, hb2⟩))
      go_ret2
      exact ⟨rfl, hb2⟩

theorem i_LastSeat (v : Value) (vs : List Int) (s : Int) (w : World) (h : IntsAt w v vs) :
    Calls Try.prog 25 #[v, .int .i64 s] w fun e w' => e = .returned (.tuple #[.int .i64 (lastV vs s).1, .bool (lastV vs s).2]) ∧ Below w.heap.size w w' := by
  cases hok : seatsOk vs s with
  | false =>
    have HR : Hid (lastV vs s = (0, false)) := by simp [Hid, lastV, hok]
    have HO := Lib.hid hok; clear hok
    rw [HR.out]
    go_enter Try.func25, Try.ntmps25
    go_wp2_with (go_at_call 39; refine (i_areSeats _ vs _ _ h).mono ?_; rw [HO.out]; rintro e w1 ⟨rfl, hb1⟩)
    go_ret2
    exact ⟨rfl, hb1⟩
  | true =>
    obtain ⟨hv, s0, s1⟩ := seatsOk_parts hok
    obtain ⟨⟨hn1, hn8⟩, hva, _, _⟩ := votesOk_parts hv
    obtain ⟨n, rfl⟩ : ∃ n : Nat, s = n := ⟨s.toNat, by omega⟩
    have hs : n ≤ 50 := by omega
    cases hz : ((n : Int) == 0) with
    | true =>
      have HR : Hid (lastV vs (n : Int) = (0, false)) := by simp [Hid, lastV, hz]
      have HO := Lib.hid hok; clear hok hv
      rw [HR.out]
      go_enter Try.func25, Try.ntmps25
      go_wp2_with (go_at_call 39; refine (i_areSeats _ vs _ _ h).mono ?_; rw [HO.out]; rintro e w1 ⟨rfl, hb1⟩)
      go_ret2
      exact ⟨rfl, hb1⟩
    | false =>
      have HR : Hid (lastV vs (n : Int) = ((((qSeats 1 vs n).2 : Nat) : Int), true)) := by simp [Hid, lastV, hz, hok]
      have HO := Lib.hid hok; clear hok hv
      have HV := Lib.hid hva; clear hva
      rw [HR.out]
      go_enter Try.func25, Try.ntmps25
      go_wp2_with (first | (go_at_call 39; refine (i_areSeats _ vs _ _ h).mono ?_; rw [HO.out]; rintro e w1 ⟨rfl, hb1⟩) | (go_at_call 43; refine (i_byQuotients _ vs n 1 _ (h.below hb1) hn1 hn8 HV.out hs (by omega)).mono ?_; rintro e w2 ⟨u, rfl, ho, hb2⟩))
      go_ret2
      exact ⟨rfl, below_step hb1 hb2⟩

end Go.Proofs.Ytokjamdikenkoaa
