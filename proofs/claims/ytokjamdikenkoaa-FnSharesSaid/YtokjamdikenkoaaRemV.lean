/- Contracts: SeatsByRemainders, ShrinkingGroup, the reference's and the program's. No conditions beyond sizes. -/
import Derived.Test.YtokjamdikenkoaaRemI
namespace Go.Proofs.Ytokjamdikenkoaa
open Go.RowKit
set_option linter.unusedVariables false
set_option linter.unusedSimpArgs false

def remV (vs : List Int) (s : Int) : List Int × Bool := if seatsOk vs s then (remS vs s, true) else ([], false)
theorem remV_len (vs : List Int) (s : Int) (h : vs.length ≤ 1048576) : (remV vs s).1.length ≤ 4000000 := by
  unfold remV; split
  · rw [remS_len]; omega
  · simp
/-- The first group with fewer seats in b than in a. -/
def shrI (a b : List Int) : Option Nat := (List.range a.length).find? fun i => decide (b.getD i 0 < a.getD i 0)
def NoShr (a b : List Int) (k : Nat) : Prop := ∀ j, j < k → ¬ b.getD j 0 < a.getD j 0
theorem NoShr.out {a b : List Int} {k : Nat} (h : NoShr a b k) : ∀ j, j < k → ¬ b.getD j 0 < a.getD j 0 := h
theorem NoShr.more {a b : List Int} {k : Nat} (h : NoShr a b k) (hk : ¬ b.getD k 0 < a.getD k 0) : NoShr a b (k + 1) := fun j hj => by
  by_cases he : j = k
  · subst he; exact hk
  · exact h j (by omega)
theorem range_find {p : Nat → Bool} {n k : Nat} (hk : k < n) (h0 : ∀ j, j < k → p j = false) (h1 : p k = true) : (List.range n).find? p = some k := by
  induction n with
  | zero => omega
  | succ n ih =>
    rw [List.range_succ, List.find?_append]
    by_cases hkn : k = n
    · subst hkn
      have : (List.range k).find? p = none := by
        rw [List.find?_eq_none]
        intro x hx
        rw [h0 x (List.mem_range.1 hx)]; simp
      rw [this]
      simp [h1]
    · rw [ih (by omega)]; rfl
theorem shrI_some {a b : List Int} {k : Nat} (hk : k < a.length) (h0 : NoShr a b k) (h1 : b.getD k 0 < a.getD k 0) : shrI a b = some k :=
  range_find hk (fun j hj => decide_eq_false (h0 j hj)) (decide_eq_true h1)
theorem shrI_none {a b : List Int} (h0 : NoShr a b a.length) : shrI a b = none := by
  unfold shrI
  rw [List.find?_eq_none]
  intro x hx
  have := h0 x (List.mem_range.1 hx)
  rw [decide_eq_false this]; simp
def shrV (vs : List Int) (s : Int) : Int × Bool := if seatsOk vs s && !(s == 50) then (match shrI (remS vs s) (remS vs (s + 1)) with | some i => ((i : Int), true) | none => (0, false)) else (0, false)
theorem remOk_next {vs : List Int} {s : Int} (h : seatsOk vs s = true) (h50 : (s == 50) = false) : RemOk vs (s + 1) := by
  obtain ⟨a1, a2, a3, a4, a5, a6, a7⟩ := remOk_of h
  have : s ≠ 50 := by simpa using h50
  exact ⟨a1, a2, a3, a4, a5, by omega, by omega⟩
theorem rem_bd {vs : List Int} {s : Int} (h : RemOk vs s) : ∀ x ∈ remS vs s, 0 ≤ x ∧ x ≤ 600000 := by
  intro x hx
  rw [← remS_picks h.a] at hx
  have h1 := picks_bd (out := floorL vs s) (rests := restL vs s) h.fl (leftS vs s).toNat x hx
  have h2 := leftS_bd (s := s) h.a
  have h3 := h.n8
  omega

theorem s_SeatsByRemainders (v : Value) (vs : List Int) (s : Int) (w : World) (h : IntsAt w v vs) :
    Calls Try.prog 11 #[v, .int .i64 s] w fun e w' => ∃ u, e = .returned (.tuple #[u, .bool (remV vs s).2]) ∧ OwnInts w' w.heap.size u (remV vs s).1 ∧ Below w.heap.size w w' := by
  cases hok : seatsOk vs s with
  | false =>
    have HR : remV vs s = ([], false) := by simp [remV, hok]
    have HO := Lib.hid hok; clear hok
    rw [HR]; clear HR
    go_enter Try.func11, Try.ntmps11
    go_wp2_with (go_at_call 37; refine (s_l14Asked _ vs _ _ h).mono ?_; rw [HO.out]; rintro e w1 ⟨rfl, rfl⟩)
    go_ret2
    exact ⟨_, rfl, own_lit0 _ _, by go_grown⟩
  | true =>
    have hR := remOk_of hok
    have HR : remV vs s = (remS vs s, true) := by simp [remV, hok]
    have HO := Lib.hid hok; clear hok
    rw [HR]; clear HR
    go_enter Try.func11, Try.ntmps11
    go_wp2_with (first | (go_at_call 37; refine (s_l14Asked _ vs _ _ h).mono ?_; rw [HO.out]; rintro e w1 ⟨rfl, rfl⟩) | (go_at_call 38; refine (s_l14Remainders _ vs s _ h hR).mono ?_; rintro e w2 ⟨u, rfl, ho, hb2⟩))
    obtain ⟨a1, k1, rfl⟩ := ho.at_.form
    go_ret2
    exact ⟨_, rfl, ho, hb2⟩

set_option maxHeartbeats 1000000 in
theorem s_ShrinkingGroup (v : Value) (vs : List Int) (s : Int) (w : World) (h : IntsAt w v vs) :
    Calls Try.prog 7 #[v, .int .i64 s] w fun e w' => e = .returned (.tuple #[.int .i64 (shrV vs s).1, .bool (shrV vs s).2]) ∧ Below w.heap.size w w' := by
  obtain ⟨ao, cap, rfl⟩ := h.form
  cases hok : seatsOk vs s with
  | false =>
    have HR : shrV vs s = (0, false) := by simp [shrV, hok]
    have HO := Lib.hid hok; clear hok
    rw [HR]; clear HR
    go_enter Try.func7, Try.ntmps7
    go_wp2_with (go_at_call 37; refine (s_l14Asked _ vs _ _ h).mono ?_; rw [HO.out]; rintro e w1 ⟨rfl, rfl⟩)
    go_ret2
    exact ⟨rfl, Below.refl _ _⟩
  | true =>
    cases h50 : (s == 50) with
    | true =>
      have HR : shrV vs s = (0, false) := by simp [shrV, h50]
      have HO := Lib.hid hok; clear hok
      rw [HR]; clear HR
      go_enter Try.func7, Try.ntmps7
      go_wp2_with (go_at_call 37; refine (s_l14Asked _ vs _ _ h).mono ?_; rw [HO.out]; rintro e w1 ⟨rfl, rfl⟩)
      go_ret2
      exact ⟨rfl, Below.refl _ _⟩
    | false =>
      have hR := remOk_of hok
      have hR2 := remOk_next hok h50
      have hs0 := hR.s0; have hs1 := hR2.s1
      obtain ⟨A, hA⟩ : ∃ A, A = remS vs s := ⟨_, rfl⟩
      obtain ⟨B, hB⟩ : ∃ B, B = remS vs (s + 1) := ⟨_, rfl⟩
      have hAl : A.length = vs.length := by rw [hA, remS_len]
      have hBl : B.length = vs.length := by rw [hB, remS_len]
      have hn8 := hR.n8
      have HR : shrV vs s = (match shrI A B with | some i => ((i : Int), true) | none => (0, false)) := by simp only [shrV, hok, h50, hA, hB]; rfl
      have HO := Lib.hid hok; clear hok
      have HA := Lib.hid hA; have HB := Lib.hid hB; have HAL := Lib.hid hAl; have HBL := Lib.hid hBl
      have HRR := Lib.hid HR
      clear HR hA hB hAl hBl
      go_enter Try.func7, Try.ntmps7
      go_wp2_with (go_at_call 37; refine (s_l14Asked _ vs _ _ h).mono ?_; rw [HO.out]; rintro e w1 ⟨rfl, rfl⟩)
      refine (s_l14Remainders _ vs s _ h hR).mono ?_
      rw [← HA.out]
      rintro e w2 ⟨u, rfl, ho, hb2⟩
      go_wp2_with fail
      refine (s_l14Remainders _ vs (s + 1) _ (IntsAt.below h hb2) hR2).mono ?_
      rw [← HB.out]
      rintro e w3 ⟨u', rfl, ho', hb3⟩
      have ho2 := OwnI.below ho hb3
      have hbb : Below w.heap.size w w3 := below_step hb2 hb3
      obtain ⟨_, a1, k1, rfl, q1, q2, q3⟩ := ho2.at_
      obtain ⟨_, a2, k2, rfl, p1, p2, p3⟩ := ho'.at_
      unfold maxLen at q2 p2
      obtain ⟨b1, o1, rfl, l1, cs1⟩ := q3 (by have := HAL.out; have := hR.n1; omega)
      obtain ⟨b2, o2, rfl, l2, cs2⟩ := p3 (by have := HBL.out; have := hR.n1; omega)
      have hno : NoShr A B 0 := fun j hj => by omega
      clear q3 p3
      go_wp2_with fail
      go_loopw [8] (fun i wr => ∃ k : Nat, k ≤ A.length ∧ i = .int .i64 k ∧ NoShr A B k ∧ Below w3.heap.size w3 wr) (fun i _ => A.length - (intOf i).toNat)
      case atStart => exact ⟨0, by omega, rfl, hno, Below.refl _ _⟩
      case round =>
        clear hno
        obtain ⟨k, hk, rfl, hno, hbr⟩ := hrel
        by_cases hlt : k < A.length
        · have hltB : k < B.length := by have := HAL.out; have := HBL.out; omega
          have c0 : wr.cell? ⟨b1, o1 + k, none⟩ = some (.int .i64 (A.getD k 0)) := by rw [hbr.cell (p := ⟨b1, o1 + k, none⟩) l1, cs1.intD hlt]
          have c1 : wr.cell? ⟨b2, o2 + k, none⟩ = some (.int .i64 (B.getD k 0)) := by rw [hbr.cell (p := ⟨b2, o2 + k, none⟩) l2, cs2.intD hltB]
          have hk0 : (0 : Int) ≤ (k : Int) := by omega
          have hkA : (k : Int) < (A.length : Int) := by omega
          have hkB : (k : Int) < (B.length : Int) := by omega
          by_cases hx : B.getD k 0 < A.getD k 0
          · have HS : Hid (shrV vs s = ((k : Int), true)) := by rw [Hid, HRR.out, shrI_some hlt hno hx]
            generalize A.getD k 0 = x at *
            generalize B.getD k 0 = y at *
            go_wp2_with fail
            go_quiet (fail)
            go_wp2_with fail
            go_ret2
            rw [HS.out]
            exact ⟨rfl, below_step hbb (Below.drewN' hbr _)⟩
          · have hno' := hno.more hx
            have hxd : decide (B.getD k 0 < A.getD k 0) = false := decide_eq_false hx
            generalize A.getD k 0 = x at *
            generalize B.getD k 0 = y at *
            go_wp2_with fail
            go_quiet (fail)
            go_wp2_with fail
            go_roundw
            case rel => exact ⟨k + 1, by omega, by go_num, hno', (Below.drewN' hbr _)⟩
            case measure => simp [intOf]; omega
        · obtain rfl : k = A.length := by omega
          have HS : Hid (shrV vs s = (0, false)) := by rw [Hid, HRR.out, shrI_none hno]
          go_wp2_with fail
          go_ret2
          rw [HS.out]
          exact ⟨rfl, below_step hbb hbr⟩

theorem i_SeatsByRemainders (v : Value) (vs : List Int) (s : Int) (w : World) (h : IntsAt w v vs) :
    Calls Try.prog 12 #[v, .int .i64 s] w fun e w' => ∃ u, e = .returned (.tuple #[u, .bool (remV vs s).2]) ∧ OwnInts w' w.heap.size u (remV vs s).1 ∧ Below w.heap.size w w' := by
  cases hok : seatsOk vs s with
  | false =>
    have HR : remV vs s = ([], false) := by simp [remV, hok]
    have HO := Lib.hid hok; clear hok
    rw [HR]; clear HR
    go_enter Try.func12, Try.ntmps12
    go_wp2_with (go_at_call 39; refine (i_areSeats _ vs _ _ h).mono ?_; rw [HO.out]; rintro e w1 ⟨rfl, hb1⟩)
    go_ret2
    exact ⟨_, rfl, World.ownsRow_nil _ _ 3 1, hb1⟩
  | true =>
    have hR := remOk_of hok
    have HR : remV vs s = (remS vs s, true) := by simp [remV, hok]
    have HO := Lib.hid hok; clear hok
    rw [HR]; clear HR
    go_enter Try.func12, Try.ntmps12
    go_wp2_with (first | (go_at_call 39; refine (i_areSeats _ vs _ _ h).mono ?_; rw [HO.out]; rintro e w1 ⟨rfl, hb1⟩) | (go_at_call 40; refine (i_byRemainders _ vs s _ (h.below hb1) hR).mono ?_; rintro e w2 ⟨u, rfl, ho, hb2⟩))
    obtain ⟨a1, k1, rfl⟩ := ho.at_.form
    go_ret2
    exact ⟨_, rfl, own_base ho hb1.size, below_step hb1 hb2⟩

set_option maxHeartbeats 1000000 in
theorem i_ShrinkingGroup (v : Value) (vs : List Int) (s : Int) (w : World) (h : IntsAt w v vs) :
    Calls Try.prog 9 #[v, .int .i64 s] w fun e w' => e = .returned (.tuple #[.int .i64 (shrV vs s).1, .bool (shrV vs s).2]) ∧ Below w.heap.size w w' := by
  obtain ⟨ao, cap, rfl⟩ := h.form
  cases hok : seatsOk vs s with
  | false =>
    have HR : shrV vs s = (0, false) := by simp [shrV, hok]
    have HO := Lib.hid hok; clear hok
    rw [HR]; clear HR
    go_enter Try.func9, Try.ntmps9
    go_wp2_with (go_at_call 39; refine (i_areSeats _ vs _ _ h).mono ?_; rw [HO.out]; rintro e w1 ⟨rfl, hb1⟩)
    go_ret2
    exact ⟨rfl, hb1⟩
  | true =>
    cases h50 : (s == 50) with
    | true =>
      have HR : shrV vs s = (0, false) := by simp [shrV, h50]
      have HO := Lib.hid hok; clear hok
      rw [HR]; clear HR
      go_enter Try.func9, Try.ntmps9
      go_wp2_with (go_at_call 39; refine (i_areSeats _ vs _ _ h).mono ?_; rw [HO.out]; rintro e w1 ⟨rfl, hb1⟩)
      go_ret2
      exact ⟨rfl, hb1⟩
    | false =>
      have hR := remOk_of hok
      have hR2 := remOk_next hok h50
      have hs0 := hR.s0; have hs1 := hR2.s1
      obtain ⟨A, hA⟩ : ∃ A, A = remS vs s := ⟨_, rfl⟩
      obtain ⟨B, hB⟩ : ∃ B, B = remS vs (s + 1) := ⟨_, rfl⟩
      have hAl : A.length = vs.length := by rw [hA, remS_len]
      have hBl : B.length = vs.length := by rw [hB, remS_len]
      have hn8 := hR.n8
      have HR : shrV vs s = (match shrI A B with | some i => ((i : Int), true) | none => (0, false)) := by simp only [shrV, hok, h50, hA, hB]; rfl
      have HO := Lib.hid hok; clear hok
      have HA := Lib.hid hA; have HB := Lib.hid hB; have HAL := Lib.hid hAl; have HBL := Lib.hid hBl
      have HRR := Lib.hid HR
      clear HR hA hB hAl hBl
      go_enter Try.func9, Try.ntmps9
      go_wp2_with (go_at_call 39; refine (i_areSeats _ vs _ _ h).mono ?_; rw [HO.out]; rintro e w1 ⟨rfl, hb1⟩)
      refine (i_byRemainders _ vs s _ (h.below hb1) hR).mono ?_
      rw [← HA.out]
      rintro e w2 ⟨u, rfl, ho, hb2⟩
      go_wp2_with fail
      refine (i_byRemainders _ vs (s + 1) _ (IntsAt.below (h.below hb1) hb2) hR2).mono ?_
      rw [← HB.out]
      rintro e w3 ⟨u', rfl, ho', hb3⟩
      have ho2 := OwnI.below ho hb3
      have hbb : Below w.heap.size w w3 := below_step (below_step hb1 hb2) hb3
      obtain ⟨_, a1, k1, rfl, q1, q2, q3⟩ := ho2.at_
      obtain ⟨_, a2, k2, rfl, p1, p2, p3⟩ := ho'.at_
      unfold maxLen at q2 p2
      obtain ⟨b1, o1, rfl, l1, cs1⟩ := q3 (by have := HAL.out; have := hR.n1; omega)
      obtain ⟨b2, o2, rfl, l2, cs2⟩ := p3 (by have := HBL.out; have := hR.n1; omega)
      have hno : NoShr A B 0 := fun j hj => by omega
      clear q3 p3
      go_wp2_with fail
      go_loopw [27] (fun i wr => ∃ k : Nat, k ≤ A.length ∧ i = .int .i64 k ∧ NoShr A B k ∧ Below w3.heap.size w3 wr) (fun i _ => A.length - (intOf i).toNat)
      case atStart => exact ⟨0, by omega, rfl, hno, Below.refl _ _⟩
      case round =>
        clear hno
        obtain ⟨k, hk, rfl, hno, hbr⟩ := hrel
        by_cases hlt : k < A.length
        · have hltB : k < B.length := by have := HAL.out; have := HBL.out; omega
          have c0 : wr.cell? ⟨b1, o1 + k, none⟩ = some (.int .i64 (A.getD k 0)) := by rw [hbr.cell (p := ⟨b1, o1 + k, none⟩) l1, cs1.intD hlt]
          have c1 : wr.cell? ⟨b2, o2 + k, none⟩ = some (.int .i64 (B.getD k 0)) := by rw [hbr.cell (p := ⟨b2, o2 + k, none⟩) l2, cs2.intD hltB]
          have hk0 : (0 : Int) ≤ (k : Int) := by omega
          have hkA : (k : Int) < (A.length : Int) := by omega
          have hkB : (k : Int) < (B.length : Int) := by omega
          by_cases hx : B.getD k 0 < A.getD k 0
          · have HS : Hid (shrV vs s = ((k : Int), true)) := by rw [Hid, HRR.out, shrI_some hlt hno hx]
            generalize A.getD k 0 = x at *
            generalize B.getD k 0 = y at *
            go_wp2_with fail
            go_ret2
            rw [HS.out]
            exact ⟨rfl, below_step hbb hbr⟩
          · have hno' := hno.more hx
            have hxd : decide (B.getD k 0 < A.getD k 0) = false := decide_eq_false hx
            generalize A.getD k 0 = x at *
            generalize B.getD k 0 = y at *
            go_wp2_with fail
            go_roundw
            case rel => exact ⟨k + 1, by omega, by go_num, hno', hbr⟩
            case measure => simp [intOf]; omega
        · obtain rfl : k = A.length := by omega
          have HS : Hid (shrV vs s = (0, false)) := by rw [Hid, HRR.out, shrI_none hno]
          go_wp2_with fail
          go_ret2
          rw [HS.out]
          exact ⟨rfl, below_step hbb hbr⟩

end Go.Proofs.Ytokjamdikenkoaa
