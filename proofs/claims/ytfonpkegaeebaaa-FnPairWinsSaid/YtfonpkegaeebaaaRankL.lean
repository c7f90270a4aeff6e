/- Contracts: whether an election is valid, the reference's and the program's. No conditions beyond sizes. -/
import Derived.Test.YtfonpkegaeebaaaRankS
namespace Go.Proofs.Ytfonpkegaeebaaa
open Go.RowKit
set_option linter.unusedVariables false
set_option linter.unusedSimpArgs false

theorem IntsAt.take {w : World} {ao : Option Addr} {cap : Nat} {xs : List Int} (h : IntsAt w (.slice ao xs.length cap) xs) {k : Nat} (hk : k ≤ xs.length) : IntsAt w (.slice ao k cap) (xs.take k) := by
  obtain ⟨_, ao', cap', hs, h1, h2, h3⟩ := h
  simp only [Value.slice.injEq, true_and] at hs
  obtain ⟨rfl, rfl⟩ := hs
  have hl : (xs.take k).length = k := by simp; omega
  refine ⟨by simp, ao, cap, by rw [hl], by omega, h2, fun hn => ?_⟩
  obtain ⟨b, off, rfl, hb, hc⟩ := h3 (by omega)
  refine ⟨b, off, rfl, hb, fun j hj => ?_⟩
  have hj' : j < (xs.take k).length := by simpa using hj
  have := hc j (by simp; omega)
  rw [this]
  simp [ints]

def permF (n : Int) : List Int → List Int → Bool
  | _, [] => true
  | pre, x :: r => inB x 0 (n - 1) && !hasB pre x && permF n (pre ++ [x]) r
def permOk (n : Int) (xs : List Int) : Bool := decide ((xs.length : Int) = n) && permF n [] xs
theorem permF_at {n : Int} {xs : List Int} {k : Nat} (h : k < xs.length) : permF n (xs.take k) (xs.drop k) = (inB xs[k] 0 (n - 1) && !hasB (xs.take k) xs[k] && permF n (xs.take (k + 1)) (xs.drop (k + 1))) := by
  rw [drop_at h]
  simp only [permF]
  rw [take_at h]
def rankOk (n : Int) (r : DRanking) : Bool := permOk n r.order && inB r.weight 1 100
def electOk (n : Int) (rs : List DRanking) : Bool := inB n 1 5 && inB (rs.length : Int) 1 9 && rs.all (rankOk n)

set_option maxHeartbeats 2000000 in
theorem s_l13Single (n : Int) (u : Value) (r : DRanking) (w : World) (h : IntsAt w u r.order) (hn : 1 ≤ n ∧ n ≤ 5) :
    Calls Try.prog 53 #[.int .i64 n, vRank u r] w fun e w' => e = .returned (.bool (rankOk n r)) ∧ Below w.heap.size w w' := by
  obtain ⟨xs, wt⟩ := r
  simp only at h
  have hL : xs.length ≤ maxLen := by obtain ⟨_, _, _, _, h1, h2, _⟩ := h; omega
  unfold maxLen at hL
  obtain ⟨ao, cap, rfl⟩ := h.form
  obtain ⟨W, hW⟩ : ∃ W, W = w.alloc (.cells #[.slice ao xs.length cap, .int .i64 wt] 44) := ⟨_, rfl⟩
  have bA : BoxAt W w.heap.size #[.slice ao xs.length cap, .int .i64 wt] := by rw [hW]; exact BoxAt.new _ _ _
  have hWb : Below w.heap.size w W := by rw [hW]; go_grown
  have hI := h.below hWb
  have HW := Lib.hid hW; clear hW
  have a0 := bA.cells
  by_cases hl : (xs.length : Int) = n
  case neg =>
    have HR : Hid (rankOk n ⟨xs, wt⟩ = false) := by simp [Hid, rankOk, permOk, hl]
    have hlb : (((xs.length : Nat) : Int) != n) = true := by rw [bne_iff_ne]; exact hl
    clear hl
    go_enter Try.func53, Try.ntmps53
    go_wp2_with fail
    rw [← HW.out]
    go_wp2_with fail
    go_ret
    exact ⟨ret_bool HR.out.symm, hWb⟩
  case pos =>
    have hlb : (((xs.length : Nat) : Int) != n) = false := by simp [hl]
    cases hw : inB wt 1 100 with
    | false =>
      have HR : Hid (rankOk n ⟨xs, wt⟩ = false) := by simp [Hid, rankOk, hw]
      have HWT := Lib.hid hw; clear hw
      have HLN := Lib.hid hl; clear hl
      go_enter Try.func53, Try.ntmps53
      go_wp2_with fail
      rw [← HW.out]
      go_wp2_with (go_at_call 45; refine (s_l1In _ _ _ _).mono ?_; rw [HWT.out]; rintro e w' ⟨rfl, rfl⟩)
      go_ret
      exact ⟨ret_bool HR.out.symm, hWb⟩
    | true =>
      have HR : Hid (rankOk n ⟨xs, wt⟩ = permF n [] xs) := by simp [Hid, rankOk, permOk, hw, hl]
      have HWT := Lib.hid hw; clear hw
      have hln : xs.length ≤ 5 := by omega
      have HLN := Lib.hid hl; clear hl
      go_enter Try.func53, Try.ntmps53
      go_wp2_with fail
      rw [← HW.out]
      go_wp2_with (go_at_call 45; refine (s_l1In _ _ _ _).mono ?_; rw [HWT.out]; rintro e w' ⟨rfl, rfl⟩)
      go_loopw [5] (fun i wr => ∃ k : Nat, k ≤ xs.length ∧ i = .int .i64 k ∧ Hid (permF n [] xs = permF n (xs.take k) (xs.drop k)) ∧ Below W.heap.size W wr) (fun i _ => xs.length - (intOf i).toNat)
      case atStart => exact ⟨0, by omega, rfl, by simp [Hid], Below.refl _ _⟩
      case round =>
        obtain ⟨k, hk, rfl, hd, hb⟩ := hrel
        have hd' := hd.out
        clear hd
        have ar := (bA.below hb).cells
        have hIr := hI.below hb
        have hfin : Below w.heap.size w wr := hWb.trans (hb.mono hWb.size)
        by_cases hlt : k < xs.length
        · have hkn : (k : Int) < n := by have := HLN.out; omega
          have htk := hIr.take (Nat.le_of_lt hlt)
          obtain ⟨_, ao', cap', hs, h1, h2, h3⟩ := hIr
          simp only [Value.slice.injEq, true_and] at hs
          obtain ⟨rfl, rfl⟩ := hs
          obtain ⟨b, off, rfl, h4, h5⟩ := h3 (by omega)
          have hc := h5.int hlt
          have hc1 : (k : Int) ≤ (cap : Int) := by omega
          have hk0 : (0 : Int) ≤ (k : Int) := by omega
          have hk2 : (k : Int) < (xs.length : Int) := by omega
          have hwn : IntKind.i64.wrap (n - 1) = n - 1 := IntWalk.i64_in _ (by omega)
          rw [permF_at hlt] at hd'
          have hq := fun q => s_l1Has (.slice (some ⟨b, off, none⟩) k cap) (xs.take k) xs[k] (wr.drewN q) ⟨htk.1, htk.2⟩
          cases hi : inB xs[k] 0 (n - 1) with
          | false =>
            have HD : Hid (permF n [] xs = false) := by simpa [Hid, hi] using hd'
            clear hd'
            generalize xs[k] = x at *
            go_wp2_with fail
            go_quiet ((go_at_call 45; exact quiet_eq (s_l1In _ _ _ _)))
            go_wp2_with fail
            go_ret
            exact ⟨ret_bool (by rw [HR.out, HD.out]), Below.drewN' hfin _⟩
          | true =>
            cases hh : hasB (xs.take k) xs[k] with
            | true =>
              have HD : Hid (permF n [] xs = false) := by simpa [Hid, hi, hh] using hd'
              simp only [hh] at hq
              have HQ := Lib.hid hq
              clear hd' hq hh
              generalize xs[k] = x at *
              go_wp2_with fail
              go_quiet ((first | (go_at_call 45; exact quiet_eq (s_l1In _ _ _ _)) | (go_at_call 35; exact quiet_eq (HQ.out _))))
              go_wp2_with fail
              go_ret
              exact ⟨ret_bool (by rw [HR.out, HD.out]), Below.drewN' hfin _⟩
            | false =>
              have HD : Hid (permF n [] xs = permF n (xs.take (k + 1)) (xs.drop (k + 1))) := by simpa [Hid, hi, hh] using hd'
              simp only [hh] at hq
              have HQ := Lib.hid hq
              clear hd' hq hh
              generalize xs[k] = x at *
              go_wp2_with fail
              go_quiet ((first | (go_at_call 45; exact quiet_eq (s_l1In _ _ _ _)) | (go_at_call 35; exact quiet_eq (HQ.out _))))
              go_wp2_with fail
              go_roundw
              case rel => exact ⟨k + 1, by omega, by go_num, HD, Below.drewN' hb _⟩
              case measure => simp [intOf]; omega
        · have hkn : ¬ (k : Int) < n := by have := HLN.out; omega
          have HD : Hid (permF n [] xs = true) := by
            rw [List.drop_of_length_le (by omega)] at hd'
            simpa [Hid, permF] using hd'
          clear hd'
          go_wp2_with fail
          go_ret
          exact ⟨ret_bool (by rw [HR.out, HD.out]), hfin⟩

set_option maxHeartbeats 2000000 in
theorem i_isPermutation (n : Int) (v : Value) (xs : List Int) (w : World) (h : IntsAt w v xs) (hn : 1 ≤ n ∧ n ≤ 5) :
    Calls Try.prog 49 #[v, .int .i64 n] w fun e w' => e = .returned (.bool (permOk n xs)) ∧ w = w' := by
  have hL : xs.length ≤ maxLen := by obtain ⟨_, _, _, _, h1, h2, _⟩ := h; omega
  unfold maxLen at hL
  obtain ⟨ao, cap, rfl⟩ := h.form
  have hwn : IntKind.i64.wrap (n - 1) = n - 1 := IntWalk.i64_in _ (by omega)
  go_enter Try.func49, Try.ntmps49
  go_wp2_with fail
  go_loopw [9] (fun i wr => ∃ k : Nat, k ≤ xs.length ∧ i = .int .i64 k ∧ Hid (permF n [] xs = permF n (xs.take k) (xs.drop k)) ∧ w = wr) (fun i _ => xs.length - (intOf i).toNat)
  case atStart => exact ⟨0, by omega, rfl, by simp [Hid], by trivial⟩
  case round =>
    obtain ⟨k, hk, rfl, hd, rfl⟩ := hrel
    have hd' := hd.out
    clear hd
    by_cases hlt : k < xs.length
    · have htk := h.take (Nat.le_of_lt hlt)
      obtain ⟨_, ao', cap', hs, h1, h2, h3⟩ := h
      simp only [Value.slice.injEq, true_and] at hs
      obtain ⟨rfl, rfl⟩ := hs
      obtain ⟨b, off, rfl, h4, h5⟩ := h3 (by omega)
      have hc := h5.int hlt
      have hc1 : (k : Int) ≤ (cap : Int) := by omega
      have hk0 : (0 : Int) ≤ (k : Int) := by omega
      have hk2 : (k : Int) < (xs.length : Int) := by omega
      rw [permF_at hlt] at hd'
      have hq := slices_Contains (.slice (some ⟨b, off, none⟩) k cap) (xs.take k) xs[k] w ⟨htk.1, htk.2⟩
      cases hi : inB xs[k] 0 (n - 1) with
      | false =>
        have HD : Hid (permOk n xs = false) := by simp [Hid, permOk, hd', hi]
        have HI := Lib.hid hi; clear hi hd'
        generalize xs[k] = x at *
        go_wp2_with (go_at_call 43; refine (i_inside _ _ _ _).mono ?_; rw [HI.out]; rintro e w' ⟨rfl, rfl⟩)
        go_ret
        exact ⟨ret_bool HD.out.symm, rfl⟩
      | true =>
        have HI := Lib.hid hi
        cases hh : hasB (xs.take k) xs[k] with
        | true =>
          have HD : Hid (permOk n xs = false) := by simp [Hid, permOk, hd', hh]
          rw [hh] at hq
          have HQ := Lib.hid hq
          clear hd' hq hh hi
          generalize xs[k] = x at *
          go_wp2_with (first | (go_at_call 43; refine (i_inside _ _ _ _).mono ?_; rw [HI.out]; rintro e w' ⟨rfl, rfl⟩) | (go_at_call 59; refine HQ.out.mono ?_; rintro e w' ⟨rfl, rfl⟩))
          go_ret
          exact ⟨ret_bool HD.out.symm, rfl⟩
        | false =>
          have HD : Hid (permF n [] xs = permF n (xs.take (k + 1)) (xs.drop (k + 1))) := by simpa [Hid, hi, hh] using hd'
          rw [hh] at hq
          have HQ := Lib.hid hq
          clear hd' hq hh hi
          generalize xs[k] = x at *
          go_wp2_with (first | (go_at_call 43; refine (i_inside _ _ _ _).mono ?_; rw [HI.out]; rintro e w' ⟨rfl, rfl⟩) | (go_at_call 59; refine HQ.out.mono ?_; rintro e w' ⟨rfl, rfl⟩))
          go_roundw
          case rel => exact ⟨k + 1, by omega, by go_num, HD, by trivial⟩
          case measure => simp [intOf]; omega
    · have HD : Hid (permOk n xs = decide ((xs.length : Int) = n)) := by
        rw [List.drop_of_length_le (by omega)] at hd'
        simp [Hid, permOk, hd', permF]
      clear hd'
      obtain rfl : k = xs.length := by omega
      go_wp2_with fail
      go_ret
      exact ⟨ret_bool (by rw [HD.out]; rw [Bool.eq_iff_iff]; simp), rfl⟩

set_option maxHeartbeats 1000000 in
theorem i_IsElection1 (u : Value) (r : DRanking) (n : Int) (b : Nat) (w : World) (h : IntsAt w u r.order) (hn : 1 ≤ n ∧ n ≤ 5) (hB : BoxAt w b #[.int .i64 n]) :
    Calls Try.prog 48 #[vRank u r, .pointer (some ⟨b, 0, none⟩)] w fun e w' => e = .returned (.bool (!rankOk n r)) ∧ Below w.heap.size w w' := by
  obtain ⟨xs, wt⟩ := r
  simp only at h
  obtain ⟨ao, cap, rfl⟩ := h.form
  obtain ⟨W, hW⟩ : ∃ W, W = w.alloc (.cells #[.slice ao xs.length cap, .int .i64 wt] 44) := ⟨_, rfl⟩
  have bA : BoxAt W w.heap.size #[.slice ao xs.length cap, .int .i64 wt] := by rw [hW]; exact BoxAt.new _ _ _
  have hWb : Below w.heap.size w W := by rw [hW]; go_grown
  have hI := h.below hWb
  have bB := (hB.below hWb).cells
  have hbc := hB.cells
  have hbl := hB.1
  have hbne : ¬ w.heap.size = b := by omega
  have hbne' : ¬ b = w.heap.size := by omega
  have HW := Lib.hid hW; clear hW
  have a0 := bA.cells
  cases hp : permOk n xs with
  | false =>
    have HR : Hid (rankOk n ⟨xs, wt⟩ = false) := by simp [Hid, rankOk, hp]
    have HP := Lib.hid hp; clear hp
    go_enter Try.func48, Try.ntmps48
    go_wp2_with fail
    rw [← HW.out]
    go_wp2_with (go_at_call 49; refine (i_isPermutation _ _ xs _ hI hn).mono ?_; rw [HP.out]; rintro e w' ⟨rfl, rfl⟩)
    go_ret
    exact ⟨ret_bool (by rw [HR.out]; rfl), hWb⟩
  | true =>
    have HR : Hid (rankOk n ⟨xs, wt⟩ = inB wt 1 100) := by simp [Hid, rankOk, hp]
    have HP := Lib.hid hp; clear hp
    go_enter Try.func48, Try.ntmps48
    go_wp2_with fail
    rw [← HW.out]
    go_wp2_with (first | (go_at_call 49; refine (i_isPermutation _ _ xs _ hI hn).mono ?_; rw [HP.out]; rintro e w' ⟨rfl, rfl⟩) | (go_at_call 43; refine (i_inside _ _ _ _).mono ?_; rintro e w' ⟨rfl, rfl⟩))
    go_ret
    exact ⟨ret_bool (by rw [HR.out]), hWb⟩

set_option maxHeartbeats 1000000 in
theorem IndexFunc_rank (cf : Nat) (hcf : Enters Try.prog cf) (cap : List Value) (p : DRanking → Bool) (v : Value) (xs : List DRanking) (w : World) (h : RanksAt w v xs)
    (hp : ∀ u r w', Below w.heap.size w w' → IntsAt w' u r.order → Calls Try.prog cf (vRank u r :: cap).toArray w' fun e w'' => e = .returned (.bool (p r)) ∧ Below w'.heap.size w' w'') :
    Calls Try.prog 58 #[v, .func (.func cf) #[] cap.toArray] w fun e w' => e = .returned (.int .i64 (idxBy p xs)) ∧ Below w.heap.size w w' := by
  have hL := h.len
  unfold maxLen at hL
  obtain ⟨ao, cap', rfl⟩ := h.form
  rw [← idxFrom_eq]
  have HP := Lib.hid hp; clear hp
  have hcf := hcf.out
  go_enter Try.func58, Try.ntmps58
  go_wp2_with fail
  go_loopw [8] (fun i wr => ∃ k : Nat, k ≤ xs.length ∧ i = .int .i64 k ∧ Hid (idxFrom p 0 xs = idxFrom p k (xs.drop k)) ∧ Below w.heap.size w wr) (fun i _ => xs.length - (intOf i).toNat)
  case atStart => exact ⟨0, by omega, rfl, by simp [Hid], Below.refl _ _⟩
  case round =>
    obtain ⟨k, hk, rfl, hd, hb⟩ := hrel
    by_cases hlt : k < xs.length
    · obtain ⟨b, off, u0, rfl, h4, h5, c0, c1⟩ := (h.below hb).get hlt
      have hd' := hd.out
      rw [drop_at hlt] at hd'
      simp only [idxFrom] at hd'
      cases hpx : p xs[k] with
      | true =>
        have HD : Hid (idxFrom p 0 xs = k) := by simpa [Hid, hpx] using hd'
        clear hd hd'
        have HPX := Lib.hid hpx; clear hpx
        generalize xs[k] = x at *
        go_wp2_with fail
        refine (HP.out u0 x _ hb h5).mono ?_
        rw [HPX.out]
        rintro e w' ⟨rfl, hb1⟩
        go_wp2_with fail
        go_ret
        exact ⟨ret_int HD.out.symm, below_step hb hb1⟩
      | false =>
        have HD : Hid (idxFrom p 0 xs = idxFrom p (k + 1) (xs.drop (k + 1))) := by simpa [Hid, hpx] using hd'
        clear hd hd'
        have HPX := Lib.hid hpx; clear hpx
        generalize xs[k] = x at *
        go_wp2_with fail
        refine (HP.out u0 x _ hb h5).mono ?_
        rw [HPX.out]
        rintro e w' ⟨rfl, hb1⟩
        go_wp2_with fail
        go_roundw
        case rel => exact ⟨k + 1, by omega, by go_num, HD, below_step hb hb1⟩
        case measure => simp [intOf]; omega
    · have HD : Hid (idxFrom p 0 xs = -1) := by
        have := hd.out
        rw [List.drop_of_length_le (by omega)] at this
        simpa [Hid, idxFrom] using this
      clear hd
      go_wp2_with fail
      go_ret
      exact ⟨ret_int HD.out.symm, hb⟩

theorem ContainsFunc_rank (cf : Nat) (hcf : Enters Try.prog cf) (cap : List Value) (p : DRanking → Bool) (v : Value) (xs : List DRanking) (w : World) (h : RanksAt w v xs)
    (hp : ∀ u r w', Below w.heap.size w w' → IntsAt w' u r.order → Calls Try.prog cf (vRank u r :: cap).toArray w' fun e w'' => e = .returned (.bool (p r)) ∧ Below w'.heap.size w' w'') :
    Calls Try.prog 47 #[v, .func (.func cf) #[] cap.toArray] w fun e w' => e = .returned (.bool (xs.any p)) ∧ Below w.heap.size w w' := by
  obtain ⟨ao, n, rfl⟩ := h.form
  have HP := Lib.hid hp; clear hp
  rw [← idxBy_neg]
  have hq := IndexFunc_rank cf hcf cap p _ xs w h HP.out
  have HQ := Lib.hid hq; clear hq
  go_enter Try.func47, Try.ntmps47
  go_wp2_with fail
  refine HQ.out.mono ?_
  rintro e w' ⟨rfl, hb⟩
  go_wp2_with fail
  go_ret
  exact ⟨rfl, hb⟩

set_option maxHeartbeats 1000000 in
theorem i_IsElection (n : Int) (v : Value) (rs : List DRanking) (w : World) (h : RanksAt w v rs) :
    Calls Try.prog 26 #[.int .i64 n, v] w fun e w' => e = .returned (.bool (electOk n rs)) ∧ Below w.heap.size w w' := by
  have hL := h.len
  unfold maxLen at hL
  obtain ⟨ao, cap, rfl⟩ := h.form
  obtain ⟨W, hW⟩ : ∃ W, W = w.alloc (.cells #[.int .i64 n] 3) := ⟨_, rfl⟩
  have bN : BoxAt W w.heap.size #[.int .i64 n] := by rw [hW]; exact BoxAt.new _ _ _
  have hWb : Below w.heap.size w W := by rw [hW]; go_grown
  have hI := h.below hWb
  have HW := Lib.hid hW; clear hW
  have n0 := bN.cells
  cases hn : inB n 1 5 with
  | false =>
    have HR : Hid (electOk n rs = false) := by simp [Hid, electOk, hn]
    have HN := Lib.hid hn; clear hn
    go_enter Try.func26, Try.ntmps26
    go_wp2_with fail
    rw [← HW.out]
    go_wp2_with (go_at_call 43; refine (i_inside _ _ _ _).mono ?_; rw [HN.out]; rintro e w' ⟨rfl, rfl⟩)
    go_ret
    exact ⟨ret_bool HR.out.symm, hWb⟩
  | true =>
    cases hl : inB (rs.length : Int) 1 9 with
    | false =>
      have HR : Hid (electOk n rs = false) := by simp [Hid, electOk, hl]
      have HN := Lib.hid hn; have HL := Lib.hid hl; clear hn hl
      go_enter Try.func26, Try.ntmps26
      go_wp2_with fail
      rw [← HW.out]
      go_wp2_with (first | (go_at_call_of 43 (Value.int .i64 n); refine (i_inside n _ _ _).mono ?_; rw [HN.out]; rintro e w' ⟨rfl, rfl⟩) | (go_at_call_of 43 (Value.int .i64 (rs.length : Int)); refine (i_inside (rs.length : Int) _ _ _).mono ?_; rw [HL.out]; rintro e w' ⟨rfl, rfl⟩))
      go_ret
      exact ⟨ret_bool HR.out.symm, hWb⟩
    | true =>
      have HR : Hid (electOk n rs = !rs.any (fun r => !rankOk n r)) := by
        simp only [Hid, electOk, hn, hl, Bool.true_and]
        rw [List.not_any_eq_all_not]; simp
      have hcl := ContainsFunc_rank 48 (enters_of Try.func48 (by kernel_rfl) (by kernel_rfl)) [.pointer (some ⟨w.heap.size, 0, none⟩)] (fun r => !rankOk n r) _ rs W hI
        (fun u r w' hb hi => i_IsElection1 u r n w.heap.size w' hi (inB_iff.1 hn) (bN.below hb))
      have HC := Lib.hid hcl
      have HN := Lib.hid hn; have HL := Lib.hid hl; clear hn hl hcl
      go_enter Try.func26, Try.ntmps26
      go_wp2_with fail
      rw [← HW.out]
      go_wp2_with (first | (go_at_call_of 43 (Value.int .i64 n); refine (i_inside n _ _ _).mono ?_; rw [HN.out]; rintro e w' ⟨rfl, rfl⟩) | (go_at_call_of 43 (Value.int .i64 (rs.length : Int)); refine (i_inside (rs.length : Int) _ _ _).mono ?_; rw [HL.out]; rintro e w' ⟨rfl, rfl⟩) | (go_at_call 47; refine HC.out.mono ?_; rintro e w2 ⟨rfl, hb2⟩))
      go_ret
      exact ⟨ret_bool HR.out.symm, hWb.trans (hb2.mono hWb.size)⟩

set_option maxHeartbeats 1000000 in
theorem s_l13Good (n : Int) (v : Value) (rs : List DRanking) (w : World) (h : RanksAt w v rs) :
    Calls Try.prog 32 #[.int .i64 n, v] w fun e w' => e = .returned (.bool (electOk n rs)) ∧ Below w.heap.size w w' := by
  have hL := h.len
  unfold maxLen at hL
  obtain ⟨ao, cap, rfl⟩ := h.form
  cases hn : inB n 1 5 with
  | false =>
    have HR : Hid (electOk n rs = false) := by simp [Hid, electOk, hn]
    have HN := Lib.hid hn; clear hn
    go_enter Try.func32, Try.ntmps32
    go_wp2_with (go_at_call 45; refine (s_l1In _ _ _ _).mono ?_; rw [HN.out]; rintro e w' ⟨rfl, rfl⟩)
    go_ret
    exact ⟨ret_bool HR.out.symm, Below.refl _ _⟩
  | true =>
    cases hl : inB (rs.length : Int) 1 9 with
    | false =>
      have HR : Hid (electOk n rs = false) := by simp [Hid, electOk, hl]
      have HN := Lib.hid hn; have HL := Lib.hid hl; clear hn hl
      go_enter Try.func32, Try.ntmps32
      go_wp2_with (first | (go_at_call_of 45 (Value.int .i64 n); refine (s_l1In n _ _ _).mono ?_; rw [HN.out]; rintro e w' ⟨rfl, rfl⟩) | (go_at_call_of 45 (Value.int .i64 (rs.length : Int)); refine (s_l1In (rs.length : Int) _ _ _).mono ?_; rw [HL.out]; rintro e w' ⟨rfl, rfl⟩))
      go_ret
      exact ⟨ret_bool HR.out.symm, Below.refl _ _⟩
    | true =>
      have HR : Hid (electOk n rs = rs.all (rankOk n)) := by simp [Hid, electOk, hn, hl]
      have hnb := inB_iff.1 hn
      have HN := Lib.hid hn; have HL := Lib.hid hl; clear hn hl
      go_enter Try.func32, Try.ntmps32
      go_wp2_with (first | (go_at_call_of 45 (Value.int .i64 n); refine (s_l1In n _ _ _).mono ?_; rw [HN.out]; rintro e w' ⟨rfl, rfl⟩) | (go_at_call_of 45 (Value.int .i64 (rs.length : Int)); refine (s_l1In (rs.length : Int) _ _ _).mono ?_; rw [HL.out]; rintro e w' ⟨rfl, rfl⟩))
      go_loopw [5] (fun i wr => ∃ k : Nat, k ≤ rs.length ∧ i = .int .i64 k ∧ Hid (rs.all (rankOk n) = (rs.drop k).all (rankOk n)) ∧ Below w.heap.size w wr) (fun i _ => rs.length - (intOf i).toNat)
      case atStart => exact ⟨0, by omega, rfl, by simp [Hid], Below.refl _ _⟩
      case round =>
        obtain ⟨k, hk, rfl, hd, hb⟩ := hrel
        have hd' := hd.out
        clear hd
        by_cases hlt : k < rs.length
        · obtain ⟨b, off, u0, rfl, h4, h5, c0, c1⟩ := (h.below hb).get hlt
          rw [drop_at hlt, List.all_cons] at hd'
          have hq := s_l13Single n u0 rs[k] wr h5 hnb
          cases hr : rankOk n rs[k] with
          | false =>
            have HD : Hid (electOk n rs = false) := by simp only [Hid]; rw [HR.out, hd', hr]; rfl
            rw [hr] at hq
            have HQ := Lib.hid hq
            clear hd' hr hq
            generalize rs[k] = r at *
            go_wp2_with (go_at_call 53; refine HQ.out.mono ?_; rintro e w2 ⟨rfl, hb2⟩)
            go_ret
            exact ⟨ret_bool HD.out.symm, below_step hb hb2⟩
          | true =>
            have HD : Hid (rs.all (rankOk n) = (rs.drop (k + 1)).all (rankOk n)) := by simp only [Hid]; rw [hd', hr]; rfl
            rw [hr] at hq
            have HQ := Lib.hid hq
            clear hd' hr hq
            generalize rs[k] = r at *
            go_wp2_with (go_at_call 53; refine HQ.out.mono ?_; rintro e w2 ⟨rfl, hb2⟩)
            go_roundw
            case rel => exact ⟨k + 1, by omega, by go_num, HD, below_step hb hb2⟩
            case measure => simp [intOf]; omega
        · have HD : Hid (electOk n rs = true) := by
            rw [List.drop_of_length_le (by omega)] at hd'
            simp only [Hid]; rw [HR.out, hd']; rfl
          clear hd'
          obtain rfl : k = rs.length := by omega
          go_wp2_with fail
          go_ret
          exact ⟨ret_bool HD.out.symm, hb⟩

end Go.Proofs.Ytfonpkegaeebaaa
