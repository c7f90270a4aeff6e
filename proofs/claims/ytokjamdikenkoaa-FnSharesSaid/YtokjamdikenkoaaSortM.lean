/- Contracts: slices.SortStableFunc at ints (insertion sort, at most 19 elements). Condition: the order's function keeps all that lies outside. -/
import Derived.Test.YtokjamdikenkoaaSortL
import Derived.Test.YtokjamdikenkoaaIntS
import Derived.Test.YtokjamdikenkoaaDelete
import Derived.Test.YtokjamdikenkoaaBw
import Derived.BigRegion
namespace Go.Proofs.Ytokjamdikenkoaa
open Go.RowKit
set_option linter.unusedVariables false
set_option linter.unusedSimpArgs false

section
variable {α : Type}
/-- The list in the middle of an insertion: x stands at place j. -/
def midL (P R : List α) (x : α) (j : Nat) : List α := P.take j ++ x :: (P.drop j ++ R)
theorem midL_len (P R : List α) (x : α) (j : Nat) : (midL P R x j).length = P.length + 1 + R.length := by
  simp only [midL, List.length_append, List.length_cons, List.length_take, List.length_drop]; omega
theorem midL_at {P R : List α} {x : α} {j : Nat} (h : j ≤ P.length) : (midL P R x j)[j]? = some x := by
  unfold midL
  rw [List.getElem?_append_right (by rw [List.length_take]; omega), List.length_take, Nat.min_eq_left h, Nat.sub_self]; rfl
theorem midL_pre {P R : List α} {x : α} {j : Nat} (h : j ≤ P.length) (h0 : 0 < j) : (midL P R x j)[j - 1]? = some (P[j - 1]'(by omega)) := by
  unfold midL
  rw [List.getElem?_append_left (by simp; omega), List.getElem?_take_of_lt (by omega), List.getElem?_eq_getElem (by omega)]
theorem midL_swap {P R : List α} {x : α} {j : Nat} (h : j ≤ P.length) (h0 : 0 < j) : ((midL P R x j).set j (P[j - 1]'(by omega))).set (j - 1) x = midL P R x (j - 1) := by
  obtain ⟨i, rfl⟩ : ∃ i, j = i + 1 := ⟨j - 1, by omega⟩
  simp only [Nat.add_sub_cancel]
  have hi : i < P.length := by omega
  unfold midL
  rw [take_at hi, drop_at hi]
  have e1 : ((P.take i ++ [P[i]]) ++ x :: (P.drop (i + 1) ++ R)).set (i + 1) P[i] = (P.take i ++ [P[i]]) ++ P[i] :: (P.drop (i + 1) ++ R) := set_mid _ _ _ _ _ (by simp; omega)
  rw [e1]
  have e2 : (P.take i ++ [P[i]]) ++ P[i] :: (P.drop (i + 1) ++ R) = P.take i ++ P[i] :: (P[i] :: (P.drop (i + 1) ++ R)) := by rw [List.append_assoc]; rfl
  rw [e2, set_mid _ _ _ _ _ (by simp; omega)]
  rfl
theorem midL_start {P R : List α} {x : α} : midL P R x P.length = P ++ x :: R := by simp [midL]
theorem midL_done {lt : α → α → Bool} {P R : List α} {x : α} {j : Nat} (hj : j ≤ P.length) (h1 : ∀ y ∈ P.drop j, lt x y = true) (h2 : ∀ h : 0 < j, lt x (P[j - 1]'(by omega)) = false) : midL P R x j = insEnd lt P x ++ R := by
  rw [insEnd_at lt x hj h1 h2]; simp [midL]
theorem below_more {lt : α → α → Bool} {P : List α} {x : α} {j : Nat} (hj : j ≤ P.length) (h0 : 0 < j) (h1 : ∀ y ∈ P.drop j, lt x y = true) (h2 : lt x (P[j - 1]'(by omega)) = true) : ∀ y ∈ P.drop (j - 1), lt x y = true := by
  obtain ⟨i, rfl⟩ : ∃ i, j = i + 1 := ⟨j - 1, by omega⟩
  simp only [Nat.add_sub_cancel] at h2 ⊢
  rw [drop_at (by omega)]
  intro y hy
  rcases List.mem_cons.1 hy with rfl | hy
  · exact h2
  · exact h1 y hy
/-- All that stands behind place j goes behind x. -/
def Behind (lt : α → α → Bool) (P : List α) (x : α) (j : Nat) : Prop := ∀ y ∈ P.drop j, lt x y = true
theorem Behind.out {lt : α → α → Bool} {P : List α} {x : α} {j : Nat} (h : Behind lt P x j) : ∀ y ∈ P.drop j, lt x y = true := h
end

set_option maxHeartbeats 4000000 in
theorem insSort_int (cf : Nat) (hcf : Enters Try.prog cf) (cap : List Value) (r : Int → Int → Int) (g c B n : Nat) (xs : List Int) (w : World) (HN : Hid (n = xs.length)) (h : w.ownsRow B 3 1 (.slice (some ⟨g, 0, none⟩) n c) n (ints xs)) (hc : n ≤ c) (h1 : 1 ≤ n) (h19 : n ≤ 19)
    (hp : ∀ x y w', x ∈ xs → y ∈ xs → OutOf g (g + 1) w w' → Calls Try.prog cf (.int .i64 x :: .int .i64 y :: cap).toArray w' fun e w'' => e = .returned (.int .i64 (r x y)) ∧ Below w'.heap.size w' w'') :
    Calls Try.prog 76 #[.slice (some ⟨g, 0, none⟩) n c, .int .i64 0, .int .i64 (n : Int), .func (.func cf) #[] cap.toArray] w fun e w' => e = .returned (.tuple #[]) ∧
      w'.ownsRow B 3 1 (.slice (some ⟨g, 0, none⟩) n c) n (ints (sortS (fun x y => decide (r x y < 0)) xs)) ∧ OutOf g (g + 1) w w' := by
  have HP := Lib.hid hp; clear hp
  have hcf := hcf.out
  have hgs := (h.lt g rfl).2
  have hst : Hid (ints (sortS (fun x y => decide (r x y < 0)) (xs.take 1) ++ xs.drop 1) = ints xs) := by
    rw [Hid]
    congr 1
    cases xs with
    | nil => have := HN.out; simp at this; omega
    | cons a q => simp [sortS, insEnd, insRev]
  go_enter Try.func76, Try.ntmps76
  go_wp2_with fail
  go_loopw [8] (fun i wr => ∃ k : Nat, 1 ≤ k ∧ k ≤ n ∧ i = .int .i64 k ∧ wr.ownsRow B 3 1 (.slice (some ⟨g, 0, none⟩) n c) n (ints (sortS (fun x y => decide (r x y < 0)) (xs.take k) ++ xs.drop k)) ∧ OutOf g (g + 1) w wr) (fun i _ => n - (intOf i).toNat)
  case atStart => exact ⟨1, by omega, h1, rfl, by rw [hst.out]; exact h, OutOf.refl _ _ _⟩
  case round =>
    rename World => wa
    clear h hst
    obtain ⟨k, hk1, hkn, rfl, hown, ho⟩ := hrel
    by_cases hlt : k < n
    · have hkx : k < xs.length := by have := HN.out; omega
      obtain ⟨P, hP⟩ : ∃ P, P = sortS (fun x y => decide (r x y < 0)) (xs.take k) := ⟨_, rfl⟩
      have hPl : P.length = k := by rw [hP, sortS_len, List.length_take]; omega
      have hPm : ∀ y ∈ P, y ∈ xs := fun y hy => by rw [hP] at hy; exact List.mem_of_mem_take ((sortS_perm _ _).mem_iff.1 hy)
      have hnext : Hid (sortS (fun x y => decide (r x y < 0)) (xs.take (k + 1)) = insEnd (fun x y => decide (r x y < 0)) P xs[k]) := by rw [Hid, sortS_take _ hkx, hP]
      obtain ⟨R, hR⟩ : ∃ R, R = xs.drop (k + 1) := ⟨_, rfl⟩
      have hmid : sortS (fun x y => decide (r x y < 0)) (xs.take k) ++ xs.drop k = midL P R xs[k] k := by
        have := midL_start (P := P) (R := R) (x := xs[k])
        rw [hPl] at this
        rw [this, drop_at hkx, hP, hR]
      rw [hmid] at hown
      have hxm : xs[k] ∈ xs := List.getElem_mem hkx
      have HX := Lib.hid hxm
      have HPM := Lib.hid hPm; have HPL := Lib.hid hPl; have HR := Lib.hid hR
      have hRl : P.length + 1 + R.length = n := by rw [hPl, hR, List.length_drop]; have := HN.out; omega
      have HRL := Lib.hid hRl
      clear hP hPm hPl hR hmid hxm hRl
      generalize xs[k] = x at *
      have hb0 : Behind (fun x y => decide (r x y < 0)) P x k := fun y hy => by rw [List.drop_of_length_le (by have := HPL.out; omega)] at hy; cases hy
      go_wp2_with fail
      go_loopw [9] (fun i wr => ∃ j : Nat, j ≤ k ∧ i = .int .i64 j ∧ Behind (fun x y => decide (r x y < 0)) P x j ∧ wr.ownsRow B 3 1 (.slice (some ⟨g, 0, none⟩) n c) n (ints (midL P R x j)) ∧ OutOf g (g + 1) w wr) (fun i _ => (intOf i).toNat)
      case atStart => exact ⟨k, Nat.le_refl _, rfl, hb0, hown, ho⟩
      case round =>
        rename World => wb
        clear hown ho hb0
        obtain ⟨j, hj, rfl, hbh, hown, ho⟩ := hrel
        by_cases hj0 : 0 < j
        · have hjP : j ≤ P.length := by have := HPL.out; omega
          have hjm : j - 1 < P.length := by omega
          have hget := midL_at (R := R) (x := x) hjP
          have hpre := midL_pre (R := R) (x := x) hjP hj0
          have hml := midL_len P R x j
          have hjn : j < n := by omega
          have c0 : wb.cell? ⟨g, j, none⟩ = some (.int .i64 x) := by rw [hown.cellAt j (by omega), ints, List.getElem?_map, hget]; rfl
          have c1 : wb.cell? ⟨g, j - 1, none⟩ = some (.int .i64 P[j - 1]) := by rw [hown.cellAt (j - 1) (by omega), ints, List.getElem?_map, hpre]; rfl
          have hym := HPM.out _ (List.getElem_mem hjm)
          have hq := fun X : BW wb => HP.out x P[j - 1] X.w HX.out hym (ho.trans (OutOf.of_below X.h))
          have r0 := BW.cell ((hown.lt g rfl).2) c0
          have r1 := BW.cell ((hown.lt g rfl).2) c1
          have hw1 : IntKind.i64.wrap ((j : Int) - 1) = (j : Int) - 1 := IntWalk.i64_in _ (by omega)
          have hw2 : ((j : Int) - 1).toNat = j - 1 := by omega
          have hw3 : (0 : Int) ≤ (j : Int) - 1 := by omega
          have hw7 : (1 : Int) ≤ (j : Int) := by omega
          have hw4 : (j : Int) - 1 < (n : Int) := by omega
          have hw5 : (j : Int) < (n : Int) := by omega
          have hw6 : (0 : Int) ≤ (j : Int) := by omega
          have HQ := Lib.hid hq
          clear hq hget hpre
          by_cases hr : r x P[j - 1] < 0
          · have hb' : Behind (fun x y => decide (r x y < 0)) P x (j - 1) := below_more (lt := fun x y => decide (r x y < 0)) hjP hj0 hbh.out (decide_eq_true hr)
            have hsw := midL_swap (R := R) (x := x) hjP hj0
            have hsw2 : ((midL P R x j).set (j - 1) x).set j P[j - 1] = midL P R x (j - 1) := by rw [List.set_comm _ _ (by omega)]; exact hsw
            have HS1 := Lib.hid hsw; have HS2 := Lib.hid hsw2
            clear hsw hsw2 hml
            generalize P[j - 1] = y at *
            go_wp2_with fail
            refine wp_region_bw (by kernel_rfl) (by kernel_rfl) ?_
            repeat (first
              | go_big_quiet_skip
              | (go_big_quiet_want; go_big_quiet_op; first | go_big_quiet_on | (apply Exists.intro; refine ⟨fun _ => ?_, ?_⟩; ((with_reducible exact BW.call (HQ.out _))); go_big_quiet_on)))
            refine wpQuiet_nil ?_
            rintro _ ⟨xq, rfl⟩
            have ho' := ho.trans (OutOf.of_below xq.h)
            have hown' := own_below hown xq.h
            have d0 := r0 xq
            have d1 := r1 xq
            have f0 := hown'.frozenAt j
            have f1 := hown'.frozenAt (j - 1)
            clear r0 r1 HQ hown ho
            generalize xq.w = wz at d0 d1 f0 f1 ho' hown' ⊢
            clear xq
            go_wp2_with fail
            go_region
            all_goals go_wp2_with fail
            all_goals go_roundw
            all_goals first
              | (case rel =>
                  have hs := ((hown'.stored j (.int .i64 y)).1.stored (j - 1) (.int .i64 x)).1
                  rw [ints_put, ints_put, HS1.out] at hs
                  exact ⟨j - 1, by omega, by congr 1; omega, hb', hs, ((ho'.set _).set _).drew'⟩)
              | (case measure => simp [intOf]; omega)
          · have hb0 : r x P[j - 1] < 0 ↔ False := ⟨fun h => hr h, fun h => h.elim⟩
            have hdone : Hid (midL P R x j = sortS (fun x y => decide (r x y < 0)) (xs.take (k + 1)) ++ xs.drop (k + 1)) := by
              rw [Hid, hnext.out, ← HR.out]
              exact midL_done (lt := fun x y => decide (r x y < 0)) hjP hbh.out (fun _ => decide_eq_false hr)
            rw [hdone.out] at hown
            have hrd : decide (r x P[j - 1] < 0) = false := decide_eq_false hr
            clear hml hb0
            generalize P[j - 1] = y at *
            go_wp2_with fail
            refine wp_region_bw (by kernel_rfl) (by kernel_rfl) ?_
            repeat (first
              | go_big_quiet_skip
              | (go_big_quiet_want; go_big_quiet_op; first | go_big_quiet_on | (apply Exists.intro; refine ⟨fun _ => ?_, ?_⟩; ((with_reducible exact BW.call (HQ.out _))); go_big_quiet_on)))
            refine wpQuiet_nil ?_
            rintro _ ⟨xq, rfl⟩
            go_wp2_with fail
            go_roundw
            case rel => exact ⟨k + 1, by omega, by omega, by go_num, own_below hown xq.h, ho.trans (OutOf.of_below xq.h)⟩
            case measure => simp [intOf]; omega
        · obtain rfl : j = 0 := by omega
          have hdone : Hid (midL P R x 0 = sortS (fun x y => decide (r x y < 0)) (xs.take (k + 1)) ++ xs.drop (k + 1)) := by
            rw [Hid, hnext.out, ← HR.out]
            exact midL_done (Nat.zero_le _) hbh.out (fun h => absurd h (by omega))
          rw [hdone.out] at hown
          have hg0 : decide ((0 : Int) < ((0 : Nat) : Int)) = false := rfl
          go_wp2_with fail
          refine wp_region_bw (by kernel_rfl) (by kernel_rfl) ?_
          repeat (first
            | go_big_quiet_skip
            | (go_big_quiet_want; go_big_quiet_op; first | go_big_quiet_on | (apply Exists.intro; refine ⟨fun _ => ?_, ?_⟩; ((fail)); go_big_quiet_on)))
          refine wpQuiet_nil ?_
          rintro _ ⟨xq, rfl⟩
          go_wp2_with fail
          go_roundw
          case rel => exact ⟨k + 1, by omega, by omega, by go_num, own_below hown xq.h, ho.trans (OutOf.of_below xq.h)⟩
          case measure => simp [intOf]; omega
    · obtain rfl : k = n := by omega
      have hfin : Hid (sortS (fun x y => decide (r x y < 0)) (xs.take k) ++ xs.drop k = sortS (fun x y => decide (r x y < 0)) xs) := by
        rw [Hid, List.take_of_length_le (by have := HN.out; omega), List.drop_of_length_le (by have := HN.out; omega), List.append_nil]
      rw [hfin.out] at hown
      go_wp2_with fail
      go_end0
      exact ⟨rfl, hown, ho⟩

set_option maxHeartbeats 1000000 in
theorem stable_int (cf : Nat) (hcf : Enters Try.prog cf) (cap : List Value) (r : Int → Int → Int) (g c B n : Nat) (xs : List Int) (w : World) (HN : Hid (n = xs.length)) (h : w.ownsRow B 3 1 (.slice (some ⟨g, 0, none⟩) n c) n (ints xs)) (hc : n ≤ c) (h1 : 1 ≤ n) (h19 : n ≤ 19)
    (hp : ∀ x y w', x ∈ xs → y ∈ xs → OutOf g (g + 1) w w' → Calls Try.prog cf (.int .i64 x :: .int .i64 y :: cap).toArray w' fun e w'' => e = .returned (.int .i64 (r x y)) ∧ Below w'.heap.size w' w'') :
    Calls Try.prog 74 #[.slice (some ⟨g, 0, none⟩) n c, .int .i64 (n : Int), .func (.func cf) #[] cap.toArray] w fun e w' => e = .returned (.tuple #[]) ∧
      w'.ownsRow B 3 1 (.slice (some ⟨g, 0, none⟩) n c) n (ints (sortS (fun x y => decide (r x y < 0)) xs)) ∧ OutOf g (g + 1) w w' := by
  have HQ := Lib.hid (insSort_int cf hcf cap r g c B n xs w HN h hc h1 h19 hp)
  clear hp h
  have hn20 : ¬ (20 : Int) ≤ (n : Int) := by omega
  have hn20' : ¬ (20 : Int) < (n : Int) := by omega
  go_enter Try.func74, Try.ntmps74
  go_wp2_with fail
  refine wp_loop_rounds 1 ?_; rw [rounds_succ]
  go_wp2_with (go_at_call 76; refine HQ.out.mono ?_; rintro e w1 ⟨rfl, ho, hb⟩)
  refine wp_loop_rounds 1 ?_; rw [rounds_succ]
  go_wp2_with fail
  go_end0
  exact ⟨rfl, ho, hb⟩

theorem sortStable_int (cf : Nat) (hcf : Enters Try.prog cf) (cap : List Value) (r : Int → Int → Int) (g c B n : Nat) (xs : List Int) (w : World) (HN : Hid (n = xs.length)) (h : w.ownsRow B 3 1 (.slice (some ⟨g, 0, none⟩) n c) n (ints xs)) (hc : n ≤ c) (h1 : 1 ≤ n) (h19 : n ≤ 19)
    (hp : ∀ x y w', x ∈ xs → y ∈ xs → OutOf g (g + 1) w w' → Calls Try.prog cf (.int .i64 x :: .int .i64 y :: cap).toArray w' fun e w'' => e = .returned (.int .i64 (r x y)) ∧ Below w'.heap.size w' w'') :
    Calls Try.prog 65 #[.slice (some ⟨g, 0, none⟩) n c, .func (.func cf) #[] cap.toArray] w fun e w' => e = .returned (.tuple #[]) ∧
      w'.ownsRow B 3 1 (.slice (some ⟨g, 0, none⟩) n c) n (ints (sortS (fun x y => decide (r x y < 0)) xs)) ∧ OutOf g (g + 1) w w' := by
  have HQ := Lib.hid (stable_int cf hcf cap r g c B n xs w HN h hc h1 h19 hp)
  clear hp h
  go_enter Try.func65, Try.ntmps65
  go_wp2_with (go_at_call 74; refine HQ.out.mono ?_; rintro e w1 ⟨rfl, ho, hb⟩)
  go_end0
  exact ⟨rfl, ho, hb⟩

end Go.Proofs.Ytokjamdikenkoaa
