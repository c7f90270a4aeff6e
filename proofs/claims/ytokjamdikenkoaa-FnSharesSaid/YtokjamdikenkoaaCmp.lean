/- Contracts: cmp.Compare and cmp.Or at int, slices.Compare at ints; lists in order. No conditions. -/
import Derived.Test.YtokjamdikenkoaaIntS
namespace Go.Proofs.Ytokjamdikenkoaa
open Go.RowKit
set_option linter.unusedVariables false
set_option linter.unusedSimpArgs false

/-- cmp.Compare at numbers. -/
def cmpI (a b : Int) : Int := if a < b then -1 else if b < a then 1 else 0
/-- slices.Compare at numbers. -/
def cmpL : List Int → List Int → Int
  | [], [] => 0
  | [], _ :: _ => -1
  | _ :: _, [] => 1
  | x :: xs, y :: ys => if cmpI x y = 0 then cmpL xs ys else cmpI x y

theorem isNaN_int (a : Int) (w : World) :
    Calls Try.prog 73 #[.int .i64 a] w fun e w' => e = .returned (.bool false) ∧ w = w' := by
  go_enter Try.func73, Try.ntmps73
  go_wp2
  go_ret
  exact ⟨ret_bool (by simp), rfl⟩

theorem Compare_int (a b : Int) (w : World) :
    Calls Try.prog 61 #[.int .i64 a, .int .i64 b] w fun e w' => e = .returned (.int .i64 (cmpI a b)) ∧ w = w' := by
  by_cases h1 : a < b
  · have HR : Hid (cmpI a b = -1) := by simp [Hid, cmpI, h1]
    go_enter Try.func61, Try.ntmps61
    go_wp2_with (go_at_call 73; refine (isNaN_int _ _).mono ?_; rintro e w' ⟨rfl, rfl⟩)
    go_ret
    exact ⟨ret_int HR.out.symm, rfl⟩
  · by_cases h2 : b < a
    · have HR : Hid (cmpI a b = 1) := by simp [Hid, cmpI, h1, h2]
      go_enter Try.func61, Try.ntmps61
      go_wp2_with (go_at_call 73; refine (isNaN_int _ _).mono ?_; rintro e w' ⟨rfl, rfl⟩)
      go_ret
      exact ⟨ret_int HR.out.symm, rfl⟩
    · have HR : Hid (cmpI a b = 0) := by simp [Hid, cmpI, h1, h2]
      go_enter Try.func61, Try.ntmps61
      go_wp2_with (go_at_call 73; refine (isNaN_int _ _).mono ?_; rintro e w' ⟨rfl, rfl⟩)
      go_ret
      exact ⟨ret_int HR.out.symm, rfl⟩

theorem slices_Compare (v u : Value) (xs ys : List Int) (w : World) (h : IntsAt w v xs) (g : IntsAt w u ys) :
    Calls Try.prog 62 #[v, u] w fun e w' => e = .returned (.int .i64 (cmpL xs ys)) ∧ w = w' := by
  obtain ⟨_, ao, cap, rfl, h1, h2, h3⟩ := h
  obtain ⟨_, ao', cap', rfl, g1, g2, g3⟩ := g
  unfold maxLen at h2 g2
  go_enter Try.func62, Try.ntmps62
  go_wp2
  go_loop [11] (fun i => ∃ k : Nat, k ≤ xs.length ∧ k ≤ ys.length ∧ i = .int .i64 k ∧ Hid (cmpL xs ys = cmpL (xs.drop k) (ys.drop k))) (fun i => xs.length - (intOf i).toNat)
  case atStart => exact ⟨0, by omega, by omega, rfl, by simp [Hid]⟩
  case round =>
    obtain ⟨k, hk, hky, rfl, hd⟩ := hrel
    have hd' := hd.out
    clear hd
    by_cases hlt : k < xs.length
    · obtain ⟨b, off, rfl, h4, h5⟩ := h3 (by omega)
      have hc : w.cell? ⟨b, off + k, none⟩ = some (.int .i64 xs[k]) := h5.int hlt
      by_cases hlt' : k < ys.length
      · obtain ⟨b', off', rfl, g4, g5⟩ := g3 (by omega)
        have hc' : w.cell? ⟨b', off' + k, none⟩ = some (.int .i64 ys[k]) := g5.int hlt'
        rw [drop_at hlt, drop_at hlt'] at hd'
        simp only [cmpL] at hd'
        by_cases hz : cmpI xs[k] ys[k] = 0
        · have HD : Hid (cmpL xs ys = cmpL (xs.drop (k + 1)) (ys.drop (k + 1))) := by simpa [Hid, hz] using hd'
          have HZ : Hid (cmpI xs[k] ys[k] = 0) := hz
          clear hd' hz
          generalize xs[k] = x at *
          generalize ys[k] = y at *
          go_wp2_with (go_at_call 61; refine (Compare_int _ _ _).mono ?_; rw [HZ.out]; rintro e w' ⟨rfl, rfl⟩)
          go_round
          case rel => exact ⟨k + 1, by omega, by omega, by go_num, HD⟩
          case measure => simp [intOf]; omega
        · have HD : Hid (cmpL xs ys = cmpI xs[k] ys[k]) := by simpa [Hid, hz] using hd'
          have hz' : (cmpI xs[k] ys[k] != 0) = true := by simpa using hz
          clear hd' hz
          generalize xs[k] = x at *
          generalize ys[k] = y at *
          go_wp2_with (go_at_call 61; refine (Compare_int _ _ _).mono ?_; rintro e w' ⟨rfl, rfl⟩)
          go_ret
          exact ⟨ret_int HD.out.symm, rfl⟩
      · have HD : Hid (cmpL xs ys = 1) := by
          rw [drop_at hlt, List.drop_of_length_le (by omega : ys.length ≤ k)] at hd'
          simpa [Hid, cmpL] using hd'
        clear hd'
        generalize xs[k] = x at *
        go_wp2
        go_ret
        exact ⟨ret_int HD.out.symm, rfl⟩
    · have hkx : k = xs.length := by omega
      by_cases hlt' : k < ys.length
      · have HD : Hid (cmpL xs ys = -1) := by
          rw [List.drop_of_length_le (by omega : xs.length ≤ k), drop_at hlt'] at hd'
          simpa [Hid, cmpL] using hd'
        clear hd'
        go_wp2
        go_ret
        exact ⟨ret_int HD.out.symm, rfl⟩
      · have HD : Hid (cmpL xs ys = 0) := by
          rw [List.drop_of_length_le (by omega : xs.length ≤ k), List.drop_of_length_le (by omega : ys.length ≤ k)] at hd'
          simpa [Hid, cmpL] using hd'
        clear hd'
        go_wp2
        go_ret
        exact ⟨ret_int HD.out.symm, rfl⟩

/-- cmp.Or of two numbers. -/
def orI (a b : Int) : Int := if a = 0 then b else a

theorem Or_int2 (v : Value) (a b : Int) (w : World) (h : IntsAt w v [a, b]) :
    Calls Try.prog 60 #[v] w fun e w' => e = .returned (.int .i64 (orI a b)) ∧ w = w' := by
  obtain ⟨_, ao, cap, rfl, h1, h2, h3⟩ := h
  obtain ⟨bb, off, rfl, h4, h5⟩ := h3 (by simp)
  have c0 : w.cell? ⟨bb, off, none⟩ = some (.int .i64 a) := by have := h5.int (k := 0) (by simp); simpa using this
  have c1 : w.cell? ⟨bb, off + 1, none⟩ = some (.int .i64 b) := by have := h5.int (k := 1) (by simp); simpa using this
  clear h5 h3
  simp only [List.length_cons, List.length_nil] at *
  by_cases ha : a = 0
  · have HR : Hid (orI a b = b) := by simp [Hid, orI, ha]
    rw [HR.out]
    subst ha
    by_cases hb : b = 0
    · subst hb
      clear HR
      go_enter Try.func60, Try.ntmps60
      go_wp2
      refine wp_loop_rounds 3 ?_; rw [rounds_succ]; go_wp2
      rw [rounds_succ]; go_wp2
      rw [rounds_succ]; go_wp2
      go_ret
      exact ⟨rfl, rfl⟩
    · have hb' : (b != 0) = true := by simpa using hb
      clear hb HR
      go_enter Try.func60, Try.ntmps60
      go_wp2
      refine wp_loop_rounds 2 ?_; rw [rounds_succ]; go_wp2
      rw [rounds_succ]; go_wp2
      go_ret
      exact ⟨rfl, rfl⟩
  · have HR : Hid (orI a b = a) := by simp [Hid, orI, ha]
    have ha' : (a != 0) = true := by simpa using ha
    clear ha
    rw [HR.out]; clear HR
    go_enter Try.func60, Try.ntmps60
    go_wp2
    refine wp_loop_rounds 1 ?_; rw [rounds_succ]; go_wp2
    go_ret
    exact ⟨rfl, rfl⟩

end Go.Proofs.Ytokjamdikenkoaa
