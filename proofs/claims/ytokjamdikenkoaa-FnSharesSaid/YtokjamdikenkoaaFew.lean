/- Contracts: FewestForMajority, the reference's and the program's. No conditions. -/
import Derived.Test.YtokjamdikenkoaaQuot
import Derived.Test.YtokjamdikenkoaaPush
import Derived.Test.YtokjamdikenkoaaCmp
import Derived.Test.YtokjamdikenkoaaInts2
import Derived.Test.YtokjamdikenkoaaBits
namespace Go.Proofs.Ytokjamdikenkoaa
open Go.RowKit
set_option linter.unusedVariables false
set_option linter.unusedSimpArgs false

theorem pickS_bd (rs : List Int) (m k : Nat) (h : ∀ x ∈ rs, 0 ≤ x ∧ x ≤ 50) (hk : k ≤ rs.length) : 0 ≤ pickS rs m k ∧ pickS rs m k ≤ (rs.take k).sum ∧ pickS rs m k ≤ 50 * k := by
  induction k with
  | zero => simp [pickS]
  | succ k ih =>
    have hlt : k < rs.length := by omega
    have h1 := ih (by omega)
    have h2 := h _ (mem_getD hlt)
    have h3 : (rs.take (k + 1)).sum = (rs.take k).sum + rs.getD k 0 := by rw [take_at hlt, getD_at hlt, List.sum_append]; simp
    simp only [pickS]
    split <;> omega
theorem pickS_nil {rs : List Int} {m k : Nat} (h : pickL m k = []) : pickS rs m k = 0 := by
  induction k with
  | zero => rfl
  | succ k ih =>
    simp only [pickL] at h
    simp only [pickS]
    split at h
    · simp at h
    · rename_i hb; rw [if_neg hb]; exact ih h
theorem pickS_zero (rs : List Int) (k : Nat) : pickS rs 0 k = 0 := by
  induction k with
  | zero => rfl
  | succ k ih => simp [pickS, ih]
theorem pickS_full (rs : List Int) (n k : Nat) (h : k ≤ n) (hk : k ≤ rs.length) : pickS rs (2 ^ n - 1) k = (rs.take k).sum := by
  induction k with
  | zero => simp [pickS]
  | succ k ih =>
    have hlt : k < rs.length := by omega
    have h3 : (rs.take (k + 1)).sum = (rs.take k).sum + rs.getD k 0 := by rw [take_at hlt, getD_at hlt, List.sum_append]; simp
    simp only [pickS, Nat.testBit_two_pow_sub_one, show k < n by omega, decide_true, if_true]
    rw [h3, ih (by omega) (by omega)]

/-- A list is shorter, or as long and ahead. -/
def lessL (a b : List Int) : Bool := decide (orI (cmpI a.length b.length) (cmpL a b) < 0)
theorem lessL_len {a b : List Int} (h : a.length ≠ b.length) : lessL a b = decide ((a.length : Int) < b.length) := by
  unfold lessL orI cmpI
  split <;> (repeat' split) <;> simp_all <;> omega
theorem lessL_same {a b : List Int} (h : a.length = b.length) : lessL a b = decide (cmpL a b < 0) := by
  simp [lessL, orI, cmpI, h]

/-- The best set so far. -/
def fewStep (rs : List Int) (st : Option (List Int)) (m : Nat) : Option (List Int) :=
  match st with
  | none => if rs.sum < 2 * pickS rs m rs.length then some (pickL m rs.length) else none
  | some b => if rs.sum < 2 * pickS rs m rs.length ∧ lessL (pickL m rs.length) b = true then some (pickL m rs.length) else some b
def few (rs : List Int) : Nat → Option (List Int)
  | 0 => none
  | m + 1 => fewStep rs (few rs m) m
theorem few_one (rs : List Int) (h : 0 ≤ rs.sum) : few rs 1 = none := by
  simp only [few, fewStep, pickS_zero]
  rw [if_neg (by omega)]
theorem few_none {rs : List Int} {m : Nat} (h0 : few rs m = none) (h : ¬ rs.sum < 2 * pickS rs m rs.length) : few rs (m + 1) = none := by simp [few, fewStep, h0, h]
theorem few_first {rs : List Int} {m : Nat} (h0 : few rs m = none) (h : rs.sum < 2 * pickS rs m rs.length) : few rs (m + 1) = some (pickL m rs.length) := by simp [few, fewStep, h0, h]
theorem few_keep {rs b : List Int} {m : Nat} (h0 : few rs m = some b) (h : ¬ rs.sum < 2 * pickS rs m rs.length) : few rs (m + 1) = some b := by simp [few, fewStep, h0, h]
theorem few_more {rs b : List Int} {m : Nat} (h0 : few rs m = some b) (h : rs.sum < 2 * pickS rs m rs.length) (hl : lessL (pickL m rs.length) b = true) : few rs (m + 1) = some (pickL m rs.length) := by simp [few, fewStep, h0, h, hl]
theorem few_less {rs b : List Int} {m : Nat} (h0 : few rs m = some b) (hl : lessL (pickL m rs.length) b = false) : few rs (m + 1) = some b := by simp [few, fewStep, h0, hl]
theorem few_len {rs b : List Int} {m : Nat} (h : few rs m = some b) : b.length ≤ rs.length := by
  induction m generalizing b with
  | zero => simp [few] at h
  | succ m ih =>
    cases h0 : few rs m with
    | none =>
      simp only [few, fewStep, h0] at h
      split at h
      · injection h with h; subst h; exact pickL_len _ _
      · cases h
    | some c =>
      simp only [few, fewStep, h0] at h
      split at h
      · injection h with h; subst h; exact pickL_len _ _
      · injection h with h; subst h; exact ih h0
theorem few_empty {rs : List Int} (h : ∀ x ∈ rs, 0 ≤ x ∧ x ≤ 50) (h0 : rs.sum = 0) (m : Nat) : few rs m = none := by
  induction m with
  | zero => rfl
  | succ m ih =>
    refine few_none ih ?_
    have := pickS_bd rs m rs.length h (Nat.le_refl _)
    rw [List.take_length] at this
    omega
theorem few_full {rs : List Int} (h0 : 0 < rs.sum) : few rs (2 ^ rs.length) ≠ none := by
  have hp : 0 < 2 ^ rs.length := Nat.two_pow_pos _
  obtain ⟨m, hm⟩ : ∃ m, 2 ^ rs.length = m + 1 := ⟨2 ^ rs.length - 1, by omega⟩
  have hs : rs.sum < 2 * pickS rs m rs.length := by
    have : m = 2 ^ rs.length - 1 := by omega
    rw [this, pickS_full rs _ _ (Nat.le_refl _) (Nat.le_refl _), List.take_length]
    omega
  rw [hm]
  cases h1 : few rs m with
  | none => rw [few_first h1 hs]; simp
  | some b =>
    simp only [few, fewStep, h1]
    split <;> simp

/-- A result is valid. -/
def resOk (rs : List Int) : Bool := inB rs.length 1 8 && allIn 0 50 rs
/-- What FewestForMajority returns. -/
def fewV (rs : List Int) : List Int × Bool := if resOk rs then ((few rs (2 ^ rs.length)).getD [], (few rs (2 ^ rs.length)).isSome) else ([], false)
theorem fewV_len (rs : List Int) (h : rs.length ≤ 1048576) : (fewV rs).1.length ≤ 4000000 := by
  unfold fewV
  split
  · cases h0 : few rs (2 ^ rs.length) with
    | none => simp
    | some b => have := few_len h0; simp only [Option.getD_some]; omega
  · simp
theorem resOk_parts {rs : List Int} (h : resOk rs = true) : (∀ x ∈ rs, 0 ≤ x ∧ x ≤ 50) ∧ 1 ≤ rs.length ∧ rs.length ≤ 8 ∧ 0 ≤ rs.sum ∧ rs.sum ≤ 400 := by
  simp only [resOk, Bool.and_eq_true] at h
  have h1 := allIn_iff.1 h.2
  have h2 := inB_iff.1 h.1
  have h3 := sum_bound 50 rs h1
  exact ⟨h1, by omega, by omega, h3.1, by omega⟩

theorem s_l14Less (v u : Value) (xs ys : List Int) (w : World) (h : IntsAt w v xs) (g : IntsAt w u ys) :
    Calls Try.prog 63 #[v, u] w fun e w' => e = .returned (.bool (lessL xs ys)) ∧ Below w.heap.size w w' := by
  obtain ⟨_, ao, cap, rfl, h1, h2, h3⟩ := h
  obtain ⟨_, ao', cap', rfl, g1, g2, g3⟩ := g
  unfold maxLen at h2 g2
  by_cases hl : xs.length = ys.length
  · have hlb : (((xs.length : Nat) : Int) != ((ys.length : Nat) : Int)) = false := by simp [hl]
    have HL := Lib.hid hl
    have HR : Hid (lessL xs ys = decide (cmpL xs ys < 0)) := lessL_same hl
    clear hl
    go_enter Try.func63, Try.ntmps63
    go_wp2
    go_loopw [5] (fun i wr => ∃ k : Nat, k ≤ xs.length ∧ i = .int .i64 k ∧ Hid (cmpL xs ys = cmpL (xs.drop k) (ys.drop k)) ∧ Below w.heap.size w wr) (fun i _ => xs.length - (intOf i).toNat)
    case atStart => exact ⟨0, by omega, rfl, by simp [Hid], Below.refl _ _⟩
    case round =>
      obtain ⟨k, hk, rfl, hd, hb⟩ := hrel
      have hd' := hd.out
      clear hd
      by_cases hlt : k < xs.length
      · have hlt' : k < ys.length := by have := HL.out; omega
        obtain ⟨b, off, rfl, h4, h5⟩ := h3 (by omega)
        obtain ⟨b', off', rfl, g4, g5⟩ := g3 (by omega)
        have hc : wr.cell? ⟨b, off + k, none⟩ = some (.int .i64 xs[k]) := by rw [hb.cell (p := ⟨b, off + k, none⟩) h4, h5.int hlt]
        have hc' : wr.cell? ⟨b', off' + k, none⟩ = some (.int .i64 ys[k]) := by rw [hb.cell (p := ⟨b', off' + k, none⟩) g4, g5.int hlt']
        rw [drop_at hlt, drop_at hlt'] at hd'
        simp only [cmpL] at hd'
        by_cases hz : xs[k] = ys[k]
        · have HD : Hid (cmpL xs ys = cmpL (xs.drop (k + 1)) (ys.drop (k + 1))) := by simpa [Hid, hz, cmpI] using hd'
          have hb1 : (xs[k] != ys[k]) = false := by simp [hz]
          clear hd' hz
          generalize xs[k] = x at *
          generalize ys[k] = y at *
          go_wp2
          go_quiet (fail)
          go_wp2
          go_roundw
          case rel => exact ⟨k + 1, by omega, by go_num, HD, Below.drewN' hb _⟩
          case measure => simp [intOf]; omega
        · have HD : Hid (lessL xs ys = decide (xs[k] < ys[k])) := by
            simp only [Hid]
            rw [HR.out, hd']
            unfold cmpI
            by_cases h1 : xs[k] < ys[k]
            · simp [h1]
            · have h2 : ys[k] < xs[k] := by omega
              simp [h1, h2]
          have hb1 : (xs[k] != ys[k]) = true := by simp [hz]
          clear hd' hz
          generalize xs[k] = x at *
          generalize ys[k] = y at *
          go_wp2
          go_quiet (fail)
          go_wp2
          go_quiet (fail)
          go_wp2
          go_ret
          exact ⟨ret_bool (by rw [HD.out]), Below.drewN' (Below.drewN' hb _) _⟩
      · have HD : Hid (lessL xs ys = false) := by
          simp only [Hid]
          rw [HR.out, hd', List.drop_of_length_le (by omega), List.drop_of_length_le (by have := HL.out; omega)]
          simp [cmpL]
        clear hd'
        go_wp2
        go_ret
        exact ⟨ret_bool HD.out.symm, hb⟩
  · have hlb : (((xs.length : Nat) : Int) != ((ys.length : Nat) : Int)) = true := by simp; omega
    have HR : Hid (lessL xs ys = decide ((xs.length : Int) < ys.length)) := lessL_len hl
    clear hl
    go_enter Try.func63, Try.ntmps63
    go_wp2
    go_ret
    exact ⟨ret_bool (by rw [HR.out]; simp), Below.refl _ _⟩

end Go.Proofs.Ytokjamdikenkoaa
