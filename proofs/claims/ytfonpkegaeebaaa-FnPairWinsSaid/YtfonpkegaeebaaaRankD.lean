/- Plain facts on dominant sets, with which FewestForMajority's sets of bits serve. No conditions. -/
import Derived.Test.YtfonpkegaeebaaaRankX
import Derived.Test.YtfonpkegaeebaaaBits
import Derived.Test.YtfonpkegaeebaaaDelete
namespace Go.Proofs.Ytfonpkegaeebaaa
open Go.RowKit
set_option linter.unusedVariables false
set_option linter.unusedSimpArgs false

theorem mem_pickL {m N : Nat} {x : Int} : x ∈ pickL m N ↔ ∃ a : Nat, a < N ∧ m.testBit a = true ∧ x = a := by
  induction N with
  | zero => simp [pickL]
  | succ N ih =>
    simp only [pickL]
    split
    · rename_i h
      rw [List.mem_append, ih]
      constructor
      · rintro (⟨a, h1, h2, h3⟩ | h1)
        · exact ⟨a, by omega, h2, h3⟩
        · simp only [List.mem_singleton] at h1
          exact ⟨N, by omega, h, h1⟩
      · rintro ⟨a, h1, h2, h3⟩
        by_cases ha : a = N
        · subst ha; exact .inr (by simp [h3])
        · exact .inl ⟨a, by omega, h2, h3⟩
    · rename_i h
      rw [ih]
      constructor
      · rintro ⟨a, h1, h2, h3⟩
        exact ⟨a, by omega, h2, h3⟩
      · rintro ⟨a, h1, h2, h3⟩
        refine ⟨a, ?_, h2, h3⟩
        rcases (by omega : a < N ∨ a = N) with h4 | h4
        · exact h4
        · subst h4; exact absurd h2 h
theorem has_pickL {m N b : Nat} (hb : b < N) : hasB (pickL m N) (b : Int) = m.testBit b := by
  rw [Bool.eq_iff_iff, hasB_iff, mem_pickL]
  constructor
  · rintro ⟨a, h1, h2, h3⟩
    obtain rfl : b = a := by omega
    exact h2
  · intro h; exact ⟨b, hb, h, rfl⟩
theorem pickL_full (N : Nat) : ∀ k, k ≤ N → pickL (2 ^ N - 1) k = upFrom 0 k := by
  intro k
  induction k with
  | zero => intro _; simp [pickL, upFrom]
  | succ k ih =>
    intro h
    simp only [pickL, Nat.testBit_two_pow_sub_one, show k < N by omega, decide_true, if_true]
    rw [ih (by omega), upFrom_push]
theorem keep_pickL (m N : Nat) : keepF (fun x : Int => !m.testBit x.toNat) (upFrom 0 N) = pickL m N := by
  induction N with
  | zero => simp [pickL, upFrom, keepF]
  | succ N ih =>
    rw [upFrom_push]
    simp only [keepF, List.filter_append, pickL] at *
    rw [ih]
    cases h : m.testBit N <;> simp [h]

/-- A pair of a set is in order. -/
def okAB (rs : List DRanking) (m a b : Nat) : Bool := !(m.testBit a && !m.testBit b) || wins rs a b
def okRow (rs : List DRanking) (N m a : Nat) : Bool := (List.range N).all (okAB rs m a)
/-- The pairs ahead of (a, b) are. -/
def domAB (rs : List DRanking) (N m a b : Nat) : Bool := (List.range a).all (okRow rs N m) && (List.range b).all (okAB rs m a)
def domB (rs : List DRanking) (N m : Nat) : Bool := (List.range N).all (okRow rs N m)
theorem domAB_zero (rs : List DRanking) (N m : Nat) : domAB rs N m 0 0 = true := rfl
theorem domAB_step (rs : List DRanking) (N m a b : Nat) : domAB rs N m a (b + 1) = (domAB rs N m a b && okAB rs m a b) := by
  simp only [domAB, List.range_succ, List.all_append, List.all_cons, List.all_nil, Bool.and_true, Bool.and_assoc]
theorem domAB_next (rs : List DRanking) (N m a : Nat) : domAB rs N m a N = domAB rs N m (a + 1) 0 := by
  have h1 : (List.range (a + 1)).all (okRow rs N m) = ((List.range a).all (okRow rs N m) && okRow rs N m a) := by simp [List.range_succ, List.all_append]
  simp only [domAB, h1]
  simp [okRow]
theorem domAB_done (rs : List DRanking) (N m : Nat) : domAB rs N m N 0 = domB rs N m := by simp [domAB, domB]
theorem okAB_off {rs : List DRanking} {m a b : Nat} (h : m.testBit a = false) : okAB rs m a b = true := by simp [okAB, h]
theorem okAB_in {rs : List DRanking} {m a b : Nat} (h : m.testBit b = true) : okAB rs m a b = true := by simp [okAB, h]
theorem okAB_on {rs : List DRanking} {m a b : Nat} (h : m.testBit a = true) (h' : m.testBit b = false) : okAB rs m a b = wins rs a b := by simp [okAB, h, h']

/-- The same, over the list of a set's members. -/
def okI (rs : List DRanking) (m : Nat) (x : Int) (b : Nat) : Bool := m.testBit b || wins rs x.toNat b
def okIRow (rs : List DRanking) (N m : Nat) (x : Int) : Bool := (List.range N).all (okI rs m x)
def domIB (rs : List DRanking) (N m : Nat) (l : List Int) (i b : Nat) : Bool := (l.take i).all (okIRow rs N m) && (List.range b).all (okI rs m (l.getD i 0))
theorem domIB_step (rs : List DRanking) (N m : Nat) (l : List Int) (i b : Nat) : domIB rs N m l i (b + 1) = (domIB rs N m l i b && okI rs m (l.getD i 0) b) := by
  simp only [domIB, List.range_succ, List.all_append, List.all_cons, List.all_nil, Bool.and_true, Bool.and_assoc]
theorem domIB_next (rs : List DRanking) (N m : Nat) (l : List Int) (i : Nat) (h : i < l.length) : domIB rs N m l i N = domIB rs N m l (i + 1) 0 := by
  simp only [domIB, take_at h, List.all_append, List.all_cons, List.all_nil, Bool.and_true, List.range_zero]
  rw [List.getD_eq_getElem?_getD, List.getElem?_eq_getElem h]
  rfl
theorem domIB_done (rs : List DRanking) (N m : Nat) : domIB rs N m (pickL m N) (pickL m N).length 0 = domB rs N m := by
  simp only [domIB, List.take_length, List.range_zero, List.all_nil, Bool.and_true, domB]
  rw [Bool.eq_iff_iff, List.all_eq_true, List.all_eq_true]
  constructor
  · intro h a ha
    rw [List.mem_range] at ha
    simp only [okRow, List.all_eq_true, List.mem_range]
    intro b hb
    cases hm : m.testBit a with
    | false => exact okAB_off hm
    | true =>
      have h1 := h (a : Int) (mem_pickL.2 ⟨a, ha, hm, rfl⟩)
      simp only [okIRow, List.all_eq_true, List.mem_range] at h1
      have h2 := h1 b hb
      simp only [okI, Int.toNat_natCast, Bool.or_eq_true] at h2
      rcases h2 with h3 | h3
      · exact okAB_in h3
      · simp [okAB, h3]
  · intro h x hx
    obtain ⟨a, ha, hm, rfl⟩ := mem_pickL.1 hx
    have h1 := h a (List.mem_range.2 ha)
    simp only [okRow, List.all_eq_true, List.mem_range] at h1
    simp only [okIRow, List.all_eq_true, List.mem_range]
    intro b hb
    have h2 := h1 b hb
    simp only [okI, Int.toNat_natCast, Bool.or_eq_true]
    cases hmb : m.testBit b with
    | true => exact .inl rfl
    | false => rw [okAB_on hm hmb] at h2; exact .inr h2

def pc (N m : Nat) : Nat := (pickL m N).length
/-- The smallest dominant set among those before m. -/
def domM (rs : List DRanking) (N : Nat) : Nat → Nat
  | 0 => 2 ^ N - 1
  | m + 1 => if 1 ≤ m ∧ domB rs N m = true ∧ pc N m < pc N (domM rs N m) then m else domM rs N m
theorem domM_one (rs : List DRanking) (N : Nat) : domM rs N 1 = 2 ^ N - 1 := by simp [domM]
theorem domM_take {rs : List DRanking} {N m : Nat} (h0 : 1 ≤ m) (h1 : domB rs N m = true) (h2 : pc N m < pc N (domM rs N m)) : domM rs N (m + 1) = m := by
  simp only [domM]; rw [if_pos ⟨h0, h1, h2⟩]
theorem domM_no {rs : List DRanking} {N m : Nat} (h1 : domB rs N m = false) : domM rs N (m + 1) = domM rs N m := by
  simp only [domM]; rw [if_neg (by simp [h1])]
theorem domM_big {rs : List DRanking} {N m : Nat} (h2 : ¬ pc N m < pc N (domM rs N m)) : domM rs N (m + 1) = domM rs N m := by
  simp only [domM]; rw [if_neg (fun h => h2 h.2.2)]
theorem domM_lt (rs : List DRanking) (N m : Nat) (h : m ≤ 2 ^ N) : domM rs N m < 2 ^ N := by
  have hp : 0 < 2 ^ N := Nat.two_pow_pos _
  induction m with
  | zero => simp only [domM]; omega
  | succ m ih =>
    simp only [domM]
    split
    · omega
    · exact ih (by omega)
def domV (n : Int) (rs : List DRanking) : List Int × Bool := if electOk n rs then (pickL (domM rs n.toNat (2 ^ n.toNat)) n.toNat, true) else ([], false)
theorem domV_len (n : Int) (rs : List DRanking) : (domV n rs).1.length ≤ 4000000 := by
  unfold domV
  split
  · rename_i h
    obtain ⟨N, rfl, _, h5, _⟩ := electOk_parts h
    have := pickL_len (domM rs N (2 ^ N)) N
    simp only [Int.toNat_natCast]
    omega
  · simp
/-- How many bits a small set has. -/
theorem pc_five : ∀ N, N ≤ 5 → ∀ m, m < 2 ^ N → pc N m = pc 5 m := by
  intro N hN m hm
  have : ∀ N : Fin 6, ∀ m : Fin 32, m.1 < 2 ^ N.1 → pc N.1 m.1 = pc 5 m.1 := by decide
  have h32 : m < 32 := Nat.lt_of_lt_of_le hm (Nat.pow_le_pow_right (n := 2) (by omega) hN)
  exact this ⟨N, by omega⟩ ⟨m, h32⟩ hm

end Go.Proofs.Ytfonpkegaeebaaa
