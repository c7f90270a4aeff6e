/- Contracts: sums, votes, greatest common divisors. No conditions beyond sizes. -/
import Derived.Test.YtgjgdephpliolaaIntS
import Derived.Test.YtgjgdephpliolaaSmall
import Derived.Test.YtgjgdephpliolaaIdxF
namespace Go.Proofs.Ytgjgdephpliolaa
open Go.RowKit
set_option linter.unusedVariables false
set_option linter.unusedSimpArgs false

/-- All numbers of a list lie in a range. -/
abbrev allIn (lo hi : Int) (xs : List Int) : Bool := xs.all fun x => inB x lo hi
theorem allIn_iff {lo hi : Int} {xs : List Int} : allIn lo hi xs = true ↔ ∀ x ∈ xs, lo ≤ x ∧ x ≤ hi := by simp [allIn, inB]

theorem sum_bound (c : Int) (xs : List Int) (h : ∀ x ∈ xs, 0 ≤ x ∧ x ≤ c) : 0 ≤ xs.sum ∧ xs.sum ≤ c * xs.length := by
  induction xs with
  | nil => simp
  | cons a r ih =>
    have h1 := h a (by simp)
    have h2 := ih (fun x hx => h x (by simp [hx]))
    simp only [List.sum_cons, List.length_cons]
    have : c * ((r.length + 1 : Nat) : Int) = c * r.length + c := by simp [Int.mul_add]
    omega

theorem i_sumInts (v : Value) (xs : List Int) (w : World) (h : IntsAt w v xs) (hx : ∀ x ∈ xs, 0 ≤ x ∧ x ≤ 1000000) (hn : xs.length ≤ 1048576) :
    Calls Try.prog 72 #[v] w fun e w' => e = .returned (.int .i64 xs.sum) ∧ w = w' := by
  obtain ⟨_, ao, cap, rfl, h1, h2, h3⟩ := h
  have HX := Lib.hid hx; clear hx
  go_enter Try.func72, Try.ntmps72
  go_wp2
  go_loop [3, 8] (fun acc i => ∃ (k : Nat) (s : Int), k ≤ xs.length ∧ i = .int .i64 k ∧ acc = .int .i64 s ∧ 0 ≤ s ∧ s ≤ 1000000 * k ∧ Hid (s + (xs.drop k).sum = xs.sum)) (fun _ i => xs.length - (intOf i).toNat)
  case atStart => exact ⟨0, 0, by omega, rfl, rfl, by omega, by omega, by simp [Hid]⟩
  case round =>
    obtain ⟨k, s, hk, rfl, rfl, hs1, hs2, hd⟩ := hrel
    by_cases hlt : k < xs.length
    · obtain ⟨b, off, rfl, h4, h5⟩ := h3 (by omega)
      have hc : w.cell? ⟨b, off + k, none⟩ = some (.int .i64 xs[k]) := h5.int hlt
      have hxk := HX.out xs[k] (List.getElem_mem hlt)
      have HD : Hid ((s + xs[k]) + (xs.drop (k + 1)).sum = xs.sum) := by
        have := hd.out
        rw [drop_at hlt, List.sum_cons] at this
        simp only [Hid]; omega
      generalize xs[k] = x at *
      obtain ⟨hx1, hx2⟩ := hxk
      clear hd
      go_wp2
      go_round
      case rel => exact ⟨k + 1, s + x, by omega, by go_num, by go_num, by omega, by omega, HD⟩
      case measure => simp [intOf]; omega
    · have HD : Hid (s = xs.sum) := by
        have := hd.out
        rw [List.drop_of_length_le (by omega)] at this
        simpa [Hid] using this
      clear hd
      go_wp2
      go_ret
      exact ⟨ret_int HD.out, rfl⟩

/-- Votes are valid. -/
def votesOk (xs : List Int) : Bool := inB xs.length 1 8 && allIn 0 10000 xs && decide (0 < xs.sum)

end Go.Proofs.Ytgjgdephpliolaa
