/- Contracts: the laws' helpers on bytes and ints: Big, Ints, Sum, Has. No conditions beyond sizes. -/
import Derived.Test.YtpjmcjdnobihbaaCur
import Derived.Test.YtpjmcjdnobihbaaVotes
import Derived.Test.YtpjmcjdnobihbaaInts2
namespace Go.Proofs.Ytpjmcjdnobihbaa
open Go.RowKit
set_option linter.unusedVariables false
set_option linter.unusedSimpArgs false

theorem rBig_c (v : Value) (bs : List Int) (w : World) (h : BytesAt w v bs) :
    Calls Try.prog 5 #[v] w fun e w' => e = .returned (.bool (decide (65536 < bs.length))) ∧ w = w' := by
  obtain ⟨⟨_, ao, cap, rfl, h1, h2, h3⟩, _⟩ := h
  unfold maxLen at h2
  by_cases hb : 65536 < bs.length
  · have hI : (65536 : Int) < (bs.length : Int) := by omega
    rw [decide_eq_true hb]
    go_enter Try.func5, Try.ntmps5
    go_wp2
    go_ret
    exact ⟨rfl, rfl⟩
  · have hI : ¬ (65536 : Int) < (bs.length : Int) := by omega
    have hd : decide ((65536 : Int) < (bs.length : Int)) = false := decide_eq_false hI
    rw [decide_eq_false hb]
    go_enter Try.func5, Try.ntmps5
    go_wp2
    go_ret
    exact ⟨rfl, rfl⟩

theorem rInts_c (v u : Value) (xs ys : List Int) (w : World) (h : IntsAt w v xs) (g : IntsAt w u ys) :
    Calls Try.prog 9 #[v, u] w fun e w' => e = .returned (.bool (decide (xs = ys))) ∧ Below w.heap.size w w' := by
  obtain ⟨_, ao, cap, rfl, h1, h2, h3⟩ := h
  obtain ⟨_, ao', cap', rfl, g1, g2, g3⟩ := g
  unfold maxLen at h2 g2
  by_cases hl : xs.length = ys.length
  · have hlb : (((xs.length : Nat) : Int) != ((ys.length : Nat) : Int)) = false := by simp [hl]
    have HL := Lib.hid hl; clear hl
    go_enter Try.func9, Try.ntmps9
    go_wp2
    go_loopw [5] (fun i wr => ∃ k : Nat, k ≤ xs.length ∧ i = .int .i64 k ∧ Hid (decide (xs = ys) = decide (xs.drop k = ys.drop k)) ∧ Below w.heap.size w wr) (fun i _ => xs.length - (intOf i).toNat)
    case atStart => exact ⟨0, by omega, rfl, by simp [Hid], Below.refl _ _⟩
    case round =>
      obtain ⟨k, hk, rfl, hd, hb⟩ := hrel
      by_cases hlt : k < xs.length
      · have hlt' : k < ys.length := by have := HL.out; omega
        obtain ⟨b, off, rfl, h4, h5⟩ := h3 (by omega)
        obtain ⟨b', off', rfl, g4, g5⟩ := g3 (by omega)
        have hc : wr.cell? ⟨b, off + k, none⟩ = some (.int .i64 xs[k]) := by rw [hb.cell (p := ⟨b, off + k, none⟩) h4, h5.int hlt]
        have hc' : wr.cell? ⟨b', off' + k, none⟩ = some (.int .i64 ys[k]) := by rw [hb.cell (p := ⟨b', off' + k, none⟩) g4, g5.int hlt']
        have hd' := hd.out
        rw [drop_at hlt, drop_at hlt'] at hd'
        simp only [List.cons.injEq] at hd'
        by_cases hxy : xs[k] = ys[k]
        · have hb1 : (xs[k] != ys[k]) = false := by simp [hxy]
          have HD : Hid (decide (xs = ys) = decide (xs.drop (k + 1) = ys.drop (k + 1))) := by simpa [Hid, hxy] using hd'
          generalize xs[k] = x at *
          generalize ys[k] = y at *
          clear hd hd' hxy
          go_wp2
          go_quiet (fail)
          go_wp2
          go_roundw
          case rel => exact ⟨k + 1, by omega, by go_num, HD, Below.drewN' hb _⟩
          case measure => simp [intOf]; omega
        · have hb1 : (xs[k] != ys[k]) = true := by simp [hxy]
          have HD : Hid (decide (xs = ys) = false) := by simpa [Hid, hxy] using hd'
          generalize xs[k] = x at *
          generalize ys[k] = y at *
          clear hd hd' hxy
          go_wp2
          go_quiet (fail)
          go_wp2
          go_ret
          exact ⟨ret_bool HD.out.symm, Below.drewN' hb _⟩
      · have HD : Hid (decide (xs = ys) = true) := by
          have hd' := hd.out
          rw [List.drop_of_length_le (by omega), List.drop_of_length_le (by have := HL.out; omega)] at hd'
          simpa [Hid] using hd'
        clear hd
        go_wp2
        go_ret
        exact ⟨ret_bool HD.out.symm, hb⟩
  · have hlb : (((xs.length : Nat) : Int) != ((ys.length : Nat) : Int)) = true := by simp; omega
    have HD : Hid (decide (xs = ys) = false) := by
      simp only [Hid, decide_eq_false_iff_not]; rintro rfl; exact hl rfl
    have HL := Lib.hid hl; clear hl
    go_enter Try.func9, Try.ntmps9
    go_wp2
    go_ret
    exact ⟨ret_bool HD.out.symm, Below.refl _ _⟩

end Go.Proofs.Ytpjmcjdnobihbaa
