/- Contracts: how many others each candidate beats, the reference's. No conditions beyond sizes. -/
import Derived.Test.YtfonpkegaeebaaaRankT
namespace Go.Proofs.Ytfonpkegaeebaaa
open Go.RowKit
set_option linter.unusedVariables false
set_option linter.unusedSimpArgs false

set_option maxHeartbeats 4000000 in
theorem s_l13Beats (N : Nat) (v : Value) (rs : List DRanking) (w : World) (h : RanksAt w v rs) (hN : N ≤ 5) (hr9 : rs.length ≤ 9) (hrs : ∀ r ∈ rs, permOk N r.order = true ∧ 1 ≤ r.weight ∧ r.weight ≤ 100) :
    Calls Try.prog 38 #[.int .i64 (N : Int), v] w fun e w' => ∃ p, e = .returned p ∧ OwnInts w' w.heap.size p (beatsL N rs) ∧ Below w.heap.size w w' := by
  obtain ⟨i0, hi, hz0, hz1, hz2⟩ := info_parts int_info
  have HQ := Lib.hid (s_l13Pairs N v rs w h hN hr9 hrs)
  obtain ⟨ao, cap, rfl⟩ := h.form
  clear hrs
  go_enter Try.func38, Try.ntmps38
  go_wp2_with (first | (go_at_call 33; refine HQ.out.mono ?_; rintro e w1 ⟨p, rfl, ho, hb1⟩; obtain ⟨po, pc, hpf⟩ := ho.at_.form; rw [pairT_len] at hpf; subst hpf) | (at_make; refine wpList_make_full _ rfl _ _ 27 rfl w1.heap.size 3 i0 (.int .i64 0) 1 Try.underlying27 hi hz0 hz1 _ _ _ _ N rfl rfl rfl rfl ?c1 ?c2 ?c3 ?_))
  case c1 => rw [hz2]; omega
  case c2 => unfold maxLen; omega
  case c3 => omega
  intro w2 hown hg
  simp only [toList_madeCells_one, Nat.mul_one] at hown
  have hb2 : Below w1.heap.size w1 w2 := (Below.refl _ _).grown hg (Nat.le_refl _) (by simp)
  have HO := Lib.hid ho; clear ho
  have hown0 : w2.ownsRow w1.heap.size 3 1 (.slice (some ⟨w1.heap.size, 0, none⟩) N N) N (ints (tab N (beatIt N rs 0 0))) := by rw [beatIt_zero]; simpa [ints] using hown
  have HO0 := Lib.hid hown0; clear hown0 hown
  go_wp2_with fail
  go_loopw [7] (fun i wr => ∃ a : Nat, a ≤ N ∧ i = .int .i64 a ∧ wr.ownsRow w1.heap.size 3 1 (.slice (some ⟨w1.heap.size, 0, none⟩) N N) N (ints (tab N (beatIt N rs a 0))) ∧ Below w1.heap.size w1 wr) (fun i _ => N - (intOf i).toNat)
  case atStart => exact ⟨0, by omega, rfl, HO0.out, hb2⟩
  case round =>
    rename World => wa
    obtain ⟨a, ha, rfl, hown, hba⟩ := hrel
    by_cases hat : a < N
    · go_wp2_with fail
      go_loopw [8] (fun i wr => ∃ b : Nat, b ≤ N ∧ i = .int .i64 b ∧ wr.ownsRow w1.heap.size 3 1 (.slice (some ⟨w1.heap.size, 0, none⟩) N N) N (ints (tab N (beatIt N rs a b))) ∧ Below w1.heap.size w1 wr) (fun i _ => N - (intOf i).toNat)
      case atStart => exact ⟨0, by omega, rfl, hown, hba⟩
      case round =>
        rename World => wc
        obtain ⟨b, hb, rfl, hown, hbc⟩ := hrel
        by_cases hbt : b < N
        · have hoc := OwnNest.below HO.out hbc
          obtain ⟨g, off, gu, ou, uc, hpo, c0, c1⟩ := OwnTab.cell hoc hat hbt
          obtain ⟨g', off', gv, ov, vc, hpo', c2, c3⟩ := OwnTab.cell hoc hbt hat
          subst hpo
          simp only [Option.some.injEq, Addr.mk.injEq, and_true] at hpo'
          obtain ⟨rfl, rfl⟩ := hpo'
          have ha0 : (0 : Int) ≤ (a : Int) := by omega
          have ha1 : (a : Int) < (N : Int) := by omega
          have hb0 : (0 : Int) ≤ (b : Int) := by omega
          have hb1' : (b : Int) < (N : Int) := by omega
          have hcb := cnt_bd rs a b
          have hget := beatIt_get (N := N) (rs := rs) (a := a) (b := b) hat
          have hon := beatIt_on (N := N) (rs := rs) (a := a) (b := b) hat
          have hoff := beatIt_off (N := N) (rs := rs) (a := a) (b := b)
          unfold wins at hon hoff
          generalize partP rs (a : Int) (b : Int) rs.length = x at *
          generalize partP rs (b : Int) (a : Int) rs.length = y at *
          by_cases hxy : y < x
          · have hst := hon (decide_eq_true hxy)
            have q1 : wc.cell? ⟨w1.heap.size, a, none⟩ = some (.int .i64 (cnt rs a b)) := by rw [hown.cellAt a (by omega), ints_gety (by simpa using hat), hget]
            have q2 := hown.frozenAt a
            have q3 : (wc.setCell ⟨w1.heap.size, a, none⟩ (.int .i64 (cnt rs a b + 1))).ownsRow w1.heap.size 3 1 (.slice (some ⟨w1.heap.size, 0, none⟩) N N) N (ints (tab N (beatIt N rs a (b + 1)))) := by rw [hst, ← ints_sety]; exact (hown.stored a _).1
            have q6 := (hown.lt w1.heap.size rfl).2
            clear hown hoc hst hon hoff hget
            generalize cnt rs a b = z at *
            go_wp2_with fail
            go_region
            all_goals go_wp2_with fail
            all_goals (try go_region)
            all_goals (try go_wp2_with fail)
            all_goals go_roundw
            all_goals first | (case rel => exact ⟨b + 1, by omega, by go_num, q3, by go_grown⟩) | (case measure => simp [intOf]; omega)
          · have hst := hoff (decide_eq_false hxy)
            rw [← hst] at hown
            have HF := Lib.hid hbc
            have hyx : x ≤ y := by omega
            clear hoc hst hon hoff hget hbc
            go_wp2_with fail
            go_region
            all_goals go_wp2_with fail
            all_goals go_roundw
            all_goals first | (case rel => exact ⟨b + 1, by omega, by go_num, hown, by have := HF.out; go_grown⟩) | (case measure => simp [intOf]; omega)
        · obtain rfl : N = b := by omega
          rw [beatIt_next] at hown
          go_wp2_with fail
          go_roundw
          case rel => exact ⟨a + 1, by omega, by go_num, hown, hbc⟩
          case measure => simp [intOf]; omega
    · obtain rfl : N = a := by omega
      rw [beatIt_done] at hown
      have hown' : OwnInts wa w1.heap.size (.slice (some ⟨w1.heap.size, 0, none⟩) N N) (beatsL N rs) := by
        unfold OwnInts OwnI
        have : (beatsL N rs).length = N := by simp [beatsL]
        rw [this]; exact hown
      go_wp2_with fail
      go_ret
      exact ⟨_, rfl, own_base hown' hb1.size, hb1.trans (hba.mono hb1.size)⟩

end Go.Proofs.Ytfonpkegaeebaaa
