/- Contracts: slices.IndexFunc and ContainsFunc at ints. No conditions. -/
import Derived.Test.YtpjmcjdnobihbaaRows
import Derived.Test.YtpjmcjdnobihbaaBase
namespace Go.Proofs.Ytpjmcjdnobihbaa
open Go.RowKit
set_option linter.unusedVariables false
set_option linter.unusedSimpArgs false

theorem IndexFunc_intM (cf : Nat) (hcf : Enters Try.prog cf) (cap : List Value) (p : Int → Bool) (v : Value) (xs : List Int) (w : World) (h : IntsAt w v xs)
    (hp : ∀ x w', x ∈ xs → Below w.heap.size w w' → Calls Try.prog cf (.int .i64 x :: cap).toArray w' fun e w'' => e = .returned (.bool (p x)) ∧ Below w'.heap.size w' w'') :
    Calls Try.prog 89 #[v, .func (.func cf) #[] cap.toArray] w fun e w' => e = .returned (.int .i64 (idxBy p xs)) ∧ Below w.heap.size w w' := by
  obtain ⟨_, ao, cap', rfl, h1, h2, h3⟩ := h
  unfold maxLen at h2
  rw [← idxFrom_eq]
  have HP := Lib.hid hp; clear hp
  have hcf := hcf.out
  go_enter Try.func89, Try.ntmps89
  go_wp2
  go_loopw [8] (fun i wr => ∃ k : Nat, k ≤ xs.length ∧ i = .int .i64 k ∧ Hid (idxFrom p 0 xs = idxFrom p k (xs.drop k)) ∧ Below w.heap.size w wr) (fun i _ => xs.length - (intOf i).toNat)
  case atStart => exact ⟨0, by omega, rfl, by simp [Hid], Below.refl _ _⟩
  case round =>
    obtain ⟨k, hk, rfl, hd, hb⟩ := hrel
    by_cases hlt : k < xs.length
    · obtain ⟨b, off, rfl, h4, h5⟩ := h3 (by omega)
      have hc : wr.cell? ⟨b, off + k, none⟩ = some (.int .i64 xs[k]) := by rw [hb.cell (p := ⟨b, off + k, none⟩) h4, h5.int hlt]
      have hmem := List.getElem_mem hlt
      have hd' := hd.out
      rw [drop_at hlt] at hd'
      simp only [idxFrom] at hd'
      cases hpx : p xs[k] with
      | true =>
        have HD : Hid (idxFrom p 0 xs = k) := by simpa [Hid, hpx] using hd'
        generalize xs[k] = x at *
        clear hd hd'
        have HME := Lib.hid hmem; clear hmem
        have HPX := Lib.hid hpx; clear hpx
        go_wp2_with fail
        refine (HP.out x _ HME.out hb).mono ?_
        rw [HPX.out]
        rintro e w' ⟨rfl, hb1⟩
        go_wp2
        go_ret
        exact ⟨ret_int HD.out.symm, below_step hb hb1⟩
      | false =>
        have HD : Hid (idxFrom p 0 xs = idxFrom p (k + 1) (xs.drop (k + 1))) := by simpa [Hid, hpx] using hd'
        generalize xs[k] = x at *
        clear hd hd'
        have HME := Lib.hid hmem; clear hmem
        have HPX := Lib.hid hpx; clear hpx
        go_wp2_with fail
        refine (HP.out x _ HME.out hb).mono ?_
        rw [HPX.out]
        rintro e w' ⟨rfl, hb1⟩
        go_wp2
        go_roundw
        case rel => exact ⟨k + 1, by omega, by go_num, HD, below_step hb hb1⟩
        case measure => simp [intOf]; omega
    · have HD : Hid (idxFrom p 0 xs = -1) := by
        have := hd.out
        rw [List.drop_of_length_le (by omega)] at this
        simpa [Hid, idxFrom] using this
      clear hd
      go_wp2
      go_ret
      exact ⟨ret_int HD.out.symm, hb⟩

theorem IndexFunc_int (cf : Nat) (hcf : Enters Try.prog cf) (cap : List Value) (p : Int → Bool) (v : Value) (xs : List Int) (w : World) (h : IntsAt w v xs)
    (hp : ∀ x w', Below w.heap.size w w' → Calls Try.prog cf (.int .i64 x :: cap).toArray w' fun e w'' => e = .returned (.bool (p x)) ∧ Below w'.heap.size w' w'') :
    Calls Try.prog 89 #[v, .func (.func cf) #[] cap.toArray] w fun e w' => e = .returned (.int .i64 (idxBy p xs)) ∧ Below w.heap.size w w' :=
  IndexFunc_intM cf hcf cap p v xs w h fun x w' _ hb => hp x w' hb

theorem ContainsFunc_int (cf : Nat) (hcf : Enters Try.prog cf) (cap : List Value) (p : Int → Bool) (v : Value) (xs : List Int) (w : World) (h : IntsAt w v xs)
    (hp : ∀ x w', Below w.heap.size w w' → Calls Try.prog cf (.int .i64 x :: cap).toArray w' fun e w'' => e = .returned (.bool (p x)) ∧ Below w'.heap.size w' w'') :
    Calls Try.prog 70 #[v, .func (.func cf) #[] cap.toArray] w fun e w' => e = .returned (.bool (xs.any p)) ∧ Below w.heap.size w w' := by
  obtain ⟨ao, n, rfl⟩ := h.form
  have HP := Lib.hid hp; clear hp
  rw [← idxBy_neg]
  have hq := IndexFunc_int cf hcf cap p _ xs w h HP.out
  have HQ := Lib.hid hq; clear hq
  go_enter Try.func70, Try.ntmps70
  go_wp2_with fail
  refine HQ.out.mono ?_
  rintro e w' ⟨rfl, hb⟩
  go_wp2
  go_ret
  exact ⟨rfl, hb⟩

end Go.Proofs.Ytpjmcjdnobihbaa
