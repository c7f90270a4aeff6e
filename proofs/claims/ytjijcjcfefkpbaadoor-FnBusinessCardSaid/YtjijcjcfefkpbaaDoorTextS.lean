/- Contracts: the text of a number (spec.l1Num). Condition: a number from 0 on. -/
import Derived.Test.YtjijcjcfefkpbaaDoorSmall
import Derived.Test.YtjijcjcfefkpbaaDoorBw
import Derived.Lib.ItoaNum
namespace Go.Proofs.YtjijcjcfefkpbaaDoor
open Go.RowKit
set_option linter.unusedVariables false
set_option linter.unusedSimpArgs false

/-- The text of a number. -/
def numT (n : Nat) : ByteArray := ⟨(Lib.decDigits n).toArray⟩
theorem numT_low {n : Nat} (h : n < 10) : numT n = ⟨#[UInt8.ofNat (48 + n)]⟩ := by
  unfold numT; rw [Lib.decDigits_one h]
theorem numT_step {n : Nat} (h : ¬ n < 10) : numT n = numT (n / 10) ++ ⟨#[UInt8.ofNat (48 + n % 10)]⟩ := by
  unfold numT
  rw [Lib.decDigits, dif_neg h]
  apply ByteArray.ext
  simp
theorem numT_size (n : Nat) (h : n ≤ 1000000) : (numT n).size ≤ 1 + n := by
  induction n using Nat.strongRecOn with
  | _ n ih =>
    by_cases h1 : n < 10
    · rw [numT_low h1]
      have h2 : (ByteArray.mk #[UInt8.ofNat (48 + n)]).size = 1 := rfl
      rw [h2]; omega
    · have := ih (n / 10) (by omega) (by omega)
      have h2 : (ByteArray.mk #[UInt8.ofNat (48 + n % 10)]).size = 1 := rfl
      rw [numT_step h1, ByteArray.size_append, h2]
      omega
def digs : ByteArray := ⟨#[48, 49, 50, 51, 52, 53, 54, 55, 56, 57]⟩
theorem digs_at {r : Nat} (h : r < 10) : digs.extract r (r + 1) = ⟨#[UInt8.ofNat (48 + r)]⟩ := by
  rcases r with _ | _ | _ | _ | _ | _ | _ | _ | _ | _ | r <;> first | rfl | omega
set_option maxHeartbeats 1000000 in
set_option maxRecDepth 100000 in
theorem s_l1Num : ∀ (n : Nat) (hn : n ≤ 1000000) (w : World),
    Calls Tryd.prog 21 #[.int .i64 n] w fun e w' => e = .returned (.string (numT n)) ∧ Below w.heap.size w w' := by
  intro n
  induction n using Nat.strongRecOn with
  | _ n ih =>
    intro hn w
    have h0 : ¬ (n : Int) < 0 := by omega
    by_cases h : n < 10
    · have hI : (n : Int) < 10 := by omega
      go_enter Tryd.func21, Tryd.ntmps21
      go_wp2_with fail
      go_ret
      exact ⟨by rw [numT_low h, ← digs_at h]; rfl, Below.refl _ _⟩
    · have hI : ¬ (n : Int) < 10 := by omega
      obtain ⟨q, hqd⟩ : ∃ q : Nat, q = n / 10 := ⟨_, rfl⟩
      obtain ⟨r, hrd⟩ : ∃ r : Nat, r = n % 10 := ⟨_, rfl⟩
      have hst : Hid (numT n = numT q ++ ⟨#[UInt8.ofNat (48 + r)]⟩) := by rw [Hid, hqd, hrd]; exact numT_step h
      have hq := fun x : BW w => ih q (by omega) (by omega) x.w
      have hd : (n : Int) / 10 = (q : Int) := by omega
      have hm : (n : Int) % 10 = (r : Int) := by omega
      have hw1 : IntKind.i64.wrap (q : Int) = (q : Int) := IntWalk.i64_in _ (by omega)
      have hm1 : (r : Int) < 10 := by omega
      have hw3 : IntKind.i64.wrap (r : Int) = (r : Int) := IntWalk.i64_in _ (by omega)
      have hw2 : IntKind.i64.wrap ((r : Int) + 1) = (r : Int) + 1 := IntWalk.i64_in _ (by omega)
      have hA := numT_size q (by omega)
      have hC : (⟨#[48, 49, 50, 51, 52, 53, 54, 55, 56, 57]⟩ : ByteArray).extract r (r + 1) = ⟨#[UInt8.ofNat (48 + r)]⟩ := digs_at (by omega)
      obtain ⟨C, hCC⟩ : ∃ C : ByteArray, C = ⟨#[UInt8.ofNat (48 + r)]⟩ := ⟨_, rfl⟩
      have hC1 : C.size = 1 := by rw [hCC]; rfl
      have hS : ¬ 9223372036854775807 < (numT q).size + C.size := by omega
      rw [← hCC] at hC hst
      generalize numT q = A at *
      clear hqd hrd h hCC hC1 hA
      have HQ := Lib.hid hq; clear hq ih
      go_enter Tryd.func21, Tryd.ntmps21
      go_wp2_with fail
      refine wp_region_bw (by kernel_rfl) (by kernel_rfl) ?_
      repeat (first
        | go_big_quiet_skip
        | (go_big_quiet_want; go_big_quiet_op; first | go_big_quiet_on | (apply Exists.intro; refine ⟨fun _ => ?_, ?_⟩; ((go_at_call 21; exact BW.call (HQ.out _))); go_big_quiet_on)))
      refine wpQuiet_nil ?_
      rintro _ ⟨xq, rfl⟩
      go_wp2_with fail
      go_ret
      exact ⟨by rw [hst.out]; rfl, xq.h⟩

end Go.Proofs.YtjijcjcfefkpbaaDoor
