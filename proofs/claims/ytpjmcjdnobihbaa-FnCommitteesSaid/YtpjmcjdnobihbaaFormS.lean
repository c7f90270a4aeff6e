/- Contracts: FormCommittee, the program's and the spec's. No conditions beyond sizes. -/
import Derived.Test.YtpjmcjdnobihbaaAppS
import Derived.Test.YtpjmcjdnobihbaaAppI
import Derived.Test.YtpjmcjdnobihbaaSortC
import Derived.Shelf.Small.Strs
namespace Go.Proofs
open Go.Shelf
def Try.lays106_ren : Go.Shelf.Ren := ⟨fun | 106 => 67 | 213 => 86 | 265 => 103 | n => n, fun | 9 => 9 | 3 => 3 | n => n, fun | n => n⟩
theorem Try.lays106 : Go.Proofs.Lays.n106 Try.prog Try.lays106_ren := {
  mixed := by kernel_rfl
  f106 := Try.func67.trans (congrArg some (by kernel_rfl))
  f213 := Try.func86.trans (congrArg some (by kernel_rfl))
  f265 := Try.func103.trans (congrArg some (by kernel_rfl))
  t3 := Try.underlying3
  a3 := Try.isAgg3
  z3 := Try.sizeOf3
  v3 := Try.zeroValue3
  t9 := Try.underlying9
  a9 := Try.isAgg9
  z9 := Try.sizeOf9
  v9 := Try.zeroValue9 }

theorem Ytpjmcjdnobihbaa.strings_Compare (a b : ByteArray) (w : World) : Calls Try.prog 67 #[.string a, .string b] w fun e w' => e = .returned (.int .i64 (Lib.compareBytes a.data.toList b.data.toList)) ∧ w' = w := Any.strings_Compare Try.lays106 a b w
end Go.Proofs
namespace Go.Proofs.Ytpjmcjdnobihbaa
open Go.RowKit
set_option linter.unusedVariables false
set_option linter.unusedSimpArgs false

theorem cmp_less : ∀ (a b : List UInt8), Lib.compareBytes a b < 0 ↔ Op.bytesLess a b = true
  | [], [] => by simp [Lib.compareBytes, Op.bytesLess]
  | [], _ :: _ => by simp [Lib.compareBytes, Op.bytesLess]
  | _ :: _, [] => by simp [Lib.compareBytes, Op.bytesLess]
  | a :: ta, b :: tb => by
    have ih := cmp_less ta tb
    simp only [Lib.compareBytes, Op.bytesLess]
    by_cases h1 : a < b
    · simp [h1]
    · by_cases h2 : b < a
      · have hne : (a == b) = false := by
          rw [beq_eq_false_iff_ne]
          intro e
          subst e
          exact h1 h2
        simp [h1, h2, hne]
      · have he : a = b := UInt8.le_antisymm (UInt8.not_lt.1 h2) (UInt8.not_lt.1 h1)
        subst he
        rw [if_neg h1, if_neg h1, ih]
        simp [h1]
def cmpC (x y : DCommittee) : Int := Lib.compareBytes x.name.data.toList y.name.data.toList
theorem decide_eq_of_iff {p : Prop} [Decidable p] {b : Bool} (h : p ↔ b = true) : decide p = b := by
  cases b with
  | true => exact decide_eq_true (h.2 rfl)
  | false => exact decide_eq_false (fun hp => by cases h.1 hp)
theorem cmpC_lt : (fun a b : DCommittee => decide (cmpC a b < 0)) = ltC := by
  funext a b
  unfold cmpC ltC ltN
  rw [Lib.toList_data, Lib.toList_data]
  exact decide_eq_of_iff (cmp_less _ _)

theorem i_form1 (u : Value) (x : DCommittee) (u' : Value) (x' : DCommittee) (w : World) :
    Calls Try.prog 66 #[vComm u x, vComm u' x'] w fun e w' => e = .returned (.int .i64 (cmpC x x')) ∧ Below w.heap.size w w' := by
  go_enter Try.func66, Try.ntmps66
  go_wp2_with (go_at_call 67; refine (strings_Compare _ _ _).mono ?_; rintro e w' ⟨rfl, rfl⟩)
  go_ret
  exact ⟨rfl, by go_grown⟩

set_option maxRecDepth 100000 in
set_option maxHeartbeats 2000000 in
theorem i_FormCommittee (v : Value) (xs : List DCommittee) (n : ByteArray) (vm : Value) (ms : List Int) (w : World) (h : CommsAt w v xs) (hM : IntsAt w vm ms) (hn : CommsLe xs) (hml : ms.length ≤ 1048576) (hnn : n.size ≤ 1048576) :
    Calls Try.prog 28 #[v, .string n, vm] w fun e w' => ∃ u, e = .returned (.tuple #[u, .bool (formV xs n ms).2]) ∧ OwnComms w' w.heap.size u (formV xs n ms).1 ∧ Below w.heap.size w w' := by
  have HG0 := i_AreCommittees v xs w h hn
  obtain ⟨ao, cap, rfl⟩ := h.form
  obtain ⟨am, km, rfl⟩ := hM.form
  have HN := Lib.hid hn
  cases hok : commsOk xs with
  | false =>
    have HR : Hid (formV xs n ms = ([], false)) := by rw [Hid, formV, formOk, hok, Bool.false_and, if_neg (by simp)]
    rw [HR.out]
    rw [hok] at HG0
    have HG := Lib.hid HG0; clear HG0 hok HR
    go_enter Try.func28, Try.ntmps28
    go_wp2_with fail
    refine HG.out.mono ?_
    rintro e w1 ⟨rfl, hb1⟩
    go_wp2_with fail
    go_ret2
    exact ⟨_, rfl, OwnNest.nil _ _ _ _, hb1⟩
  | true =>
    rw [hok] at HG0
    have HG := Lib.hid HG0; clear HG0
    by_cases hm0 : 0 < ms.length
    · have hx8 := commsOk_len hok
      have HR : Hid (formV xs n ms = checkV (sortS ltC (xs ++ [formC n ms]))) := formV_prog hok hm0
      rw [HR.out]
      clear hok HR
      have hMM := hM
      obtain ⟨_, _, _, ev, q1, q2, q3⟩ := hM
      cases ev
      obtain ⟨bm, om, rfl, lm, csM⟩ := q3 hm0
      have d0 := csM.int hm0
      rw [Nat.add_zero, ← getD_i hm0] at d0
      have hm0I : (0 : Int) < (ms.length : Int) := by omega
      have hmz : ((ms.length : Int) == 0) = false := by simp only [beq_eq_false_iff_ne]; omega
      obtain ⟨y, hy⟩ : ∃ y, y = formC n ms := ⟨_, rfl⟩
      have hyf : y = ⟨n, ms, ms.getD 0 0⟩ := hy
      have HLE : Hid (CommsLe (sortS ltC (xs ++ [y]))) := by
        refine ⟨by rw [sortS_len, List.length_append, List.length_singleton]; omega, fun r hr => ?_⟩
        rcases List.mem_append.1 ((sortS_perm _ _).mem_iff.1 hr) with hr | hr
        · exact hn.2 r hr
        · rw [List.mem_singleton.1 hr, hyf]; exact ⟨hml, hnn⟩
      rw [← hy]
      have HY := Lib.hid hyf
      clear q3 hy hyf hn
      generalize ms.getD 0 0 = m0 at *
      have HXN : Hid (xs.length ≤ 4000000) := by rw [Hid]; omega
      go_enter Try.func28, Try.ntmps28
      go_wp2_with fail
      refine HG.out.mono ?_
      rintro e w1 ⟨rfl, hb1⟩
      have hI1 := h.below hb1
      have hM1 := hMM.below hb1
      have e0 := (hb1.cell (p := ⟨bm, om, none⟩) lm).trans d0
      have lm1 : bm < w1.heap.size := by have := hb1.size; omega
      have r0 := below_cell lm1 e0
      clear d0 e0
      go_wp2_with fail
      go_region_held3 (fun w' => Below w1.heap.size w1 w') (first | assumption | exact hbn3.alloc hbn3.size _ | exact Below.drew (Below.refl _ _)) (first
        | (go_at_call 47; refine (i_newCommittees _ xs _ (hI1.below (by assumption)) HN.out).mono ?_; rintro e w2 ⟨out, rfl, ho, hb2⟩; obtain ⟨a2, k2, rfl⟩ := ho.at_.form; have hbn2 := below_step (W := w1) (by assumption) hb2; (have ho' : OwnComms w2 w1.heap.size (.slice a2 xs.length k2) xs := OwnNest.base ho (Below.size (by assumption))))
        | (go_at_call 64; refine (i_copyInts _ ms _ (hM1.below (by assumption)) (by omega)).mono ?_; rintro e w3 ⟨q, rfl, hq, hb3⟩; obtain ⟨a3, k3, rfl⟩ := hq.at_.form; have hbn3 := below_step (W := w1) (by assumption) hb3)
        | ((refine step_push_nest2 (f := ccell) (ord := DCommittee.members) (size := 3) (by rfl) (.tmp 18) (.tmp 26) _ (by rfl) (fun _ _ => rfl) w1.heap.size 40 3 _ _ 48 comm_info Try.underlying24 (by rfl) (by omega) (by omega) _ xs (.slice a3 ms.length k3) ⟨n, ms, m0⟩ #[.string n, .slice a3 ms.length k3, .int .i64 m0] (by rfl) w2 ho' hb3 hq rfl (by simp [ccell, Value.oneCell']) (by rfl) hbn2.size HXN.out ?_); (intro v4 w4 ho4 hb4 hg4 hv4); (have hbn4 : Below w1.heap.size w1 w4 := hbn3.trans hb4)))
      obtain ⟨a4, k4, hv4e⟩ := ho4.at_.form
      rw [List.length_append, List.length_singleton] at hv4e
      subst hv4e
      rw [← HY.out] at ho4
      have HS := Lib.hid (sort_comms 66 (enters_of Try.func66 (by kernel_rfl) (by kernel_rfl)) cmpC _ (xs ++ [y]) w1.heap.size w4 ho4 (by simp) (by simp; omega) (fun u x u' x' w' => i_form1 u x u' x' w'))
      go_wp2_with fail
      refine HS.out.mono ?_
      rintro e w5 ⟨rfl, ho5, hb5⟩
      rw [cmpC_lt] at ho5
      go_wp2_with fail
      refine (i_asCommittees _ _ w1.heap.size _ ho5 HLE.out).mono ?_
      rintro e w6 ⟨r, rfl, hr, hb6⟩
      have hbn6 := below_step (hbn4.trans hb5) hb6
      go_wp2_with fail
      go_ret2
      exact ⟨_, rfl, OwnNest.base hr hb1.size, below_step hb1 hbn6⟩
    · have hms : ms = [] := List.eq_nil_of_length_eq_zero (by omega)
      have HR : Hid (formV xs n ms = ([], false)) := by rw [Hid, formV, formOk, hms]; simp
      rw [HR.out]
      clear HR hok
      subst hms
      go_enter Try.func28, Try.ntmps28
      go_wp2_with fail
      refine HG.out.mono ?_
      rintro e w1 ⟨rfl, hb1⟩
      go_wp2_with fail
      go_ret2
      exact ⟨_, rfl, OwnNest.nil _ _ _ _, hb1⟩

set_option maxRecDepth 100000 in
set_option maxHeartbeats 2000000 in
theorem s_FormCommittee (v : Value) (xs : List DCommittee) (n : ByteArray) (vm : Value) (ms : List Int) (w : World) (h : CommsAt w v xs) (hM : IntsAt w vm ms) (hn : CommsLe xs) (hml : ms.length ≤ 1048576) (hnn : n.size ≤ 1048576) :
    Calls Try.prog 29 #[v, .string n, vm] w fun e w' => ∃ u, e = .returned (.tuple #[u, .bool (formV xs n ms).2]) ∧ OwnComms w' w.heap.size u (formV xs n ms).1 ∧ Below w.heap.size w w' := by
  have hF := s_l15Find v n xs w h
  have HG0 := s_l15Good v xs w h hn
  obtain ⟨ao, cap, rfl⟩ := h.form
  obtain ⟨am, km, rfl⟩ := hM.form
  have HN := Lib.hid hn
  cases hok : commsOk xs with
  | false =>
    have HR : Hid (formV xs n ms = ([], false)) := by rw [Hid, formV, formOk, hok, Bool.false_and, if_neg (by simp)]
    rw [HR.out]
    rw [hok] at HG0
    have HG := Lib.hid HG0; clear HG0 hok HR hF
    go_enter Try.func29, Try.ntmps29
    go_wp2_with fail
    refine HG.out.mono ?_
    rintro e w1 ⟨rfl, hb1⟩
    go_wp2_with fail
    go_ret2
    exact ⟨_, rfl, OwnNest.base (OwnNest.lit _ _ w1) hb1.size, hb1.alloc hb1.size _⟩
  | true =>
    rw [hok] at HG0
    have HG := Lib.hid HG0; clear HG0
    have HF := Lib.hid (fun w' (hb : Below w.heap.size w w') => s_l15Find _ n xs w' (h.below hb))
    clear hF
    by_cases hfi : 0 ≤ idxBy (isN n) xs
    · have HR : Hid (formV xs n ms = ([], false)) := by rw [Hid, formV, formOk, decide_eq_true hfi]; simp
      rw [HR.out]
      clear HR hok
      generalize idxBy (isN n) xs = iv at *
      go_enter Try.func29, Try.ntmps29
      go_wp2_with fail
      refine HG.out.mono ?_
      rintro e w1 ⟨rfl, hb1⟩
      go_wp2_with fail
      refine (HF.out _ hb1).mono ?_
      rintro e w2 ⟨rfl, hb2⟩
      have hb := below_step hb1 hb2
      go_wp2_with fail
      go_ret2
      exact ⟨_, rfl, OwnNest.base (OwnNest.lit _ _ w2) hb.size, hb.alloc hb.size _⟩
    · by_cases hm0 : 0 < ms.length
      · have hx8 := commsOk_len hok
        have hfo : formOk xs n ms = true := by rw [formOk, hok, decide_eq_false hfi, decide_eq_true hm0]; rfl
        obtain ⟨y, hy⟩ : ∃ y, y = formC n ms := ⟨_, rfl⟩
        have hyf : y = ⟨n, ms, ms.getD 0 0⟩ := hy
        have HR : Hid (formV xs n ms = checkV (putV xs y)) := by rw [Hid, formV, if_pos hfo, hy]
        rw [HR.out]
        have hle : CommsLe (putV xs y) := putV_le hn (by omega) (by rw [hyf]; exact ⟨hml, hnn⟩)
        have hMM := hM
        obtain ⟨_, _, _, ev, q1, q2, q3⟩ := hM
        cases ev
        obtain ⟨bm, om, rfl, lm, csM⟩ := q3 hm0
        have d0 := csM.int hm0
        rw [Nat.add_zero, ← getD_i hm0] at d0
        have hm0I : (0 : Int) < (ms.length : Int) := by omega
        have hmz : ((ms.length : Int) == 0) = false := by simp only [beq_eq_false_iff_ne]; omega
        have HY := Lib.hid hyf
        have HLE := Lib.hid hle
        clear q3 hy hyf hle HR hok hfo hn
        generalize ms.getD 0 0 = m0 at *
        generalize idxBy (isN n) xs = iv at *
        cases hck : commsOk (putV xs y) with
        | true =>
          have HR := Lib.hid (checkV_ok hck)
          rw [HR.out]
          have HCK := Lib.hid hck; clear hck HR
          go_enter Try.func29, Try.ntmps29
          go_wp2_with fail
          refine HG.out.mono ?_
          rintro e w1 ⟨rfl, hb1⟩
          go_wp2_with fail
          refine (HF.out _ hb1).mono ?_
          rintro e w2 ⟨rfl, hb2⟩
          have hb := below_step hb1 hb2
          have hI2 := h.below hb
          have hM2 := hMM.below hb
          have e0 := (hb.cell (p := ⟨bm, om, none⟩) lm).trans d0
          have lm2 : bm < w2.heap.size := by have := hb.size; omega
          have r0 := below_cell lm2 e0
          clear d0 e0
          go_wp2_with fail
          go_region_held3 (fun w' => Below w2.heap.size w2 w') (first | assumption | exact Below.drew (Below.refl _ _)) (first
            | (go_at_call 68; refine (s_l1Own _ ms _ (hM2.below (by assumption)) (by omega)).mono ?_; rintro e w3 ⟨q, rfl, hq, hb3⟩; (have hq' : OwnInts w3 w2.heap.size q ms := own_base hq (Below.size (by assumption))); obtain ⟨aq, kq, rfl⟩ := hq.at_.form; have hbn3 := below_step (W := w2) (by assumption) hb3)
            | (go_at_call 52; refine (s_l15Put _ _ xs ⟨n, ms, m0⟩ w2.heap.size _ (hI2.below (by assumption)) HN.out hq' (Below.size (by assumption))).mono ?_; rintro e w4 ⟨r, rfl, hr, hb4⟩; have hbn4 := below_step (W := w2) (by assumption) hb4))
          rw [← HY.out] at hr
          obtain ⟨ar, kr, rfl⟩ := hr.at_.form
          have HGP := Lib.hid (s_l15Good _ (putV xs y) w4 hr.at_ HLE.out)
          go_wp2_with fail
          refine HGP.out.mono ?_
          rw [HCK.out]
          rintro e w5 ⟨rfl, hb5⟩
          have hbz := below_step hb (below_step hbn4 hb5)
          go_wp2_with fail
          go_ret2
          exact ⟨_, rfl, OwnNest.base (OwnNest.below hr hb5) hb.size, hbz⟩
        | false =>
          have HR := Lib.hid (checkV_no hck)
          rw [HR.out]
          have HCK := Lib.hid hck; clear hck HR
          go_enter Try.func29, Try.ntmps29
          go_wp2_with fail
          refine HG.out.mono ?_
          rintro e w1 ⟨rfl, hb1⟩
          go_wp2_with fail
          refine (HF.out _ hb1).mono ?_
          rintro e w2 ⟨rfl, hb2⟩
          have hb := below_step hb1 hb2
          have hI2 := h.below hb
          have hM2 := hMM.below hb
          have e0 := (hb.cell (p := ⟨bm, om, none⟩) lm).trans d0
          have lm2 : bm < w2.heap.size := by have := hb.size; omega
          have r0 := below_cell lm2 e0
          clear d0 e0
          go_wp2_with fail
          go_region_held3 (fun w' => Below w2.heap.size w2 w') (first | assumption | exact Below.drew (Below.refl _ _)) (first
            | (go_at_call 68; refine (s_l1Own _ ms _ (hM2.below (by assumption)) (by omega)).mono ?_; rintro e w3 ⟨q, rfl, hq, hb3⟩; (have hq' : OwnInts w3 w2.heap.size q ms := own_base hq (Below.size (by assumption))); obtain ⟨aq, kq, rfl⟩ := hq.at_.form; have hbn3 := below_step (W := w2) (by assumption) hb3)
            | (go_at_call 52; refine (s_l15Put _ _ xs ⟨n, ms, m0⟩ w2.heap.size _ (hI2.below (by assumption)) HN.out hq' (Below.size (by assumption))).mono ?_; rintro e w4 ⟨r, rfl, hr, hb4⟩; have hbn4 := below_step (W := w2) (by assumption) hb4))
          rw [← HY.out] at hr
          obtain ⟨ar, kr, rfl⟩ := hr.at_.form
          have HGP := Lib.hid (s_l15Good _ (putV xs y) w4 hr.at_ HLE.out)
          go_wp2_with fail
          refine HGP.out.mono ?_
          rw [HCK.out]
          rintro e w5 ⟨rfl, hb5⟩
          have hbz := below_step hb (below_step hbn4 hb5)
          go_wp2_with fail
          go_ret2
          exact ⟨_, rfl, OwnNest.base (OwnNest.lit _ _ w5) hbz.size, hbz.alloc hbz.size _⟩
      · have hms : ms = [] := List.eq_nil_of_length_eq_zero (by omega)
        have HR : Hid (formV xs n ms = ([], false)) := by rw [Hid, formV, formOk, hms]; simp
        rw [HR.out]
        clear HR hok
        subst hms
        generalize idxBy (isN n) xs = iv at *
        go_enter Try.func29, Try.ntmps29
        go_wp2_with fail
        refine HG.out.mono ?_
        rintro e w1 ⟨rfl, hb1⟩
        go_wp2_with fail
        refine (HF.out _ hb1).mono ?_
        rintro e w2 ⟨rfl, hb2⟩
        have hb := below_step hb1 hb2
        go_wp2_with fail
        go_ret2
        exact ⟨_, rfl, OwnNest.base (OwnNest.lit _ _ w2) hb.size, hb.alloc hb.size _⟩

end Go.Proofs.Ytpjmcjdnobihbaa
