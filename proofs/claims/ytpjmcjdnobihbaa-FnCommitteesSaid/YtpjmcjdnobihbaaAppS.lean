/- Contract: spec.AppointMember. No conditions beyond sizes. -/
import Derived.Test.YtpjmcjdnobihbaaCommE
import Derived.Test.YtpjmcjdnobihbaaCommP
import Derived.Test.YtpjmcjdnobihbaaPutW
namespace Go.Proofs.Ytpjmcjdnobihbaa
open Go.RowKit
set_option linter.unusedVariables false
set_option linter.unusedSimpArgs false

theorem checkV_ok {xs : List DCommittee} (h : commsOk xs = true) : checkV xs = (xs, true) := by unfold checkV; rw [if_pos h]
theorem checkV_no {xs : List DCommittee} (h : commsOk xs = false) : checkV xs = ([], false) := by unfold checkV; rw [if_neg (by rw [h]; simp)]
theorem putV_mem {xs : List DCommittee} {c y : DCommittee} (h : y ∈ putV xs c) : y = c ∨ y ∈ xs := by
  have H : ∀ (l : List DCommittee) (d : Bool), y ∈ putF c d l → y = c ∨ y ∈ l := by
    intro l
    induction l with
    | nil => intro d h; cases d <;> simp [putF] at h; exact .inl h
    | cons z r ih =>
      intro d h
      simp only [putF] at h
      rcases List.mem_append.1 h with h | h
      · split at h
        · exact .inl (List.mem_singleton.1 h)
        · cases h
      · rcases List.mem_append.1 h with h | h
        · split at h
          · cases h
          · exact .inr (by rw [List.mem_singleton.1 h]; simp)
        · rcases ih _ h with h | h
          · exact .inl h
          · exact .inr (by simp [h])
  exact H xs _ h
theorem putV_le {xs : List DCommittee} {c : DCommittee} (h : CommsLe xs) (hx : xs.length ≤ 1000) (hc : c.members.length ≤ 1048576 ∧ c.name.size ≤ 1048576) : CommsLe (putV xs c) := by
  refine ⟨?_, fun r hr => ?_⟩
  · have := putF_len c (c.members.length == 0) xs
    unfold putV
    omega
  · rcases putV_mem hr with rfl | hr
    · exact hc
    · exact h.2 r hr

set_option maxRecDepth 100000 in
set_option maxHeartbeats 2000000 in
theorem s_AppointMember (v : Value) (xs : List DCommittee) (n : ByteArray) (p : Int) (w : World) (h : CommsAt w v xs) (hn : CommsLe xs) :
    Calls Try.prog 20 #[v, .string n, .int .i64 p] w fun e w' => ∃ u, e = .returned (.tuple #[u, .bool (appV xs n p).2]) ∧ OwnComms w' w.heap.size u (appV xs n p).1 ∧ Below w.heap.size w w' := by
  have hF := s_l15Find v n xs w h
  obtain ⟨ao, cap, rfl⟩ := h.form
  have hno : appOk xs n p = false → Hid (appV xs n p = ([], false)) := fun hm => appV_no hm
  have HN := Lib.hid hn
  cases hok : commsOk xs with
  | false =>
    have HR := hno (by rw [appOk, hok, Bool.false_and])
    rw [HR.out]
    have HF := Lib.hid hF
    have HG := Lib.hid (fun w' (hb : Below w.heap.size w w') => hok ▸ s_l15Good _ xs w' (h.below hb) hn)
    clear hF hok HR hno
    generalize idxBy (isN n) xs = iv at *
    go_enter Try.func20, Try.ntmps20
    go_wp2_with fail
    refine HF.out.mono ?_
    rintro e w1 ⟨rfl, hb1⟩
    go_wp2_with fail
    refine (HG.out _ hb1).mono ?_
    rintro e w2 ⟨rfl, hb2⟩
    have hb := below_step hb1 hb2
    go_wp2_with fail
    go_ret2
    exact ⟨_, rfl, OwnNest.base (OwnNest.lit _ _ w2) hb.size, hb.alloc hb.size _⟩
  | true =>
    have HG := Lib.hid (fun w' (hb : Below w.heap.size w w') => hok ▸ s_l15Good _ xs w' (h.below hb) hn)
    rcases idxBy_hit (isN n) xs with hi | ⟨i, hi, hi4, hi5⟩
    · have HR := hno (by unfold appOk; rw [hi]; simp)
      rw [HR.out]
      rw [hi] at hF
      have HF := Lib.hid hF; clear hF hno HR hi hok
      go_enter Try.func20, Try.ntmps20
      go_wp2_with fail
      refine HF.out.mono ?_
      rintro e w1 ⟨rfl, hb1⟩
      go_wp2_with fail
      refine (HG.out _ hb1).mono ?_
      rintro e w2 ⟨rfl, hb2⟩
      have hb := below_step hb1 hb2
      go_wp2_with fail
      go_ret2
      exact ⟨_, rfl, OwnNest.base (OwnNest.lit _ _ w2) hb.size, hb.alloc hb.size _⟩
    · have hnm : xs[i].name = n := of_decide_eq_true hi5
      rw [hi4] at hF
      have HF := Lib.hid hF; clear hF hi5
      have hi0 : (0 : Int) ≤ (i : Int) := by omega
      have hi1 : (i : Int) < (xs.length : Int) := by omega
      have hn0 : ¬ (i : Int) < 0 := by omega
      have hmk : appOk xs n p = (inB p 1 99 && !hasB xs[i].members p) := by
        unfold appOk; rw [hi4, Int.toNat_natCast, getD_c hi, decide_eq_true hi0, hok, Bool.true_and, Bool.true_and]
      obtain ⟨b, off, u, rfl, g0, h5w, c0w, c1w, c2w⟩ := h.get hi
      obtain ⟨au, ku, rfl⟩ := h5w.form
      have HML := Lib.hid (hn.2 _ (List.getElem_mem hi))
      cases hp : inB p 1 99 with
      | false =>
        have HR := hno (by rw [hmk, hp]; rfl)
        rw [HR.out]
        have HP := Lib.hid hp
        clear hok hmk HR hno c0w c1w c2w hi4 hnm hp
        go_enter Try.func20, Try.ntmps20
        go_wp2_with fail
        refine HF.out.mono ?_
        rintro e w1 ⟨rfl, hb1⟩
        go_wp2_with fail
        refine (HG.out _ hb1).mono ?_
        rintro e w2 ⟨rfl, hb2⟩
        have hb := below_step hb1 hb2
        go_wp2_with (go_at_call 51; refine (s_l15Person _ _).mono ?_; rw [HP.out]; rintro e w' ⟨rfl, rfl⟩)
        go_ret2
        exact ⟨_, rfl, OwnNest.base (OwnNest.lit _ _ w2) hb.size, hb.alloc hb.size _⟩
      | true =>
        have HP := Lib.hid hp
        cases hhas : hasB xs[i].members p with
        | true =>
          have HR := hno (by rw [hmk, hp, hhas]; rfl)
          rw [HR.out]
          have HC := Lib.hid (fun w' (hb : Below w.heap.size w w') => hhas ▸ s_l1Has _ xs[i].members p w' (h5w.below hb))
          clear hok hmk HR hno hhas hi4 hnm hp
          generalize xs[i] = x at *
          go_enter Try.func20, Try.ntmps20
          go_wp2_with fail
          refine HF.out.mono ?_
          rintro e w1 ⟨rfl, hb1⟩
          go_wp2_with fail
          refine (HG.out _ hb1).mono ?_
          rintro e w2 ⟨rfl, hb2⟩
          have hb := below_step hb1 hb2
          have c1 := (hb.cell (p := ⟨b, off + i * 3 + 1, none⟩) g0).trans c1w
          go_wp2_with (first | (go_at_call 51; refine (s_l15Person _ _).mono ?_; rw [HP.out]; rintro e w' ⟨rfl, rfl⟩) | (go_at_call 42; refine (HC.out _ hb).mono ?_; rintro e w' ⟨rfl, rfl⟩))
          go_ret2
          exact ⟨_, rfl, OwnNest.base (OwnNest.lit _ _ w2) hb.size, hb.alloc hb.size _⟩
        | false =>
          have hm : appOk xs n p = true := by rw [hmk, hp, hhas]; rfl
          have HR : Hid (appV xs n p = checkV (putV xs ⟨n, putL p xs[i].members, xs[i].head⟩)) := by
            rw [Hid, appV_at hm hi hi4]
            unfold appC
            rw [hnm]
          rw [HR.out]
          have hm12 := comms_m12 hok _ (List.getElem_mem hi)
          have hx8 := commsOk_len hok
          have HC := Lib.hid (fun w' (hb : Below w.heap.size w w') => hhas ▸ s_l1Has _ xs[i].members p w' (h5w.below hb))
          have HH := Lib.hid hhas
          obtain ⟨y, hy⟩ : ∃ y : DCommittee, y = ⟨n, putL p xs[i].members, xs[i].head⟩ := ⟨_, rfl⟩
          have hle : CommsLe (putV xs y) := putV_le hn (by omega) (by rw [hy]; exact ⟨by show (putL p xs[i].members).length ≤ _; rw [putL_len]; omega, by rw [← hnm]; exact HML.out.2⟩)
          clear hok hmk HR hno hhas hi4 hnm hp hm
          rw [← hy]
          have HY := Lib.hid hy
          have HLE := Lib.hid hle
          generalize xs[i] = x at *
          clear hy hle
          cases hck : commsOk (putV xs y) with
          | true =>
            have HR := Lib.hid (checkV_ok hck)
            rw [HR.out]
            have HCK := Lib.hid hck; clear hck HR
            go_enter Try.func20, Try.ntmps20
            go_wp2_with fail
            refine HF.out.mono ?_
            rintro e w1 ⟨rfl, hb1⟩
            go_wp2_with fail
            refine (HG.out _ hb1).mono ?_
            rintro e w2 ⟨rfl, hb2⟩
            have hb := below_step hb1 hb2
            have c1 := (hb.cell (p := ⟨b, off + i * 3 + 1, none⟩) g0).trans c1w
            have c2 := (hb.cell (p := ⟨b, off + i * 3 + 2, none⟩) g0).trans c2w
            have gw2 : b < w2.heap.size := by have := hb.size; omega
            have r1 := below_cell gw2 c1
            have r2 := below_cell gw2 c2
            have hI2 := h.below hb
            have h52 := h5w.below hb
            go_wp2_with (first | (go_at_call 51; refine (s_l15Person _ _).mono ?_; rw [HP.out]; rintro e w' ⟨rfl, rfl⟩) | (go_at_call 42; refine (HC.out _ hb).mono ?_; rintro e w' ⟨rfl, rfl⟩))
            go_region_held3 (fun w' => Below w2.heap.size w2 w') (first | assumption | exact Below.drew (Below.refl _ _)) (first
              | (go_at_call 53; refine (s_l1Put _ x.members p _ (h52.below (by assumption)) HML.out.1 HH.out).mono ?_; rintro e w3 ⟨q, rfl, hq, hb3⟩; (have hq' : OwnInts w3 w2.heap.size q (putL p x.members) := own_base hq (Below.size (by assumption))); obtain ⟨aq, kq, rfl⟩ := hq.at_.form; have hbn3 := below_step (W := w2) (by assumption) hb3)
              | (go_at_call 52; refine (s_l15Put _ _ xs ⟨n, putL p x.members, x.head⟩ w2.heap.size _ (hI2.below (by assumption)) HN.out hq' (Below.size (by assumption))).mono ?_; rintro e w4 ⟨r, rfl, hr, hb4⟩; have hbn4 := below_step (W := w2) (by assumption) hb4))
            rw [← HY.out] at hr
            obtain ⟨ar, kr, rfl⟩ := hr.at_.form
            have HGP := Lib.hid (s_l15Good _ (putV xs y) w4 hr.at_ HLE.out)
            go_wp2_with fail
            refine HGP.out.mono ?_
            rw [HCK.out]
            rintro e w5 ⟨rfl, hb5⟩
            go_wp2_with fail
            go_ret2
            exact ⟨_, rfl, OwnNest.base (OwnNest.below hr hb5) hb.size, below_step hb (below_step hbn4 hb5)⟩
          | false =>
            have HR := Lib.hid (checkV_no hck)
            rw [HR.out]
            have HCK := Lib.hid hck; clear hck HR
            go_enter Try.func20, Try.ntmps20
            go_wp2_with fail
            refine HF.out.mono ?_
            rintro e w1 ⟨rfl, hb1⟩
            go_wp2_with fail
            refine (HG.out _ hb1).mono ?_
            rintro e w2 ⟨rfl, hb2⟩
            have hb := below_step hb1 hb2
            have c1 := (hb.cell (p := ⟨b, off + i * 3 + 1, none⟩) g0).trans c1w
            have c2 := (hb.cell (p := ⟨b, off + i * 3 + 2, none⟩) g0).trans c2w
            have gw2 : b < w2.heap.size := by have := hb.size; omega
            have r1 := below_cell gw2 c1
            have r2 := below_cell gw2 c2
            have hI2 := h.below hb
            have h52 := h5w.below hb
            go_wp2_with (first | (go_at_call 51; refine (s_l15Person _ _).mono ?_; rw [HP.out]; rintro e w' ⟨rfl, rfl⟩) | (go_at_call 42; refine (HC.out _ hb).mono ?_; rintro e w' ⟨rfl, rfl⟩))
            go_region_held3 (fun w' => Below w2.heap.size w2 w') (first | assumption | exact Below.drew (Below.refl _ _)) (first
              | (go_at_call 53; refine (s_l1Put _ x.members p _ (h52.below (by assumption)) HML.out.1 HH.out).mono ?_; rintro e w3 ⟨q, rfl, hq, hb3⟩; (have hq' : OwnInts w3 w2.heap.size q (putL p x.members) := own_base hq (Below.size (by assumption))); obtain ⟨aq, kq, rfl⟩ := hq.at_.form; have hbn3 := below_step (W := w2) (by assumption) hb3)
              | (go_at_call 52; refine (s_l15Put _ _ xs ⟨n, putL p x.members, x.head⟩ w2.heap.size _ (hI2.below (by assumption)) HN.out hq' (Below.size (by assumption))).mono ?_; rintro e w4 ⟨r, rfl, hr, hb4⟩; have hbn4 := below_step (W := w2) (by assumption) hb4))
            rw [← HY.out] at hr
            obtain ⟨ar, kr, rfl⟩ := hr.at_.form
            have HGP := Lib.hid (s_l15Good _ (putV xs y) w4 hr.at_ HLE.out)
            go_wp2_with fail
            refine HGP.out.mono ?_
            rw [HCK.out]
            rintro e w5 ⟨rfl, hb5⟩
            have hbz := below_step hb (below_step hbn4 hb5)
            go_wp2_with fail
            go_ret2
            exact ⟨_, rfl, OwnNest.base (OwnNest.lit _ _ w5) hbz.size, hbz.alloc hbz.size _⟩

end Go.Proofs.Ytpjmcjdnobihbaa
