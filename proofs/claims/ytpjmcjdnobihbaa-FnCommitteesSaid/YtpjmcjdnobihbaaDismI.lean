/- Contract: impl.DismissMember. No conditions beyond sizes. -/
import Derived.Test.YtpjmcjdnobihbaaCommE
import Derived.Test.YtpjmcjdnobihbaaNestU
import Derived.Test.YtpjmcjdnobihbaaDelC
import Derived.Test.YtpjmcjdnobihbaaCommP
namespace Go.Proofs.Ytpjmcjdnobihbaa
open Go.RowKit
set_option linter.unusedVariables false
set_option linter.unusedSimpArgs false

theorem dismV_len (xs : List DCommittee) (n : ByteArray) (p : Int) : sumG (fun c : DCommittee => c.members.length + 2) (dismV xs n p).1 ≤ 4000000 := by
  unfold dismV
  split
  · rename_i h
    obtain ⟨h1, i, hi, h2, _, _⟩ := memOk_parts h
    have h8 := commsOk_len h1
    have hm : ∀ c ∈ xs, c.members.length ≤ 12 := comms_m12 h1
    have hc : (lessM p (xs.getD (idxBy (isN n) xs).toNat commZ)).members.length ≤ 12 := by
      rw [h2, Int.toNat_natCast, getD_c hi]
      have h3 := hm _ (List.getElem_mem hi)
      have h4 := outB_len p xs[i].members
      show (outB p xs[i].members).length ≤ 12
      omega
    have := commSum_set h8 hm _ hc
    unfold putV
    exact Nat.le_trans (this _) (by omega)
  · simp [sumG]
theorem dism_set2 {xs : List DCommittee} {i : Nat} (hi : i < xs.length) (a b : DCommittee) : (xs.set i a).set i b = xs.set i b := by simp

set_option maxRecDepth 100000 in
set_option maxHeartbeats 2000000 in
theorem i_DismissMember (v : Value) (xs : List DCommittee) (n : ByteArray) (p : Int) (w : World) (h : CommsAt w v xs) (hn : CommsLe xs) :
    Calls Try.prog 22 #[v, .string n, .int .i64 p] w fun e w' => ∃ u, e = .returned (.tuple #[u, .bool (dismV xs n p).2]) ∧ OwnComms w' w.heap.size u (dismV xs n p).1 ∧ Below w.heap.size w w' := by
  have hF := i_committeeIndex v n xs w h
  obtain ⟨ao, cap, rfl⟩ := h.form
  have hno : memOk xs n p = false → Hid (dismV xs n p = ([], false)) := fun hm => dismV_no hm
  have HN := Lib.hid hn
  rcases idxBy_hit (isN n) xs with hi | ⟨i, hi, hi4, hi5⟩
  · have hm : memOk xs n p = false := by unfold memOk; rw [hi]; simp
    have HR := hno hm
    rw [HR.out]
    rw [hi] at hF
    have HF := Lib.hid hF; clear hF hno hm HR hi
    cases hok : commsOk xs with
    | false =>
      have HG := Lib.hid (fun w' (hb : Below w.heap.size w w') => hok ▸ i_AreCommittees _ xs w' (h.below hb) hn); clear hok
      go_enter Try.func22, Try.ntmps22
      go_wp2_with fail
      refine HF.out.mono ?_
      rintro e w1 ⟨rfl, hb1⟩
      go_wp2_with fail
      refine (HG.out _ hb1).mono ?_
      rintro e w2 ⟨rfl, hb2⟩
      have hb := below_step hb1 hb2
      go_wp2_with fail
      go_ret2
      exact ⟨_, rfl, OwnNest.nil _ _ _ _, hb⟩
    | true =>
      have HG := Lib.hid (fun w' (hb : Below w.heap.size w w') => hok ▸ i_AreCommittees _ xs w' (h.below hb) hn); clear hok
      go_enter Try.func22, Try.ntmps22
      go_wp2_with fail
      refine HF.out.mono ?_
      rintro e w1 ⟨rfl, hb1⟩
      go_wp2_with fail
      refine (HG.out _ hb1).mono ?_
      rintro e w2 ⟨rfl, hb2⟩
      have hb := below_step hb1 hb2
      go_wp2_with fail
      go_ret2
      exact ⟨_, rfl, OwnNest.nil _ _ _ _, hb⟩
  · have hnm : xs[i].name = n := of_decide_eq_true hi5
    rw [hi4] at hF
    have HF := Lib.hid hF; clear hF hi5
    have hi0 : (0 : Int) ≤ (i : Int) := by omega
    have hi1 : (i : Int) < (xs.length : Int) := by omega
    have hn0 : ¬ (i : Int) < 0 := by omega
    obtain ⟨b, off, u, rfl, g0, h5w, c0w, c1w, c2w⟩ := h.get hi
    obtain ⟨au, ku, rfl⟩ := h5w.form
    have HML := Lib.hid (hn.2 _ (List.getElem_mem hi)).1
    have hmk : memOk xs n p = (commsOk xs && hasB xs[i].members p) := by
      unfold memOk; rw [hi4, Int.toNat_natCast, getD_c hi, decide_eq_true hi0, Bool.true_and]
    cases hok : commsOk xs with
    | false =>
      have HR := hno (by rw [hmk, hok]; rfl)
      rw [HR.out]
      have HG := Lib.hid (fun w' (hb : Below w.heap.size w w') => hok ▸ i_AreCommittees _ xs w' (h.below hb) hn)
      clear hok hmk HR hno c0w c1w c2w hi4 hnm
      go_enter Try.func22, Try.ntmps22
      go_wp2_with fail
      refine HF.out.mono ?_
      rintro e w1 ⟨rfl, hb1⟩
      go_wp2_with fail
      refine (HG.out _ hb1).mono ?_
      rintro e w2 ⟨rfl, hb2⟩
      have hb := below_step hb1 hb2
      go_wp2_with fail
      go_ret2
      exact ⟨_, rfl, OwnNest.nil _ _ _ _, hb⟩
    | true =>
      have HG := Lib.hid (fun w' (hb : Below w.heap.size w w') => hok ▸ i_AreCommittees _ xs w' (h.below hb) hn)
      cases hhas : hasB xs[i].members p with
      | false =>
        have HR := hno (by rw [hmk, hok, hhas]; rfl)
        rw [HR.out]
        have HC := Lib.hid (fun w' (hb : Below w.heap.size w w') => hhas ▸ slices_Contains _ xs[i].members p w' (h5w.below hb))
        clear hok hmk HR hno hhas hi4 hnm
        generalize xs[i] = x at *
        go_enter Try.func22, Try.ntmps22
        go_wp2_with fail
        refine HF.out.mono ?_
        rintro e w1 ⟨rfl, hb1⟩
        go_wp2_with fail
        refine (HG.out _ hb1).mono ?_
        rintro e w2 ⟨rfl, hb2⟩
        have hb := below_step hb1 hb2
        have c1 := (hb.cell (p := ⟨b, off + i * 3 + 1, none⟩) g0).trans c1w
        go_wp2_with fail
        refine (HC.out _ hb).mono ?_
        rintro e w3 ⟨rfl, rfl⟩
        go_wp2_with fail
        go_ret2
        exact ⟨_, rfl, OwnNest.nil _ _ _ _, hb⟩
      | true =>
        have hm : memOk xs n p = true := by rw [hmk, hok, hhas]; rfl
        have h8 := commsOk_len hok
        have hwi : IntKind.i64.wrap ((i : Int) + 1) = (i : Int) + 1 := IntWalk.i64_in _ (by omega)
        have HOUT : Hid (outB p xs[i].members = [] → dismV xs n p = (xs.eraseIdx i, true)) := fun hz => dismV_out hm hi hi4 hz
        have HSET : Hid (outB p xs[i].members ≠ [] → dismV xs n p = (xs.set i (lessM p xs[i]), true)) := fun hz => dismV_set hm hi hi4 hz
        have HC := Lib.hid (fun w' (hb : Below w.heap.size w w') => hhas ▸ slices_Contains _ xs[i].members p w' (h5w.below hb))
        clear hok hmk hno hhas hi4 hm
        obtain ⟨x, hx⟩ : ∃ x, x = xs[i] := ⟨_, rfl⟩
        rw [← hx] at HC HML c0w c1w c2w h5w hnm HOUT HSET
        have HXE := Lib.hid hx; clear hx
        go_enter Try.func22, Try.ntmps22
        go_wp2_with fail
        refine HF.out.mono ?_
        rintro e w1 ⟨rfl, hb1⟩
        go_wp2_with fail
        refine (HG.out _ hb1).mono ?_
        rintro e w2 ⟨rfl, hb2⟩
        have hb := below_step hb1 hb2
        have c1 := (hb.cell (p := ⟨b, off + i * 3 + 1, none⟩) g0).trans c1w
        go_wp2_with fail
        refine (HC.out _ hb).mono ?_
        rintro e w3 ⟨rfl, rfl⟩
        go_wp2_with fail
        refine (i_newCommittees _ xs _ (h.below hb) HN.out).mono ?_
        rintro e w3 ⟨out, rfl, ho, hb3⟩
        have hbb := below_step hb hb3
        obtain ⟨u3, hu3, ⟨g, k3, rfl, hg3, hcl⟩, _⟩ := OwnNest.inner (f := ccell) (fun _ _ => rfl) ho hi
        rw [← HXE.out] at hu3 hcl
        have e1 : w3.cell? ⟨g, i * 3 + 1, none⟩ = some u3 := hcl 1 (by omega)
        have e2 : w3.cell? ⟨g, i * 3 + 2, none⟩ = some (.int .i64 x.head) := hcl 2 (by omega)
        have hgB : w2.heap.size ≤ g := by
          obtain ⟨g', cap', he', hB', _⟩ := OwnNest.form2 ho (by omega)
          cases he'
          exact hB'
        clear hcl
        obtain ⟨a3, q3, rfl⟩ := (hu3.at_ : IntsAt w3 u3 x.members).form
        go_wp2_with fail
        refine (i_without _ x.members p _ hu3.at_ HML.out).mono ?_
        rintro e w4 ⟨u4, rfl, ho4, hb4⟩
        obtain ⟨L, hL⟩ : ∃ L, L = outB p x.members := ⟨_, rfl⟩
        rw [← hL] at ho4 HOUT HSET
        have hbb4 := below_step hbb hb4
        obtain ⟨a4, q4, rfl⟩ := (OwnI.at_ ho4 : IntsAt w4 u4 L).form
        have hb4sz : w.heap.size ≤ w4.heap.size := hbb4.size
        have hbsz := hb.size
        by_cases h0 : L = []
        · have HR := Lib.hid (HOUT.out h0)
          clear HOUT HSET hL
          subst h0
          go_wp2_with fail
          refine (slices_Delete_comm _ xs i w2.heap.size _ (OwnNest.below ho hb4) hi (by have := hb3.size; have := hb4.size; omega)).mono ?_
          rintro e w5 ⟨r, rfl, hr, hg5⟩
          go_wp2_with fail
          go_ret2
          rw [HR.out]
          exact ⟨_, rfl, OwnNest.base hr hb.size, hbb4.grown hg5 hb4sz (fun k hk => by have e : g = k := Option.some.inj hk; omega)⟩
        · have HR := Lib.hid (HSET.out h0)
          clear HOUT HSET
          have hl0 : 0 < L.length := List.length_pos_iff.2 h0
          have hl0I : ((L.length : Int) == 0) = false := by simp only [beq_eq_false_iff_ne]; omega
          have hLM : Hid (lessM p x = ⟨x.name, L, headM p L x.head⟩) := by rw [Hid, lessM, ← hL]
          clear hL
          have hf4 : ∀ j, w4.frozen? ⟨g, j, none⟩ = false := by
            obtain ⟨g', cap', he', _, _, hf, _⟩ := OwnNest.form2 (OwnNest.below ho hb4) (by omega)
            cases he'
            exact hf
          have d1 := (hb4.cell (p := ⟨g, i * 3 + 1, none⟩) hg3).trans e1
          have f1 := hf4 (i * 3 + 1)
          obtain ⟨WS, hWS⟩ : ∃ WS, WS = w4.setCell ⟨g, i * 3 + 1, none⟩ (.slice a4 L.length q4) := ⟨_, rfl⟩
          have hS := OwnNest.put1 (f := ccell) (fun _ _ => rfl) ho hb4 hi (j := 1) (by omega) (u := .slice a4 L.length q4) (y := .slice a4 L.length q4) (x := ⟨x.name, L, x.head⟩) (fun u0 => by rw [← HXE.out]; rfl) ho4 (by have := hb3.size; omega)
          rw [← hWS] at hS
          have hSL : (xs.set i (⟨x.name, L, x.head⟩ : DCommittee)).length = xs.length := List.length_set
          have hS1 := hS.1
          rw [← hSL] at hS1
          have hoS : OwnInts WS w3.heap.size (.slice a4 L.length q4) L := World.ownsRow.kept ho4 hS.2 (by
            cases a4 with
            | none => exact .inl rfl
            | some A =>
              refine .inr fun hc => ?_
              have := (ho4.lt _ hc).1
              omega)
          have hbS : Below w.heap.size w WS := by rw [hWS]; exact hbb4.setCell (p := ⟨g, i * 3 + 1, none⟩) (by have := hb.size; show _ ≤ g; omega) _
          have hi' : i < (xs.set i (⟨x.name, L, x.head⟩ : DCommittee)).length := by rw [List.length_set]; exact hi
          obtain ⟨u5, hu5, ⟨g5, k5, he5, hg5, hc5⟩, hn5⟩ := OwnNest.inner (f := ccell) (fun _ _ => rfl) hS1 hi'
          simp only [List.getElem_set_self] at hc5
          have hgg : g = g5 := by cases he5; rfl
          subst hgg
          have d2 : WS.cell? ⟨g, i * 3 + 2, none⟩ = some (.int .i64 x.head) := hc5 2 (by omega)
          have f2 : WS.frozen? ⟨g, i * 3 + 2, none⟩ = false := by
            obtain ⟨g', cap', he', _, _, hf, _⟩ := OwnNest.form2 hS1 (by omega)
            cases he'
            exact hf _
          have HS1 := Lib.hid hS1
          clear hS hS1 hc5 he5 hu5 hn5 hi'
          have HWS := Lib.hid hWS; clear hWS
          by_cases hhd : x.head = p
          · have hhb : (x.head == p) = true := by simp [hhd]
            have HLM : Hid (lessM p x = ⟨x.name, L, L.getD 0 0⟩) := by rw [Hid, hLM.out, headM, if_pos ⟨hl0, hhd⟩]
            clear hLM hhd
            have hoA := hoS
            obtain ⟨_, _, _, ev, q1, q2, q5⟩ := (OwnI.at_ hoS : IntsAt WS _ L)
            cases ev
            obtain ⟨gg, o, rfl, lg, csL⟩ := q5 hl0
            have d0 := csL.int hl0
            rw [Nat.add_zero, ← getD_i hl0] at d0
            have hl0J : (0 : Int) < (L.length : Int) := by omega
            clear q5 hoS
            generalize L.getD 0 0 = z at *
            have hS2 := OwnNest.put2 (f := ccell) (fun _ _ => rfl) HS1.out (k := i) (by rw [List.length_set]; exact hi) (j := 2) (by omega) (y := .int .i64 z) (x := (⟨x.name, L, z⟩ : DCommittee)) (fun u0 => by simp only [List.getElem_set_self]; rfl) (by simp only [List.getElem_set_self])
            rw [dism_set2 hi, List.length_set] at hS2
            have HS2 := Lib.hid hS2.1
            clear hS2
            go_upto_region 9 with fail
            rw [← HWS.out]
            go_wp2_with fail
            go_ret2
            rw [HR.out]
            exact ⟨_, rfl, by rw [HLM.out]; exact OwnNest.base HS2.out hb.size, hbS.setCell (p := ⟨g, i * 3 + 2, none⟩) (by have := hb.size; show _ ≤ g; omega) _⟩
          · have hhb : (x.head == p) = false := by simp [hhd]
            have HLM : Hid (lessM p x = ⟨x.name, L, x.head⟩) := by rw [Hid, hLM.out, headM, if_neg (fun h => hhd h.2)]
            clear hLM hhd
            go_upto_region 9 with fail
            rw [← HWS.out]
            go_wp2_with fail
            go_ret2
            rw [HR.out]
            refine ⟨_, rfl, ?_, hbS⟩
            rw [HLM.out]
            have := HS1.out
            rw [List.length_set] at this
            exact OwnNest.base this hb.size

end Go.Proofs.Ytpjmcjdnobihbaa
