/- Contracts: FewestForMajority, the reference's and the program's: the walks. No conditions. -/
import Derived.Test.YtokjamdikenkoaaFew
import Derived.Lib.SliceRun
namespace Go.Proofs.Ytokjamdikenkoaa
open Go.RowKit
set_option linter.unusedVariables false
set_option linter.unusedSimpArgs false

/-- A new row of two elements reads. -/
theorem row_two (w : World) (x y : Int) (t : TypeId) : IntsAt (w.alloc (.cells #[.int .i64 x, .int .i64 y] t)) (.slice (some ⟨w.heap.size, 0, none⟩) 2 2) [x, y] :=
  ⟨rfl, _, _, rfl, Nat.le_refl _, by unfold maxLen; omega, fun _ => ⟨w.heap.size, 0, rfl, by simp, fun k hk => by
    have hk' : k < 2 := by simpa [ints] using hk
    rcases (by omega : k = 0 ∨ k = 1) with rfl | rfl <;> simp [go_sem, ints]⟩⟩

set_option maxHeartbeats 2000000 in
theorem s_FewestForMajority (v : Value) (rs : List Int) (w : World) (h : IntsAt w v rs) :
    Calls Try.prog 34 #[v] w fun e w' => ∃ u, e = .returned (.tuple #[u, .bool (fewV rs).2]) ∧ OwnInts w' w.heap.size u (fewV rs).1 ∧ Below w.heap.size w w' := by
  have hlit := own_lit0 w 3
  obtain ⟨W, hW⟩ : ∃ W, W = w.alloc (.cells #[] 3) := ⟨_, rfl⟩
  rw [← hW] at hlit
  have hWb : Below w.heap.size w W := by rw [hW]; go_grown
  have hI : IntsAt W v rs := h.below hWb
  have HW := Lib.hid hW; clear hW
  obtain ⟨ao, cap, rfl⟩ := h.form
  cases hok : resOk rs with
  | false =>
    have HR : Hid (fewV rs = ([], false)) := by simp [Hid, fewV, hok]
    have HO := Lib.hid hok; clear hok
    rw [HR.out]
    go_enter Try.func34, Try.ntmps34
    go_wp2_with fail
    rw [← HW.out]
    refine (s_l14Result _ rs _ hI).mono ?_
    rw [show (inB rs.length 1 8 && allIn 0 50 rs) = false from HO.out]
    rintro e w' ⟨rfl, rfl⟩
    go_wp2_with fail
    go_ret2
    exact ⟨_, rfl, hlit, hWb⟩
  | true =>
    obtain ⟨hva, hn1, hn8, hs0, hs1⟩ := resOk_parts hok
    obtain ⟨M, hM⟩ : ∃ M, M = 2 ^ rs.length := ⟨_, rfl⟩
    have hM1 : 1 ≤ M := by rw [hM]; exact Nat.one_le_two_pow
    have hM2 : M ≤ 256 := by rw [hM]; exact Nat.pow_le_pow_right (by omega) hn8
    have hMw : wrap64 ((2 : Int) ^ rs.length) = (M : Int) := by rw [hM]; push_cast; exact IntWalk.wrap64_in _ (by have : (2 : Int) ^ rs.length = (M : Int) := by { rw [hM]; push_cast; rfl }; omega)
    have HR : Hid (fewV rs = ((few rs M).getD [], (few rs M).isSome)) := by simp [Hid, fewV, hok, hM]
    have HV := Lib.hid hva; clear hva
    have HO := Lib.hid hok; clear hok
    have hone : Hid (few rs 1 = none) := few_one rs hs0
    have HM := Lib.hid hM; clear hM
    have h' := h
    obtain ⟨_, _, _, hv, h1, h2, h3⟩ := h'
    cases hv
    obtain ⟨b, off, rfl, h4, h5⟩ := h3 (by omega)
    clear h3
    unfold maxLen at h2
    rw [HR.out]
    go_enter Try.func34, Try.ntmps34
    go_wp2_with fail
    rw [← HW.out]
    refine (s_l14Result _ rs _ hI).mono ?_
    rw [show (inB rs.length 1 8 && allIn 0 50 rs) = true from HO.out]
    rintro e w' ⟨rfl, rfl⟩
    go_wp2_with fail
    go_loopw [4, 5, 6] (fun u f s wr => ∃ (m : Nat) (st : Option (List Int)), 1 ≤ m ∧ m ≤ M ∧ s = .int .i64 m ∧ f = .bool st.isSome ∧ Hid (few rs m = st) ∧ OwnInts wr w.heap.size u (st.getD []) ∧ Below w.heap.size w wr) (fun _ _ s _ => M - (intOf s).toNat)
    case atStart => exact ⟨1, none, by omega, hM1, rfl, rfl, hone, hlit, hWb⟩
    case round =>
      obtain ⟨m, st, hm1, hm, rfl, rfl, hst, ho, hb⟩ := hrel
      clear hlit hI hWb
      by_cases hmM : m < M
      · have hbo : b < wr.heap.size := by have := hb.size; omega
        go_wp2_with fail
        simp only [hMw]
        go_loopw [7, 8, 9] (fun u s i wi => ∃ k : Nat, k ≤ rs.length ∧ i = .int .i64 k ∧ s = .int .i64 (pickS rs m k) ∧ OwnInts wi wr.heap.size u (pickL m k) ∧ Below wr.heap.size wr wi) (fun _ _ i _ => rs.length - (intOf i).toNat)
        case atStart => exact ⟨0, by omega, rfl, rfl, own_lit0 _ _, (Below.refl _ _).alloc (Nat.le_refl _) _⟩
        case round =>
          obtain ⟨k, hk, rfl, rfl, ho2, hb2⟩ := hrel
          have hb' := below_step hb hb2
          have hpb := pickS_bd rs m k HV.out hk
          have hpl := pickL_len m k
          by_cases hlt : k < rs.length
          · have hc : wr.cell? ⟨b, off + k, none⟩ = some (.int .i64 (rs.getD k 0)) := by rw [hb'.cell (p := ⟨b, off + k, none⟩) h4, h5.intD hlt]
            have hx := HV.out _ (mem_getD hlt)
            cases htb : m.testBit k with
            | false =>
              have hbit := bit_off htb
              have HL : Hid (pickL m (k + 1) = pickL m k) := by simp [Hid, pickL, htb]
              have HS : Hid (pickS rs m (k + 1) = pickS rs m k) := by simp [Hid, pickS, htb]
              clear htb
              generalize pickS rs m k = S at *
              generalize rs.getD k 0 = x at *
              go_wp2_with fail
              go_roundw
              case rel => exact ⟨k + 1, by omega, by go_num, by rw [HS.out], by rw [HL.out]; exact ho2, hb2⟩
              case measure => simp [intOf]; omega
            | true =>
              have hbit := bit_on htb
              have HL : Hid (pickL m (k + 1) = pickL m k ++ [(k : Int)]) := by simp [Hid, pickL, htb]
              have HS : Hid (pickS rs m (k + 1) = pickS rs m k + rs.getD k 0) := by simp [Hid, pickS, htb]
              clear htb
              generalize pickS rs m k = S at *
              generalize rs.getD k 0 = x at *
              go_wp2_with (at_builtin; refine wpList_push_int rfl (.tmp 36) (.tmp 38) _ rfl _ 3 _ int_info Try.underlying22 _ _ (k : Int) rfl ho2 rfl hb2.size (by omega) ?_; intro u' w2 ho3 hb3; have hc3 := hb2.trans hb3; have hc2 := (hb3.cell (p := ⟨b, off + k, none⟩) hbo).trans hc)
              go_roundw
              case rel => exact ⟨k + 1, by omega, by go_num, by rw [HS.out], by rw [HL.out]; exact ho3, hc3⟩
              case measure => simp [intOf]; omega
          · obtain rfl : k = rs.length := by omega
            have hsum : ∀ x ∈ rs, 0 ≤ x ∧ x ≤ 1000000 := fun x hx => by have := HV.out x hx; omega
            have HSUM := Lib.hid hsum; clear hsum
            have hIr := h.below hb'
            have ho' := OwnI.below ho hb2
            obtain ⟨hp0, _, hp1⟩ := hpb
            have q1 : wrap64 (2 * pickS rs m rs.length) = 2 * pickS rs m rs.length := IntWalk.wrap64_in _ (by omega)
            by_cases hg : rs.sum < 2 * pickS rs m rs.length
            · cases st with
              | none =>
                have HF : Hid (few rs (m + 1) = some (pickL m rs.length)) := few_first hst.out hg
                generalize pickS rs m rs.length = S at *
                go_wp2_with (go_at_call 54; refine (s_l14Sum _ rs _ hIr HSUM.out (by omega)).mono ?_; rintro e w' ⟨rfl, rfl⟩)
                go_roundw
                case rel => exact ⟨m + 1, _, by omega, by omega, by go_num, rfl, HF, own_base ho2 hb.size, hb'⟩
                case measure => simp [intOf]; omega
              | some c =>
                cases hl : lessL (pickL m rs.length) c with
                | true =>
                  have HF : Hid (few rs (m + 1) = some (pickL m rs.length)) := few_more hst.out hg hl
                  have HL := Lib.hid hl; clear hl
                  have hb2' := below_step (W := w) hb' (Below.refl _ _)
                  generalize pickS rs m rs.length = S at *
                  go_wp2_with (first
                    | (go_at_call 54; refine (s_l14Sum _ rs _ hIr HSUM.out (by omega)).mono ?_; rintro e w' ⟨rfl, rfl⟩)
                    | (go_at_call 63; refine (s_l14Less _ _ (pickL m rs.length) c _ ho2.at_ ho'.at_).mono ?_; rw [HL.out]; rintro e w3 ⟨rfl, hb3⟩; have hc3 := below_step hb2' hb3; have ho3 := OwnI.below ho2 hb3))
                  go_roundw
                  case rel => exact ⟨m + 1, _, by omega, by omega, by go_num, rfl, HF, own_base ho3 hb.size, hc3⟩
                  case measure => simp [intOf]; omega
                | false =>
                  have HF : Hid (few rs (m + 1) = some c) := few_less hst.out hl
                  have HL := Lib.hid hl; clear hl
                  have hb2' := below_step (W := w) hb' (Below.refl _ _)
                  generalize pickS rs m rs.length = S at *
                  go_wp2_with (first
                    | (go_at_call 54; refine (s_l14Sum _ rs _ hIr HSUM.out (by omega)).mono ?_; rintro e w' ⟨rfl, rfl⟩)
                    | (go_at_call 63; refine (s_l14Less _ _ (pickL m rs.length) c _ ho2.at_ ho'.at_).mono ?_; rw [HL.out]; rintro e w3 ⟨rfl, hb3⟩; have hc3 := below_step hb2' hb3; have ho3 := OwnI.below ho' hb3))
                  go_roundw
                  case rel => exact ⟨m + 1, _, by omega, by omega, by go_num, rfl, HF, ho3, hc3⟩
                  case measure => simp [intOf]; omega
            · have HF : Hid (few rs (m + 1) = st) := by
                cases st with
                | none => exact few_none hst.out hg
                | some c => exact few_keep hst.out hg
              generalize pickS rs m rs.length = S at *
              go_wp2_with (go_at_call 54; refine (s_l14Sum _ rs _ hIr HSUM.out (by omega)).mono ?_; rintro e w' ⟨rfl, rfl⟩)
              go_roundw
              case rel => exact ⟨m + 1, _, by omega, by omega, by go_num, rfl, HF, ho', hb'⟩
              case measure => simp [intOf]; omega
      · obtain rfl : m = M := by omega
        rw [← hst.out] at *
        go_wp2_with fail
        go_ret2
        exact ⟨_, rfl, ho, hb⟩

/-- An own slice that is not empty. -/
theorem own_some {e B : Nat} {w : World} {u : Value} {c : List Int} (h : OwnI e w B u c) (hc : c ≠ []) : ∃ g k, u = .slice (some ⟨g, 0, none⟩) c.length k := by
  rcases h.2 with ⟨_, h2⟩ | ⟨g, cap, cur, hv, _⟩
  · exact absurd (List.eq_nil_of_length_eq_zero h2) hc
  · exact ⟨g, cap, hv⟩
/-- The best set so far, as the program holds it. -/
def BestAt (e : TypeId) (w : World) (B : Nat) (u : Value) : Option (List Int) → Prop
  | none => u = .slice none 0 0
  | some c => OwnI e w B u c ∧ c ≠ []
theorem BestAt.below {e B : Nat} {w w' : World} {u : Value} {st : Option (List Int)} (h : BestAt e w B u st) (hb : Below w.heap.size w w') : BestAt e w' B u st := by
  cases st with
  | none => exact h
  | some c => exact ⟨OwnI.below h.1 hb, h.2⟩

set_option maxHeartbeats 2000000 in
theorem i_FewestForMajority (v : Value) (rs : List Int) (w : World) (h : IntsAt w v rs) :
    Calls Try.prog 33 #[v] w fun e w' => ∃ u, e = .returned (.tuple #[u, .bool (fewV rs).2]) ∧ OwnInts w' w.heap.size u (fewV rs).1 ∧ Below w.heap.size w w' := by
  cases hin : inB rs.length 1 8 with
  | false =>
    have HR : Hid (fewV rs = ([], false)) := by simp [Hid, fewV, resOk, hin]
    have HI := Lib.hid hin; clear hin
    obtain ⟨ao, cap, rfl⟩ := h.form
    rw [HR.out]
    go_enter Try.func33, Try.ntmps33
    go_wp2_with (go_at_call 47; refine (i_inside _ _ _ _).mono ?_; rw [HI.out]; rintro e w' ⟨rfl, rfl⟩)
    go_ret2
    exact ⟨_, rfl, World.ownsRow_nil _ _ 3 1, Below.refl _ _⟩
  | true =>
    have hle8 := (inB_iff.1 hin)
    obtain ⟨hl1, hl8⟩ := hle8
    cases hal : allIn 0 50 rs with
    | false =>
      have HR : Hid (fewV rs = ([], false)) := by simp [Hid, fewV, resOk, hal]
      have HI := Lib.hid hin; clear hin
      have HA := Lib.hid hal; clear hal
      obtain ⟨ao, cap, rfl⟩ := h.form
      rw [HR.out]
      go_enter Try.func33, Try.ntmps33
      go_wp2_with (first | (go_at_call 47; refine (i_inside _ _ _ _).mono ?_; rw [HI.out]; rintro e w' ⟨rfl, rfl⟩) | (go_at_call 45; refine (i_areResults _ rs _ h).mono ?_; rw [HA.out]; rintro e w1 ⟨rfl, hb1⟩))
      go_ret2
      exact ⟨_, rfl, World.ownsRow_nil _ _ 3 1, hb1⟩
    | true =>
      have hok : resOk rs = true := by simp [resOk, hin, hal]
      obtain ⟨hva, hn1, hn8, hs0, hs1⟩ := resOk_parts hok
      have HI := Lib.hid hin; clear hin
      have HA := Lib.hid hal; clear hal
      have hsum : ∀ x ∈ rs, 0 ≤ x ∧ x ≤ 1000000 := fun x hx => by have := hva x hx; omega
      have HSUM := Lib.hid hsum; clear hsum
      cases hz : (rs.sum == 0) with
      | true =>
        have HR : Hid (fewV rs = ([], false)) := by
          have h0 : rs.sum = 0 := by simpa using hz
          simp [Hid, fewV, hok, few_empty hva h0]
        clear hva hok
        obtain ⟨ao, cap, rfl⟩ := h.form
        rw [HR.out]
        go_enter Try.func33, Try.ntmps33
        go_wp2_with (first | (go_at_call 47; refine (i_inside _ _ _ _).mono ?_; rw [HI.out]; rintro e w' ⟨rfl, rfl⟩) | (go_at_call 45; refine (i_areResults _ rs _ h).mono ?_; rw [HA.out]; rintro e w1 ⟨rfl, hb1⟩; have hI1 := h.below hb1) | (go_at_call 46; refine (i_sumInts _ rs _ hI1 HSUM.out (by omega)).mono ?_; rintro e w' ⟨rfl, rfl⟩))
        go_ret2
        exact ⟨_, rfl, World.ownsRow_nil _ _ 3 1, hb1⟩
      | false =>
        have hpos : 0 < rs.sum := by have : ¬ rs.sum = 0 := by { simpa using hz }; omega
        obtain ⟨M, hM⟩ : ∃ M, M = 2 ^ rs.length := ⟨_, rfl⟩
        have hfull : Hid (few rs M ≠ none) := by rw [hM]; exact few_full hpos
        have hM1 : 1 ≤ M := by rw [hM]; exact Nat.one_le_two_pow
        have hM2 : M ≤ 256 := by rw [hM]; exact Nat.pow_le_pow_right (by omega) hn8
        have hMw : wrap64 ((2 : Int) ^ rs.length) = (M : Int) := by rw [hM]; push_cast; exact IntWalk.wrap64_in _ (by have : (2 : Int) ^ rs.length = (M : Int) := by { rw [hM]; push_cast; rfl }; omega)
        have HR : Hid (fewV rs = ((few rs M).getD [], (few rs M).isSome)) := by simp [Hid, fewV, hok, hM]
        have HV := Lib.hid hva; clear hva
        clear hok hpos
        have HM := Lib.hid hM; clear hM
        have h' := h
        obtain ⟨_, ao, cap, rfl, h1, h2, h3⟩ := h'
        obtain ⟨b, off, rfl, h4, h5⟩ := h3 (by omega)
        clear h3
        unfold maxLen at h2
        rw [HR.out]
        have hnil : ∀ (w : World) (a : Option Addr) (n c : Nat), (binOp .eql 22 (.slice a n c) (.slice none 0 0)).run Try.prog w = .ok (.bool a.isNone) w := fun w a n c => Lib.run_eql_slice_nil w _ _ a n c 0 0 Try.underlying22
        go_enter Try.func33, Try.ntmps33
        go_wp2_with (first | (go_at_call 47; refine (i_inside _ _ _ _).mono ?_; rw [HI.out]; rintro e w' ⟨rfl, rfl⟩) | (go_at_call 45; refine (i_areResults _ rs _ h).mono ?_; rw [HA.out]; rintro e w1 ⟨rfl, hb1⟩; have hI1 := h.below hb1) | (go_at_call 46; refine (i_sumInts _ rs _ hI1 HSUM.out (by omega)).mono ?_; rintro e w' ⟨rfl, rfl⟩))
        simp only [hMw]
        go_loopw [4, 27] (fun u s wr => ∃ (m : Nat) (st : Option (List Int)) (ab : Option Addr) (nb kb : Nat), m ≤ M ∧ s = .int .i64 m ∧ u = .slice ab nb kb ∧ Hid (few rs m = st) ∧ BestAt 3 wr w.heap.size (.slice ab nb kb) st ∧ Below w.heap.size w wr) (fun _ s _ => M - (intOf s).toNat)
        case atStart => exact ⟨0, none, none, 0, 0, by omega, rfl, rfl, rfl, rfl, hb1⟩
        case round =>
          obtain ⟨m, st, ab, nb, kb, hm, rfl, rfl, hst, ho, hb⟩ := hrel
          clear hI1 hb1
          by_cases hmM : m < M
          · have hbo : b < wr.heap.size := by have := hb.size; omega
            go_wp2_with fail
            go_loopw [6, 7, 33] (fun u s i wi => ∃ k : Nat, k ≤ rs.length ∧ i = .int .i64 k ∧ s = .int .i64 (pickS rs m k) ∧ OwnInts wi wr.heap.size u (pickL m k) ∧ Below wr.heap.size wr wi ∧ ∃ g c, u = .slice (some ⟨g, 0, none⟩) (pickL m k).length c) (fun _ _ i _ => rs.length - (intOf i).toNat)
            case atStart => exact ⟨0, by omega, rfl, rfl, own_lit0 _ _, (Below.refl _ _).alloc (Nat.le_refl _) _, _, _, rfl⟩
            case round =>
              obtain ⟨k, hk, rfl, rfl, ho2, hb2, gl, kl, rfl⟩ := hrel
              have hb' := below_step hb hb2
              have hpb := pickS_bd rs m k HV.out hk
              have hpl := pickL_len m k
              by_cases hlt : k < rs.length
              · have hc : wr.cell? ⟨b, off + k, none⟩ = some (.int .i64 (rs.getD k 0)) := by rw [hb'.cell (p := ⟨b, off + k, none⟩) h4, h5.intD hlt]
                have hx := HV.out _ (mem_getD hlt)
                cases htb : m.testBit k with
                | false =>
                  have hbit := bit_off htb
                  have HL : Hid (pickL m (k + 1) = pickL m k) := by simp [Hid, pickL, htb]
                  have HS : Hid (pickS rs m (k + 1) = pickS rs m k) := by simp [Hid, pickS, htb]
                  clear htb
                  generalize pickS rs m k = S at *
                  generalize rs.getD k 0 = x at *
                  go_wp2_with fail
                  go_roundw
                  case rel => exact ⟨k + 1, by omega, by go_num, by rw [HS.out], by rw [HL.out]; exact ho2, hb2, gl, kl, by rw [HL.out]⟩
                  case measure => simp [intOf]; omega
                | true =>
                  have hbit := bit_on htb
                  have HL : Hid (pickL m (k + 1) = pickL m k ++ [(k : Int)]) := by simp [Hid, pickL, htb]
                  have HS : Hid (pickS rs m (k + 1) = pickS rs m k + rs.getD k 0) := by simp [Hid, pickS, htb]
                  clear htb
                  generalize pickS rs m k = S at *
                  generalize rs.getD k 0 = x at *
                  go_wp2_with (at_builtin; refine wpList_push_int rfl (.tmp 43) (.tmp 45) _ rfl _ 3 _ int_info Try.underlying22 _ _ (k : Int) rfl ho2 rfl hb2.size (by omega) ?_; intro u' w2 ho3 hb3; have hc3 := hb2.trans hb3; have hc2 := (hb3.cell (p := ⟨b, off + k, none⟩) hbo).trans hc)
                  go_roundw
                  case rel => exact ⟨k + 1, by omega, by go_num, by rw [HS.out], by rw [HL.out]; exact ho3, hc3, by rw [HL.out]; exact own_some ho3 (by simp)⟩
                  case measure => simp [intOf]; omega
              · obtain rfl : k = rs.length := by omega
                have hIr := h.below hb'
                have ho' := ho.below hb2
                obtain ⟨hp0, _, hp1⟩ := hpb
                have q1 : wrap64 (2 * pickS rs m rs.length) = 2 * pickS rs m rs.length := IntWalk.wrap64_in _ (by omega)
                by_cases hg : rs.sum < 2 * pickS rs m rs.length
                · have hne : pickL m rs.length ≠ [] := fun h0 => by have := pickS_nil (rs := rs) h0; omega
                  have HN := Lib.hid hne; clear hne
                  have hg' : ¬ 2 * pickS rs m rs.length ≤ rs.sum := by omega
                  cases st with
                  | none =>
                    have HF : Hid (few rs (m + 1) = some (pickL m rs.length)) := few_first hst.out hg
                    have hab : ab = none := by injection (show Value.slice ab nb kb = .slice none 0 0 from ho')
                    clear ho'
                    generalize pickS rs m rs.length = S at *
                    go_wp2_with (go_at_call 46; refine (i_sumInts _ rs _ hIr HSUM.out (by omega)).mono ?_; rintro e w' ⟨rfl, rfl⟩)
                    go_roundw
                    case rel => exact ⟨m + 1, _, _, _, _, by omega, by go_num, rfl, HF, ⟨own_base ho2 hb.size, HN.out⟩, hb'⟩
                    case measure => simp [intOf]; omega
                  | some c =>
                    obtain ⟨ho', hcn⟩ := ho'
                    obtain ⟨gc, kc, hv⟩ := own_some ho' hcn
                    obtain ⟨hab, hnb⟩ : ab = some ⟨gc, 0, none⟩ ∧ nb = c.length := by injection hv with e1 e2 e3; exact ⟨e1, e2⟩
                    clear hv
                    simp only [hab, hnb] at ho'
                    have HCN := Lib.hid hcn; clear hcn
                    cases hl : lessL (pickL m rs.length) c with
                    | true =>
                      have HF : Hid (few rs (m + 1) = some (pickL m rs.length)) := few_more hst.out hg hl
                      have hor : orI (cmpI (pickL m rs.length).length c.length) (cmpL (pickL m rs.length) c) < 0 := by simpa [lessL] using hl
                      clear hl
                      generalize pickS rs m rs.length = S at *
                      go_wp2_with (first
                        | (go_at_call 46; refine (i_sumInts _ rs _ hIr HSUM.out (by omega)).mono ?_; rintro e w' ⟨rfl, rfl⟩)
                        | (go_at_call 61; refine (Compare_int _ _ _).mono ?_; rintro e w' ⟨rfl, rfl⟩)
                        | (go_at_call 62; refine (slices_Compare _ _ (pickL m rs.length) c _ ho2.at_ ho'.at_).mono ?_; rintro e w' ⟨rfl, rfl⟩)
                        | (go_at_call 60; refine (Or_int2 _ _ _ _ (row_two _ _ _ _)).mono ?_; rintro e w' ⟨rfl, rfl⟩))
                      go_roundw
                      case rel => exact ⟨m + 1, _, _, _, _, by omega, by go_num, rfl, HF, ⟨OwnI.below (own_base ho2 hb.size) ((Below.refl _ _).alloc (Nat.le_refl _) _), HN.out⟩, hb'.alloc hb'.size _⟩
                      case measure => simp [intOf]; omega
                    | false =>
                      have HF : Hid (few rs (m + 1) = some c) := few_less hst.out hl
                      have hor : ¬ orI (cmpI (pickL m rs.length).length c.length) (cmpL (pickL m rs.length) c) < 0 := by simpa [lessL] using hl
                      clear hl
                      generalize pickS rs m rs.length = S at *
                      go_wp2_with (first
                        | (go_at_call 46; refine (i_sumInts _ rs _ hIr HSUM.out (by omega)).mono ?_; rintro e w' ⟨rfl, rfl⟩)
                        | (go_at_call 61; refine (Compare_int _ _ _).mono ?_; rintro e w' ⟨rfl, rfl⟩)
                        | (go_at_call 62; refine (slices_Compare _ _ (pickL m rs.length) c _ ho2.at_ ho'.at_).mono ?_; rintro e w' ⟨rfl, rfl⟩)
                        | (go_at_call 60; refine (Or_int2 _ _ _ _ (row_two _ _ _ _)).mono ?_; rintro e w' ⟨rfl, rfl⟩))
                      go_roundw
                      case rel => exact ⟨m + 1, _, _, _, _, by omega, by go_num, rfl, HF, ⟨OwnI.below ho' ((Below.refl _ _).alloc (Nat.le_refl _) _), HCN.out⟩, hb'.alloc hb'.size _⟩
                      case measure => simp [intOf]; omega
                · have HF : Hid (few rs (m + 1) = st) := by
                    cases st with
                    | none => exact few_none hst.out hg
                    | some c => exact few_keep hst.out hg
                  have hg' : 2 * pickS rs m rs.length ≤ rs.sum := by omega
                  generalize pickS rs m rs.length = S at *
                  go_wp2_with (go_at_call 46; refine (i_sumInts _ rs _ hIr HSUM.out (by omega)).mono ?_; rintro e w' ⟨rfl, rfl⟩)
                  go_roundw
                  case rel => exact ⟨m + 1, _, _, _, _, by omega, by go_num, rfl, HF, ho', hb'⟩
                  case measure => simp [intOf]; omega
          · obtain rfl : m = M := by omega
            cases st with
            | none => exact absurd hst.out hfull.out
            | some c =>
              obtain ⟨ho, _⟩ := ho
              go_wp2_with fail
              go_ret2
              exact ⟨_, by rw [hst.out]; rfl, by rw [hst.out]; exact ho, hb⟩

end Go.Proofs.Ytokjamdikenkoaa
