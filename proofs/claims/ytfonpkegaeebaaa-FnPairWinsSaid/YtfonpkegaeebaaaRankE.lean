/- Contract: spec.DominantSet. No conditions beyond sizes. -/
import Derived.Test.YtfonpkegaeebaaaRankD
namespace Go.Proofs.Ytfonpkegaeebaaa
open Go.RowKit
set_option linter.unusedVariables false
set_option linter.unusedSimpArgs false

def gB (rs : List DRanking) (N m : Nat) (p : Bool) (i b : Nat) : Bool := p && domIB rs N m (pickL m N) i b
theorem gB_zero (rs : List DRanking) (N m : Nat) (p : Bool) : gB rs N m p 0 0 = p := by simp [gB, domIB]
theorem gB_step {rs : List DRanking} {N m i b : Nat} {p g : Bool} (h : gB rs N m p i b = g) (hg : g = false) : gB rs N m p i (b + 1) = false := by
  subst hg
  unfold gB at h ⊢
  rw [domIB_step, ← Bool.and_assoc, h]; rfl
theorem gB_ok {rs : List DRanking} {N m i b : Nat} {p c : Bool} (h : gB rs N m p i b = true) (hc : okI rs m ((pickL m N).getD i 0) b = c) : gB rs N m p i (b + 1) = c := by
  unfold gB at h ⊢
  rw [domIB_step, ← Bool.and_assoc, h, hc]; rfl
theorem gB_next {rs : List DRanking} {N m i : Nat} {p : Bool} (h : i < (pickL m N).length) : gB rs N m p i N = gB rs N m p (i + 1) 0 := by unfold gB; rw [domIB_next _ _ _ _ _ h]
theorem gB_done {rs : List DRanking} {N m : Nat} {p : Bool} : gB rs N m p (pickL m N).length 0 = (p && domB rs N m) := by unfold gB; rw [domIB_done]

theorem IntsAt.drewN {w : World} {v : Value} {xs : List Int} (h : IntsAt w v xs) (n : Nat) : IntsAt (w.drewN n) v xs := h
theorem s_l1Has_is (v : Value) (xs : List Int) (n : Int) (c : Bool) (w : World) (h : IntsAt w v xs) (hc : Hid (hasB xs n = c)) :
    Calls Try.prog 35 #[v, .int .i64 n] w fun e w' => e = .returned (.bool c) ∧ w = w' := by
  have := s_l1Has v xs n w h
  rw [hc.out] at this
  exact this

set_option maxRecDepth 100000 in
set_option maxHeartbeats 4000000 in
theorem s_DominantSet (n : Int) (v : Value) (rs : List DRanking) (w : World) (h : RanksAt w v rs) :
    Calls Try.prog 7 #[.int .i64 n, v] w fun e w' => ∃ p, e = .returned (.tuple #[p, .bool (domV n rs).2]) ∧ OwnInts w' w.heap.size p (domV n rs).1 ∧ Below w.heap.size w w' := by
  have HQ := s_l13Good n v rs w h
  obtain ⟨ao, cap, rfl⟩ := h.form
  have fin0 : ∀ w1, Below w.heap.size w w1 → OwnInts (w1.alloc (.cells #[] 3)) w.heap.size (.slice (some ⟨w1.heap.size, 0, none⟩) 0 0) [] ∧ Below w.heap.size w (w1.alloc (.cells #[] 3)) := fun w1 hb => ⟨own_base (own_lit0 w1 3) hb.size, hb.alloc hb.size _⟩
  cases hok : electOk n rs with
  | false =>
    have HR : domV n rs = ([], false) := by simp [domV, hok]
    rw [HR]
    rw [hok] at HQ
    have HQ' := Lib.hid HQ; clear HQ hok HR
    go_enter Try.func7, Try.ntmps7
    go_wp2_with (go_at_call 32; refine HQ'.out.mono ?_; rintro e w1 ⟨rfl, hb1⟩)
    go_ret2
    exact ⟨_, rfl, fin0 _ hb1⟩
  | true =>
    clear fin0
    rw [hok] at HQ
    have HQ' := Lib.hid HQ; clear HQ
    obtain ⟨N, rfl, hN1, hN5, hF⟩ := elect_facts hok
    obtain ⟨M, hM⟩ : ∃ M, M = 2 ^ N := ⟨_, rfl⟩
    have HR : domV (N : Int) rs = (pickL (domM rs N M) N, true) := by simp [domV, hok, hM]
    rw [HR]
    have HF := Lib.hid hF
    have hM1 : 1 ≤ M := by rw [hM]; exact Nat.one_le_two_pow
    have hM2 : M ≤ 32 := by rw [hM]; exact Nat.pow_le_pow_right (n := 2) (by omega) hN5
    have hMw : wrap64 ((2 : Int) ^ N) = (M : Int) := by rw [hM]; push_cast; exact IntWalk.wrap64_in _ (by have : (2 : Int) ^ N = (M : Int) := by { rw [hM]; push_cast; rfl }; omega)
    have hone : Hid (upFrom 0 N = pickL (domM rs N 1) N) := by rw [Hid, domM_one, pickL_full N N (Nat.le_refl _)]
    have HM := Lib.hid hM
    clear HR hok hF hM
    go_enter Try.func7, Try.ntmps7
    go_wp2_with (first | (go_at_call 32; refine HQ'.out.mono ?_; rintro e w1 ⟨rfl, hb1⟩) | (go_at_call 33; refine (s_l13Pairs N _ rs _ (h.below hb1) hN5 HF.out.1 HF.out.2.1).mono ?_; rintro e w2 ⟨p2, rfl, ho2, hb2⟩; obtain ⟨po, qc, hpf⟩ := ho2.at_.form; rw [pairT_len] at hpf; subst hpf; have hb2' := below_step hb1 hb2) | (go_at_call 34; refine (s_l13All N _ (by omega)).mono ?_; rintro e w3 ⟨p3, rfl, ho3, hb3⟩))
    rw [hone.out] at ho3
    have hb3' := below_step hb2' hb3
    have HO : Hid (OwnTab w3 w1.heap.size (.slice po N qc) (pairT N rs N)) := OwnNest.below ho2 hb3
    have ho3' := own_base ho3 hb2'.size
    clear ho2 ho3 h
    go_loopw [7, 8] (fun u s wr => ∃ m : Nat, 1 ≤ m ∧ m ≤ M ∧ s = .int .i64 m ∧ OwnInts wr w.heap.size u (pickL (domM rs N m) N) ∧ Below w3.heap.size w3 wr) (fun _ s _ => M - (intOf s).toNat)
    case atStart => exact ⟨1, by omega, hM1, rfl, ho3', Below.refl _ _⟩
    case round =>
      rename World => wa
      clear ho3'
      obtain ⟨m, hm1, hm, rfl, ho, hba⟩ := hrel
      by_cases hmM : m < M
      · obtain ⟨ab, kb, rfl⟩ := ho.at_.form
        go_wp2_with fail
        simp only [hMw]
        go_loopw [9, 10] (fun u i wi => ∃ k : Nat, k ≤ N ∧ i = .int .i64 k ∧ OwnInts wi wa.heap.size u (pickL m k) ∧ Below wa.heap.size wa wi) (fun _ i _ => N - (intOf i).toNat)
        case atStart => exact ⟨0, by omega, rfl, own_lit0 _ _, (Below.refl _ _).alloc (Nat.le_refl _) _⟩
        case round =>
          rename World => wb
          obtain ⟨k, hk, rfl, ho4, hb4⟩ := hrel
          have hpl := pickL_len m k
          by_cases hlt : k < N
          · cases htb : m.testBit k with
            | false =>
              have hbit := bit_off htb
              have HL : Hid (pickL m (k + 1) = pickL m k) := by simp [Hid, pickL, htb]
              clear htb
              go_wp2_with fail
              go_roundw
              case rel => exact ⟨k + 1, by omega, by go_num, by rw [HL.out]; exact ho4, hb4⟩
              case measure => simp [intOf]; omega
            | true =>
              have hbit := bit_on htb
              have HL : Hid (pickL m (k + 1) = pickL m k ++ [(k : Int)]) := by simp [Hid, pickL, htb]
              clear htb
              go_wp2_with (at_builtin; refine wpList_push_int rfl (.tmp 43) (.tmp 45) _ rfl _ 3 _ int_info Try.underlying27 _ _ (k : Int) rfl ho4 rfl hb4.size (by omega) ?_; intro u' w5 ho5 hb5; have hc5 := hb4.trans hb5)
              go_roundw
              case rel => exact ⟨k + 1, by omega, by go_num, by rw [HL.out]; exact ho5, hc5⟩
              case measure => simp [intOf]; omega
          · obtain rfl : k = N := by omega
            obtain ⟨a4, k4, rfl⟩ := ho4.at_.form
            have hbb := below_step hba hb4
            obtain ⟨p, hp⟩ : ∃ p : Bool, p = decide ((pickL m k).length < (pickL (domM rs k m) k).length) := ⟨_, rfl⟩
            have hp' : decide ((pickL m k).length < (pickL (domM rs k m) k).length) = p := hp.symm
            have HP := Lib.hid hp; clear hp
            have hg0 : Hid (gB rs k m p 0 0 = p) := gB_zero _ _ _ _
            go_wp2_with fail
            go_loopw [11, 12] (fun f i wi => ∃ (i' : Nat) (g : Bool), i' ≤ (pickL m k).length ∧ i = .int .i64 i' ∧ f = .bool g ∧ Hid (gB rs k m p i' 0 = g) ∧ Below wb.heap.size wb wi) (fun _ i _ => (pickL m k).length - (intOf i).toNat)
            case atStart => exact ⟨0, p, by omega, rfl, rfl, hg0, Below.refl _ _⟩
            case round =>
              rename World => wc
              obtain ⟨i', g, hi, rfl, rfl, hg, hbc⟩ := hrel
              by_cases hit : i' < (pickL m k).length
              · go_wp2_with fail
                go_loopw [11, 13] (fun f i wi => ∃ (b : Nat) (g : Bool), b ≤ k ∧ i = .int .i64 b ∧ f = .bool g ∧ Hid (gB rs k m p i' b = g) ∧ Below wb.heap.size wb wi) (fun _ i _ => k - (intOf i).toNat)
                case atStart => exact ⟨0, g, by omega, rfl, rfl, hg, hbc⟩
                case round =>
                  rename World => wd
                  clear hg
                  obtain ⟨b, g, hb, rfl, rfl, hg, hbd⟩ := hrel
                  by_cases hbt : b < k
                  · have hmm := List.getElem_mem hit
                    obtain ⟨a, ha1, ha2, ha3⟩ := mem_pickL.1 hmm
                    have hgd : (pickL m k).getD i' 0 = (a : Int) := by rw [getD_eqy hit, ha3]
                    have ho4d := OwnI.below ho4 hbd
                    obtain ⟨_, _, _, hv4, _, _, hc4⟩ := ho4d.at_
                    obtain ⟨g4, of4, rfl, hg4, hcs4⟩ := hc4 (by omega)
                    cases hv4
                    have c4 := hcs4.int hit
                    rw [ha3] at c4
                    have hoc := OwnNest.below HO.out (below_step hbb hbd)
                    obtain ⟨gt, off, gu, ou, uc, hpo, c0, c1⟩ := OwnTab.cell hoc ha1 hbt
                    obtain ⟨gt', off', gv, ov, vc, hpo', c2, c3⟩ := OwnTab.cell hoc hbt ha1
                    subst hpo
                    simp only [Option.some.injEq, Addr.mk.injEq, and_true] at hpo'
                    obtain ⟨rfl, rfl⟩ := hpo'
                    have hx0 : (0 : Int) ≤ (a : Int) := by omega
                    have hx1 : (a : Int) < (k : Int) := by omega
                    have hb0 : (0 : Int) ≤ (b : Int) := by omega
                    have hb1' : (b : Int) < (k : Int) := by omega
                    have hi0 : (0 : Int) ≤ (i' : Int) := by omega
                    have hi1 : (i' : Int) < ((pickL m k).length : Int) := by omega
                    have hhas := has_pickL (m := m) hbt
                    have hI4 := ho4d.at_
                    cases g with
                    | false =>
                      have HG : Hid (gB rs k m p i' (b + 1) = false) := gB_step hg.out rfl
                      clear hg hhas c0 c1 c2 c3 c4 hgd ha3
                      go_wp2_with fail
                      go_quiet (fail)
                      go_wp2_with fail
                      go_roundw
                      case rel => exact ⟨b + 1, false, by omega, by go_num, rfl, HG, Below.drewN' hbd _⟩
                      case measure => simp [intOf]; omega
                    | true =>
                      cases htb : m.testBit b with
                      | true =>
                        have HG : Hid (gB rs k m p i' (b + 1) = true) := gB_ok hg.out (by simp [okI, htb])
                        have HH := Lib.hid (hhas.trans htb)
                        clear hg hhas c0 c1 c2 c3 c4 hgd ha3 htb
                        go_wp2_with fail
                        go_quiet ((go_at_call 35; exact quiet_eq (s_l1Has_is _ _ _ _ _ (hI4.drewN _) HH)))
                        go_wp2_with fail
                        go_roundw
                        case rel => exact ⟨b + 1, true, by omega, by go_num, rfl, HG, Below.drewN' hbd _⟩
                        case measure => simp [intOf]; omega
                      | false =>
                        have HH := Lib.hid (hhas.trans htb)
                        have hwin : okI rs m ((pickL m k).getD i' 0) b = wins rs a b := by rw [hgd]; simp [okI, htb]
                        cases hw : wins rs a b with
                        | true =>
                          have HG : Hid (gB rs k m p i' (b + 1) = true) := gB_ok hg.out (hwin.trans hw)
                          have hxy := hw
                          simp only [wins, decide_eq_true_eq] at hxy
                          generalize partP rs (a : Int) (b : Int) rs.length = x at *
                          generalize partP rs (b : Int) (a : Int) rs.length = y at *
                          clear hg hhas hgd ha3 htb hwin hw
                          go_wp2_with fail
                          go_quiet ((go_at_call 35; exact quiet_eq (s_l1Has_is _ _ _ _ _ (hI4.drewN _) HH)))
                          go_wp2_with fail
                          go_roundw
                          case rel => exact ⟨b + 1, true, by omega, by go_num, rfl, HG, Below.drewN' hbd _⟩
                          case measure => simp [intOf]; omega
                        | false =>
                          have HG : Hid (gB rs k m p i' (b + 1) = false) := gB_ok hg.out (hwin.trans hw)
                          have hxy := hw
                          simp only [wins, decide_eq_false_iff_not] at hxy
                          generalize partP rs (a : Int) (b : Int) rs.length = x at *
                          generalize partP rs (b : Int) (a : Int) rs.length = y at *
                          have hxd : decide (y < x) = false := decide_eq_false hxy
                          clear hg hhas hgd ha3 htb hwin hw
                          go_wp2_with fail
                          go_quiet ((go_at_call 35; exact quiet_eq (s_l1Has_is _ _ _ _ _ (hI4.drewN _) HH)))
                          go_wp2_with fail
                          go_roundw
                          case rel => exact ⟨b + 1, false, by omega, by go_num, rfl, HG, Below.drewN' hbd _⟩
                          case measure => simp [intOf]; omega
                  · obtain rfl : k = b := by omega
                    have hg' := hg.out
                    rw [gB_next hit] at hg'
                    have HG := Lib.hid hg'
                    clear hg hg'
                    go_wp2_with fail
                    go_roundw
                    case rel => exact ⟨i' + 1, g, by omega, by go_num, rfl, HG, hbd⟩
                    case measure => simp [intOf]; omega
              · obtain rfl : i' = (pickL m k).length := by omega
                have hg' := hg.out
                rw [gB_done] at hg'
                cases g with
                | false =>
                  have HD : Hid (domM rs k (m + 1) = domM rs k m) := by
                    cases hp2 : p with
                    | false => rw [hp2] at HP; exact domM_big (by have := HP.out; unfold pc; simpa using this)
                    | true => rw [hp2] at hg'; exact domM_no (by simpa using hg')
                  clear hg hg'
                  go_wp2_with fail
                  go_roundw
                  case rel => exact ⟨m + 1, by omega, by omega, by go_num, by rw [HD.out]; exact OwnI.below (OwnI.below ho hb4) hbc, below_step hbb hbc⟩
                  case measure => simp [intOf]; omega
                | true =>
                  simp only [Bool.and_eq_true] at hg'
                  have HD : Hid (domM rs k (m + 1) = m) := domM_take hm1 hg'.2 (by have := HP.out; rw [hg'.1] at this; unfold pc; simpa using this.symm)
                  clear hg hg'
                  go_wp2_with fail
                  go_roundw
                  case rel => exact ⟨m + 1, by omega, by omega, by go_num, by rw [HD.out]; exact OwnI.below (own_base ho4 (Nat.le_trans hb3'.size hba.size)) hbc, below_step hbb hbc⟩
                  case measure => simp [intOf]; omega
      · obtain rfl : m = M := by omega
        go_wp2_with fail
        go_ret2
        exact ⟨_, rfl, ho, hb3'.trans (hba.mono hb3'.size)⟩

end Go.Proofs.Ytfonpkegaeebaaa
