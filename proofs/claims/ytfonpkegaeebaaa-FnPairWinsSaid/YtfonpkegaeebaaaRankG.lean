/- Contract: impl.DominantSet. No conditions beyond sizes. -/
import Derived.Test.YtfonpkegaeebaaaOnesC
namespace Go.Proofs.Ytfonpkegaeebaaa
open Go.RowKit
set_option linter.unusedVariables false
set_option linter.unusedSimpArgs false

theorem box1_set {w : World} {b : Nat} {x : Value} (h : BoxAt w b #[x]) (y : Value) : BoxAt (w.setCell ⟨b, 0, none⟩ y) b #[y] := by
  refine ⟨by simpa [World.setCell] using h.1, fun j => ?_, fun j => by simpa using h.2.2 j⟩
  by_cases he : 0 = j
  · subst he
    rw [World.cell?_setCell_same _ _ _ (u := x) (by rw [h.2.1 0]; rfl)]
    rfl
  · rw [World.cell?_setCell_other _ _ _ _ (by simp), h.2.1 j]
    cases j with
    | zero => omega
    | succ j => rfl

theorem BoxAt.belowB {w w' : World} {B b : Nat} {cs : Array Value} (h : BoxAt w b cs) (hb : Below B w w') (hB : b < B) : BoxAt w' b cs :=
  ⟨by have := hb.size; have := h.1; omega, fun i => (hb.cell (p := ⟨b, i, none⟩) hB).trans (h.2.1 i), fun i => (hb.frozen (p := ⟨b, i, none⟩) hB).trans (h.2.2 i)⟩
theorem i_Dom1 (x : Int) (N : Nat) (hN : N ≤ 5) (D : Nat) (hD : D < 32) (g : Nat) (w : World) (hx : x ∈ upFrom 0 N) (hB : BoxAt w g #[.int .i64 (D : Int)]) :
    Calls Try.prog 31 #[.int .i64 x, .pointer (some ⟨g, 0, none⟩)] w fun e w' => e = .returned (.bool (!D.testBit x.toNat)) ∧ Below w.heap.size w w' := by
  obtain ⟨a, ha, rfl⟩ : ∃ a : Nat, a < N ∧ x = a := by
    obtain ⟨i, hi, rfl⟩ := List.mem_iff_getElem.1 hx
    exact ⟨i, by simpa using hi, by rw [upFrom_get _ _ _ (by simpa using hi)]; omega⟩
  have hc := hB.cells 0
  simp only [Int.toNat_natCast]
  cases htb : D.testBit a with
  | false =>
    have hbit := bit_off htb
    clear htb hB hx
    go_enter Try.func31, Try.ntmps31
    go_wp2
    go_ret
    exact ⟨rfl, Below.refl _ _⟩
  | true =>
    have hbit := bit_on htb
    clear htb hB hx
    go_enter Try.func31, Try.ntmps31
    go_wp2
    go_ret
    exact ⟨rfl, Below.refl _ _⟩

/-- The table and the box of the best set, made in whatever order. -/
def DomAt (w wx : World) (N : Nat) (rs : List DRanking) (s t : Value) : Prop :=
  ∃ po pc g, s = .slice po N pc ∧ t = .pointer (some ⟨g, 0, none⟩) ∧ w.heap.size ≤ g ∧ BoxAt wx g #[.int .i64 ((2 ^ N - 1 : Nat) : Int)] ∧ TabOff g wx po N rs ∧ Below w.heap.size w wx

set_option maxRecDepth 100000 in
set_option maxHeartbeats 4000000 in
theorem i_DominantSet (n : Int) (v : Value) (rs : List DRanking) (w : World) (h : RanksAt w v rs) :
    Calls Try.prog 6 #[.int .i64 n, v] w fun e w' => ∃ p, e = .returned (.tuple #[p, .bool (domV n rs).2]) ∧ OwnInts w' w.heap.size p (domV n rs).1 ∧ Below w.heap.size w w' := by
  have HQ := i_IsElection n v rs w h
  obtain ⟨ao, cap, rfl⟩ := h.form
  cases hok : electOk n rs with
  | false =>
    have HR : domV n rs = ([], false) := by simp [domV, hok]
    rw [HR]
    rw [hok] at HQ
    have HQ' := Lib.hid HQ; clear HQ hok HR
    go_enter Try.func6, Try.ntmps6
    go_wp2_with (go_at_call 26; refine HQ'.out.mono ?_; rintro e w1 ⟨rfl, hb1⟩)
    go_ret2
    exact ⟨_, rfl, World.ownsRow_nil _ _ 3 1, hb1⟩
  | true =>
    rw [hok] at HQ
    have HQ' := Lib.hid HQ; clear HQ
    obtain ⟨N, rfl, hN1, hN5, hF⟩ := elect_facts hok
    obtain ⟨M, hM⟩ : ∃ M, M = 2 ^ N := ⟨_, rfl⟩
    have HR : domV (N : Int) rs = (pickL (domM rs N M) N, true) := by simp [domV, hok, hM]
    rw [HR]
    have HF := Lib.hid hF
    have hM1 : 1 ≤ M := by rw [hM]; exact Nat.one_le_two_pow
    have hM2 : M ≤ 32 := by rw [hM]; exact Nat.pow_le_pow_right (n := 2) (by omega) hN5
    have hMi : (2 : Int) ^ N = (M : Int) := by rw [hM]; push_cast; rfl
    have hMw : wrap64 ((2 : Int) ^ N) = (M : Int) := by rw [hMi]; exact IntWalk.wrap64_in _ (by omega)
    have hMw2 : IntKind.i64.wrap ((2 : Int) ^ N) = (M : Int) := by rw [hMi]; exact IntWalk.i64_in _ (by omega)
    have hMw3 : IntKind.i64.wrap ((M : Int) - 1) = ((M - 1 : Nat) : Int) := by rw [IntWalk.i64_in _ (by omega)]; omega
    have HM := Lib.hid hM
    clear HR hok hF hM hMi
    go_enter Try.func6, Try.ntmps6
    go_upto_region 3 with (go_at_call 26; refine HQ'.out.mono ?_; rintro e w1 ⟨rfl, hb1⟩)
    have h1 := h.below hb1
    have HP := Lib.hid (fun w' (hb : Below w1.heap.size w1 w') => i_pairTable N _ rs w' (h1.below hb) hN5 HF.out.1 HF.out.2.2)
    clear h h1
    go_cut [6, 7] (fun s t wx => DomAt w1 wx N rs s t)
    case first =>
      go_region_with (first
        | (go_at_call 27; refine (HP.out _ ?_).mono ?_; (first | exact Below.drew (Below.refl _ _) | go_grown); rintro e w2 ⟨p, rfl, ho, hb2⟩; obtain ⟨po, qc, hpf⟩ := ho.at_.form; rw [pairT_len] at hpf; subst hpf; (first | (have xb2 : BoxAt w2 w1.heap.size #[.int .i64 0] := BoxAt.below (by exact BoxAt.new w1 _ _) hb2; have xc2 := xb2.cells; have xf2 := xb2.free) | skip)))
      all_goals go_wp2_with fail
      all_goals go_meet
      · rw [HM.out]
        have hb2' : Below w1.heap.size w1 w2 := undrew hb2
        exact ⟨po, qc, w2.heap.size, rfl, rfl, hb2'.size, BoxAt.new _ _ _, (OwnTab.off ho (.inr (Nat.le_refl _))).keep ((OutOf.refl _ _ _).alloc _), hb2'.alloc hb2'.size _⟩
      · rw [HM.out]
        have hb2' : Below (w1.alloc (.cells #[.int .i64 0] 3)).heap.size (w1.alloc (.cells #[.int .i64 0] 3)) w2 := undrew hb2
        exact ⟨po, qc, w1.heap.size, rfl, rfl, Nat.le_refl _, box1_set xb2 _, (OwnTab.off ho (.inl (by simp))).keep ((OutOf.refl _ _ _).set _), (below_al hb2' (by simp)).trans ((OutOf.refl w1.heap.size (w1.heap.size + 1) w2).set _ |>.below (Nat.le_refl _) (below_al hb2' (by simp)).size)⟩
    case rest =>
      obtain ⟨po, qc, g, rfl, rfl, hgW, hbox, HT, hbW⟩ := hcut
      rename World => wx
      rw [← HM.out] at hbox
      clear HP
      have HTT := Lib.hid HT; clear HT
      have hgx := hbox.1
      have hb0 : Below w.heap.size w wx := below_step hb1 hbW |> fun h => h
      have hbox0 : BoxAt wx g #[.int .i64 (domM rs N 1 : Nat)] := by rw [domM_one, ← HM.out]; exact hbox
      clear hbox
      go_wp2_with fail
      go_loopw [8] (fun s wr => ∃ m : Nat, 1 ≤ m ∧ m ≤ M ∧ s = .int .i64 m ∧ BoxAt wr g #[.int .i64 (domM rs N m : Nat)] ∧ OutOf g (g + 1) wx wr) (fun s _ => M - (intOf s).toNat)
      case atStart => exact ⟨1, by omega, hM1, rfl, hbox0, OutOf.refl _ _ _⟩
      case round =>
        rename World => wa
        clear hbox0
        obtain ⟨m, hm1, hm, rfl, hbox, hoa⟩ := hrel
        have hDl := domM_lt rs N m (by rw [← HM.out]; exact hm)
        rw [← HM.out] at hDl
        by_cases hmM : m < M
        · have hD32 : domM rs N m < 32 := by omega
          have HTA : Hid (TabOff g wa po N rs) := HTT.out.keep hoa
          go_wp2_with fail
          go_loopw [9, 29] (fun f i wi => ∃ (a : Nat) (d : Bool), a ≤ N ∧ i = .int .i64 a ∧ f = .bool d ∧ Hid (domAB rs N m a 0 = d) ∧ ∃ nd, wa.drewN nd = wi) (fun _ i _ => N - (intOf i).toNat)
          case atStart => exact ⟨0, true, by omega, rfl, rfl, domAB_zero _ _ _, 0, rfl⟩
          case round =>
            rename World => wb
            obtain ⟨a, d, ha, rfl, rfl, hd, nd, rfl⟩ := hrel
            by_cases hat : a < N
            · go_wp2_with fail
              go_loopw [9, 33] (fun f i wi => ∃ (b : Nat) (d : Bool), b ≤ N ∧ i = .int .i64 b ∧ f = .bool d ∧ Hid (domAB rs N m a b = d) ∧ ∃ nd, wa.drewN nd = wi) (fun _ i _ => N - (intOf i).toNat)
              case atStart => exact ⟨0, d, by omega, rfl, rfl, hd, nd, rfl⟩
              case round =>
                rename World => wc
                clear hd
                obtain ⟨b, d, hb, rfl, rfl, hd, nd2, rfl⟩ := hrel
                by_cases hbt : b < N
                · have hdd := hd.out
                  have hstep := domAB_step rs N m a b
                  rw [hdd] at hstep
                  have ha0 : (0 : Int) ≤ (a : Int) := by omega
                  have ha1 : (a : Int) < (N : Int) := by omega
                  have hb0' : (0 : Int) ≤ (b : Int) := by omega
                  have hb1' : (b : Int) < (N : Int) := by omega
                  cases hta : m.testBit a with
                  | false =>
                    rw [okAB_off hta, Bool.and_true] at hstep
                    have HG := Lib.hid hstep
                    have hbit := bit_off hta
                    clear hd hdd hstep hta
                    go_wp2_with fail
                    go_quiet (fail)
                    go_wp2_with fail
                    go_roundw
                    case rel => exact ⟨b + 1, d, by omega, by go_num, rfl, HG, _, rfl⟩
                    case measure => simp [intOf]; omega
                  | true =>
                    cases htb : m.testBit b with
                    | true =>
                      rw [okAB_in htb, Bool.and_true] at hstep
                      have HG := Lib.hid hstep
                      have hbita := bit_on hta
                      have hbitb := bit_on htb
                      clear hd hdd hstep hta htb
                      go_wp2_with fail
                      go_quiet (fail)
                      go_wp2_with fail
                      go_roundw
                      case rel => exact ⟨b + 1, d, by omega, by go_num, rfl, HG, _, rfl⟩
                      case measure => simp [intOf]; omega
                    | false =>
                      rw [okAB_on hta htb] at hstep
                      obtain ⟨g0, gu, uc, hpo, n1, n2, l1, l2, c0, c1⟩ := HTA.out a b hat hbt
                      obtain ⟨g1, gv, vc, hpo', n3, n4, l3, l4, c2, c3⟩ := HTA.out b a hbt hat
                      subst hpo
                      simp only [Option.some.injEq, Addr.mk.injEq, and_true] at hpo'
                      subst hpo'
                      have hbita := bit_on hta
                      have hbitb := bit_off htb
                      cases hw : wins rs a b with
                      | true =>
                        rw [hw, Bool.and_true] at hstep
                        have HG := Lib.hid hstep
                        have hxy := hw
                        simp only [wins, decide_eq_true_eq] at hxy
                        generalize partP rs (a : Int) (b : Int) rs.length = x at *
                        generalize partP rs (b : Int) (a : Int) rs.length = y at *
                        have hxd : decide (x ≤ y) = false := decide_eq_false (by omega)
                        clear hd hdd hstep hta htb hw
                        go_wp2_with fail
                        go_quiet (fail)
                        go_wp2_with fail
                        go_roundw
                        case rel => exact ⟨b + 1, d, by omega, by go_num, rfl, HG, _, rfl⟩
                        case measure => simp [intOf]; omega
                      | false =>
                        rw [hw, Bool.and_false] at hstep
                        have HG := Lib.hid hstep
                        have hxy := hw
                        simp only [wins, decide_eq_false_iff_not] at hxy
                        generalize partP rs (a : Int) (b : Int) rs.length = x at *
                        generalize partP rs (b : Int) (a : Int) rs.length = y at *
                        have hxy2 : x ≤ y := by omega
                        clear hd hdd hstep hta htb hw hxy
                        go_wp2_with fail
                        go_quiet (fail)
                        go_wp2_with fail
                        go_roundw
                        case rel => exact ⟨b + 1, false, by omega, by go_num, rfl, HG, _, rfl⟩
                        case measure => simp [intOf]; omega
                · obtain rfl : N = b := by omega
                  have hd' := hd.out
                  rw [domAB_next] at hd'
                  have HG := Lib.hid hd'
                  clear hd hd'
                  go_wp2_with fail
                  go_roundw
                  case rel => exact ⟨a + 1, d, by omega, by go_num, rfl, HG, nd2, rfl⟩
                  case measure => simp [intOf]; omega
            · obtain rfl : N = a := by omega
              have hd' := hd.out
              rw [domAB_done] at hd'
              have hboxd : BoxAt (wa.drewN nd) g #[.int .i64 (domM rs N m : Nat)] := hbox
              have hod : OutOf g (g + 1) wx (wa.drewN nd) := ⟨hoa.os, hoa.tape, hoa.output, hoa.size, hoa.block⟩
              clear hd HTA hbox hoa
              generalize wa.drewN nd = wd at *
              have hc := hboxd.cells 0
              have hf := hboxd.free 0
              have hum : IntKind.u64.wrap (m : Int) = (m : Int) := by rw [IntKind.wrap_u64]; omega
              have huD : IntKind.u64.wrap (domM rs N m : Int) = (domM rs N m : Int) := by rw [IntKind.wrap_u64]; omega
              have hp1 := pc_five N hN5 m (by rw [← HM.out]; exact hmM)
              have hp2 := pc_five N hN5 (domM rs N m) (by rw [← HM.out]; exact hDl)
              cases d with
              | false =>
                have HD : Hid (domM rs N (m + 1) = domM rs N m) := domM_no hd'
                clear hd' hp1 hp2
                go_wp2_with fail
                go_quiet ((go_at_call 28; exact quiet_eq (OnesCount_c _ (by omega) _)))
                go_wp2_with fail
                go_roundw
                case rel => exact ⟨m + 1, by omega, by omega, by go_num, by rw [HD.out]; exact hboxd, ⟨hod.os, hod.tape, hod.output, hod.size, hod.block⟩⟩
                case measure => simp [intOf]; omega
              | true =>
                by_cases hlt : pc N m < pc N (domM rs N m)
                · have HD : Hid (domM rs N (m + 1) = m) := domM_take hm1 hd' hlt
                  rw [hp1, hp2] at hlt
                  have hnew := box1_set hboxd (.int .i64 (m : Int))
                  have hon := hod.set (i := 0) (.int .i64 (m : Int))
                  clear hd' hp1 hp2
                  generalize domM rs N m = X at *
                  go_wp2_with fail
                  go_quiet ((go_at_call 28; exact quiet_eq (OnesCount_c _ (by omega) _)))
                  go_wp2_with fail
                  go_roundw
                  case rel => exact ⟨m + 1, by omega, by omega, by go_num, by rw [HD.out]; exact hnew, ⟨hon.os, hon.tape, hon.output, hon.size, hon.block⟩⟩
                  case measure => simp [intOf]; omega
                · have HD : Hid (domM rs N (m + 1) = domM rs N m) := domM_big hlt
                  rw [hp1, hp2] at hlt
                  have hltd : decide (pc 5 m < pc 5 (domM rs N m)) = false := decide_eq_false hlt
                  clear hd' hp1 hp2
                  generalize domM rs N m = X at *
                  go_wp2_with fail
                  go_quiet ((go_at_call 28; exact quiet_eq (OnesCount_c _ (by omega) _)))
                  go_wp2_with fail
                  go_roundw
                  case rel => exact ⟨m + 1, by omega, by omega, by go_num, by rw [HD.out]; exact hboxd, ⟨hod.os, hod.tape, hod.output, hod.size, hod.block⟩⟩
                  case measure => simp [intOf]; omega
        · obtain rfl : m = M := by omega
          have hba : Below w.heap.size w wa := hb0.trans (hoa.below (Nat.le_trans hb1.size hgW) hb0.size)
          have hkeep := keep_pickL (domM rs N m) N
          have HK := Lib.hid hkeep; clear hkeep
          have hD32 : domM rs N m < 32 := by omega
          have hga := hbox.1
          have hcf : Enters Try.prog 31 := enters_of Try.func31 (by kernel_rfl) rfl
          go_wp2_with (first
            | (go_at_call 30; refine (i_upTo N _ (by omega)).mono ?_; rintro e w3 ⟨p3, rfl, ho3, hb3⟩; obtain ⟨a3, k3, hp3⟩ := ho3.at_.form; rw [upFrom_length] at hp3; subst hp3; have hb3' := below_step hba hb3)
            | (go_at_call 29; with_reducible refine (DeleteFunc_intM _ hcf [.pointer (some ⟨g, 0, none⟩)] (fun x => !(domM rs N m).testBit x.toNat) _ _ (upFrom 0 N) _ ho3 hb3.size (fun x w' hx hb => i_Dom1 x N hN5 (domM rs N m) hD32 g w' hx (BoxAt.belowB (hbox.below hb3) hb hga))).mono ?_; rintro e w4 ⟨p4, rfl, ho4, hb4⟩; rw [HK.out] at ho4; obtain ⟨a4, k4, rfl⟩ := ho4.at_.form))
          go_ret2
          refine ⟨_, rfl, ?_, hb3'.trans (hb4.mono hba.size)⟩
          exact own_base ho4 hba.size

end Go.Proofs.Ytfonpkegaeebaaa
