/- Contracts: whether voters are valid, as the program tells; HolderFor, ProxySteps. No conditions beyond sizes. -/
import Derived.Test.YtapkicfbknoioaaVoteL
import Derived.Test.YtapkicfbknoioaaBw
namespace Go.Proofs.Ytapkicfbknoioaa
open Go.RowKit
set_option linter.unusedVariables false
set_option linter.unusedSimpArgs false

/-- The program's order of proxies: none to the voter himself. -/
def proxOkI (n : Int) : Option Int → List DProxy → Bool
  | _, [] => true
  | pv, p :: r => inB p.fr 0 (n - 1) && inB p.to 0 (n - 1) && !(p.fr == p.to) && (match pv with | none => true | some y => decide (y < p.fr)) && proxOkI n (some p.fr) r
theorem proxOkI_of {n : Int} {ps : List DProxy} : ∀ {pv : Option Int}, proxOkI n pv ps = (proxOk n pv ps && ps.all (fun p => !(p.fr == p.to))) := by
  induction ps with
  | nil => intro pv; rfl
  | cons q r ih =>
    intro pv
    simp only [proxOkI, proxOk, ih, List.all_cons]
    cases pv <;> cases inB q.fr 0 (n - 1) <;> cases inB q.to 0 (n - 1) <;> cases (q.fr == q.to) <;> simp [Bool.and_assoc]
theorem votersOk_I (d : DVoters) : votersOk d = (decide (d.weights.length ≤ 12) && okW d.weights && proxOkI d.weights.length none d.proxies && stepsAll d.proxies d.proxies) := by
  rw [proxOkI_of]
  unfold votersOk
  cases hp : proxOk (d.weights.length : Int) none d.proxies with
  | false => simp
  | true =>
    cases ha : d.proxies.all (fun p => !(p.fr == p.to)) with
    | true => simp
    | false =>
      simp only [List.all_eq_false] at ha
      obtain ⟨p, hm, he⟩ := ha
      have := self_bad hp hm (by simpa using he)
      rw [this]
      simp

theorem i_AreVoters1 (x : Int) (w : World) :
    Calls Try.prog 73 #[.int .i64 x] w fun e w' => e = .returned (.bool (!inB x 0 100)) ∧ w = w' := by
  go_enter Try.func73, Try.ntmps73
  go_wp2_with (go_at_call 61; refine (i_inside _ _ _ _).mono ?_; rintro e w' ⟨rfl, rfl⟩)
  go_ret
  exact ⟨rfl, rfl⟩

set_option maxHeartbeats 4000000 in
theorem i_AreVoters (v u : Value) (d : DVoters) (w : World) (h : VotersAt w v u d) (hn : d.weights.length ≤ 1048576 ∧ d.proxies.length ≤ 1048576) :
    Calls Try.prog 32 #[vVoters v u] w fun e w' => e = .returned (.bool (votersOk d)) ∧ Below w.heap.size w w' := by
  have HV := Lib.hid (votersOk_I d)
  obtain ⟨hn1, hn2⟩ := hn
  obtain ⟨ao, cap, ao', cap', rfl, rfl⟩ := h.form
  obtain ⟨W, hW⟩ : ∃ W, W = w.alloc (.cells #[.slice ao d.weights.length cap, .slice ao' d.proxies.length cap'] 29) := ⟨_, rfl⟩
  have bA : BoxAt W w.heap.size #[.slice ao d.weights.length cap, .slice ao' d.proxies.length cap'] := by rw [hW]; exact BoxAt.new _ _ _
  have hWb : Below w.heap.size w W := by rw [hW]; go_grown
  have hI := h.below hWb
  have HW := Lib.hid hW; clear hW
  have a0 := bA.cells
  obtain ⟨h3, g3⟩ := hI.parts
  have hcl := ContainsFunc_int 73 (enters_of Try.func73 (by kernel_rfl) (by kernel_rfl)) [] (fun x => !inB x 0 100) _ d.weights W hI.1 (fun x w' hb => (i_AreVoters1 x w').mono fun e w'' ⟨he, hw⟩ => ⟨he, hw ▸ Below.refl _ _⟩)
  by_cases h12 : d.weights.length ≤ 12
  case neg =>
    have HD : Hid (votersOk d = false) := by simp [Hid, votersOk, h12]
    clear hcl
    go_enter Try.func32, Try.ntmps32
    go_wp2_with fail
    rw [← HW.out]
    go_wp2_with fail
    go_ret
    exact ⟨ret_bool HD.out.symm, hWb⟩
  case pos =>
    cases hany : d.weights.any (fun x => !inB x 0 100) with
    | true =>
      have HD : Hid (votersOk d = false) := by simp [Hid, votersOk, okW, hany]
      rw [hany] at hcl
      have HC := Lib.hid hcl; clear hcl hany
      go_enter Try.func32, Try.ntmps32
      go_wp2_with fail
      rw [← HW.out]
      go_wp2_with (go_at_call 59; refine HC.out.mono ?_; rintro e w1 ⟨rfl, hb1⟩)
      go_ret
      exact ⟨ret_bool HD.out.symm, hWb.trans (hb1.mono hWb.size)⟩
    | false =>
      have HOW : Hid (okW d.weights = true) := by simp [Hid, okW, hany]
      rw [hany] at hcl
      have HC := Lib.hid hcl; clear hcl hany
      go_enter Try.func32, Try.ntmps32
      go_wp2_with fail
      rw [← HW.out]
      go_wp2_with (go_at_call 59; refine HC.out.mono ?_; rintro e w1 ⟨rfl, hb1⟩; have a1 := (bA.below hb1).cells)
      go_loopw [21] (fun i wr => ∃ k : Nat, k ≤ d.proxies.length ∧ i = .int .i64 k ∧ Hid (proxOkI d.weights.length none d.proxies = proxOkI d.weights.length (prevF d.proxies k) (d.proxies.drop k)) ∧ Below W.heap.size W wr) (fun i _ => d.proxies.length - (intOf i).toNat)
      case atStart => exact ⟨0, by omega, rfl, by simp [Hid, prevF], hb1⟩
      case round =>
        obtain ⟨k, hk, rfl, hd, hb⟩ := hrel
        have hd' := hd.out
        clear hd
        have bR := bA.below hb
        have ar := bR.cells
        have hfin : Below w.heap.size w wr := hWb.trans (hb.mono hWb.size)
        by_cases hlt : k < d.proxies.length
        · obtain ⟨b, off, rfl, h4, h5⟩ := g3 (by omega)
          have hcs := CellsAt.below h5 hb h4
          obtain ⟨c0, c1⟩ := hcs.prox hlt
          obtain ⟨W1, hW1⟩ : ∃ W1, W1 = wr.alloc (.cells #[.int .i64 d.proxies[k].fr, .int .i64 d.proxies[k].to] 61) := ⟨_, rfl⟩
          have bP : BoxAt W1 wr.heap.size #[.int .i64 d.proxies[k].fr, .int .i64 d.proxies[k].to] := by rw [hW1]; exact BoxAt.new _ _ _
          have hnew' : Below wr.heap.size wr W1 := by rw [hW1]; go_grown
          have hnew : Below W.heap.size W W1 := below_step hb hnew'
          have hfin1 : Below w.heap.size w W1 := hWb.trans (hnew.mono hWb.size)
          have hI1 := h.below hfin1
          have rP := BW.box bP
          have rA := BW.box (bR.below hnew')
          have hbw : b < W1.heap.size := by have := hb.size; have := hnew'.size; omega
          have HW1 := Lib.hid hW1; clear hW1
          rw [drop_at hlt] at hd'
          simp only [proxOkI] at hd'
          have hs := prevF_succ d.proxies k hlt
          have hwl : IntKind.i64.wrap ((d.weights.length : Int) - 1) = (d.weights.length : Int) - 1 := IntWalk.i64_in _ (by omega)
          have hvf := fun x : BW W1 => i_hasVoter _ _ d d.proxies[k].fr x.w (hI1.below x.h)
          have hvt := fun x : BW W1 => i_hasVoter _ _ d d.proxies[k].to x.w (hI1.below x.h)
          cases hf : inB d.proxies[k].fr 0 ((d.weights.length : Int) - 1) with
          | false =>
            have HD : Hid (votersOk d = false) := by simp only [Hid, HV.out, hd', hf]; simp
            simp only [hf] at hvf
            have HVF := Lib.hid hvf; clear hvf
            clear hd' hs hf
            generalize d.proxies[k].fr = f at *
            generalize d.proxies[k].to = t at *
            go_wp2_with fail
            rw [← HW1.out]
            refine wp_region_bw (by kernel_rfl) (by kernel_rfl) ?_
            repeat (first
              | go_big_quiet_skip
              | (go_big_quiet_want; go_big_quiet_op; first | go_big_quiet_on | (apply Exists.intro; refine ⟨fun _ => ?_, ?_⟩; (first | (go_at_call_of 70 (Value.int .i64 f); exact BW.call (HVF.out _))); go_big_quiet_on)))
            refine wpQuiet_nil ?_
            rintro _ ⟨xq, rfl⟩
            have hbm := xq.h
            have hbn := xq.h
            go_wp2_with fail
            go_ret
            exact ⟨ret_bool HD.out.symm, hfin1.trans (hbn.mono hfin1.size)⟩
          | true =>
            simp only [hf] at hvf
            have HVF := Lib.hid hvf; clear hvf
            cases ht : inB d.proxies[k].to 0 ((d.weights.length : Int) - 1) with
            | false =>
              have HD : Hid (votersOk d = false) := by simp only [Hid, HV.out, hd', ht]; simp
              simp only [ht] at hvt
              have HVT := Lib.hid hvt; clear hvt
              clear hd' hs hf ht
              generalize d.proxies[k].fr = f at *
              generalize d.proxies[k].to = t at *
              go_wp2_with fail
              rw [← HW1.out]
              refine wp_region_bw (by kernel_rfl) (by kernel_rfl) ?_
              repeat (first
                | go_big_quiet_skip
                | (go_big_quiet_want; go_big_quiet_op; first | go_big_quiet_on | (apply Exists.intro; refine ⟨fun _ => ?_, ?_⟩; (first | (go_at_call_of 70 (Value.int .i64 f); exact BW.call (HVF.out _)) | (go_at_call_of 70 (Value.int .i64 t); exact BW.call (HVT.out _))); go_big_quiet_on)))
              refine wpQuiet_nil ?_
              rintro _ ⟨xq, rfl⟩
              have hbm := xq.h
              have hbn := xq.h
              go_wp2_with fail
              go_ret
              exact ⟨ret_bool HD.out.symm, hfin1.trans (hbm.mono hfin1.size)⟩
            | true =>
              simp only [ht] at hvt
              have HVT := Lib.hid hvt; clear hvt
              by_cases heq : d.proxies[k].fr = d.proxies[k].to
              · have HD : Hid (votersOk d = false) := by simp only [Hid, HV.out, hd', heq]; simp
                have heb : (d.proxies[k].fr == d.proxies[k].to) = true := by simp [heq]
                clear hd' hs hf ht heq
                generalize d.proxies[k].fr = f at *
                generalize d.proxies[k].to = t at *
                go_wp2_with fail
                rw [← HW1.out]
                refine wp_region_bw (by kernel_rfl) (by kernel_rfl) ?_
                repeat (first
                  | go_big_quiet_skip
                  | (go_big_quiet_want; go_big_quiet_op; first | go_big_quiet_on | (apply Exists.intro; refine ⟨fun _ => ?_, ?_⟩; (first | (go_at_call_of 70 (Value.int .i64 f); exact BW.call (HVF.out _)) | (go_at_call_of 70 (Value.int .i64 t); exact BW.call (HVT.out _))); go_big_quiet_on)))
                refine wpQuiet_nil ?_
                rintro _ ⟨xq, rfl⟩
                have hbm := xq.h
                have hbn := xq.h
                go_wp2_with fail
                go_ret
                exact ⟨ret_bool HD.out.symm, hfin1.trans (hbm.mono hfin1.size)⟩
              · have heb : (d.proxies[k].fr == d.proxies[k].to) = false := by simp [heq]
                by_cases hk0 : k = 0
                · subst hk0
                  have HD : Hid (proxOkI d.weights.length none d.proxies = proxOkI d.weights.length (prevF d.proxies 1) (d.proxies.drop 1)) := by rw [hs]; simpa [Hid, prevF, hf, ht, heb] using hd'
                  have hg : decide ((0 : Int) < ((0 : Nat) : Int)) = false := by simp
                  simp only [Nat.zero_mul, Nat.add_zero] at c0 c1
                  clear hd' hs hf ht heq
                  generalize d.proxies[0].fr = f at *
                  generalize d.proxies[0].to = t at *
                  go_wp2_with fail
                  rw [← HW1.out]
                  refine wp_region_bw (by kernel_rfl) (by kernel_rfl) ?_
                  repeat (first
                    | go_big_quiet_skip
                    | (go_big_quiet_want; go_big_quiet_op; first | go_big_quiet_on | (apply Exists.intro; refine ⟨fun _ => ?_, ?_⟩; (first | (go_at_call_of 70 (Value.int .i64 f); exact BW.call (HVF.out _)) | (go_at_call_of 70 (Value.int .i64 t); exact BW.call (HVT.out _))); go_big_quiet_on)))
                  refine wpQuiet_nil ?_
                  rintro _ ⟨xq, rfl⟩
                  have hbm := xq.h
                  have hbn := xq.h
                  go_wp2_with fail
                  go_roundw
                  case rel => exact ⟨1, by omega, by go_num, HD, hnew.trans (hbm.mono hnew.size)⟩
                  case measure => simp [intOf]; omega
                · have hk1 : k - 1 < d.proxies.length := by omega
                  have hp : prevF d.proxies k = some d.proxies[k - 1].fr := by simp [prevF, hk0, hk1]
                  obtain ⟨c2, c3⟩ := (CellsAt.below h5 hnew h4).prox hk1
                  have r2 := BW.cell hbw c2
                  have hg : 0 < k := by omega
                  have hkk : ((k : Int) - 1).toNat = k - 1 := by omega
                  have hwk : IntKind.i64.wrap ((k : Int) - 1) = (k : Int) - 1 := IntWalk.i64_in _ (by omega)
                  rw [hp] at hd'
                  by_cases hlt2 : d.proxies[k - 1].fr < d.proxies[k].fr
                  · have HD : Hid (proxOkI d.weights.length none d.proxies = proxOkI d.weights.length (prevF d.proxies (k + 1)) (d.proxies.drop (k + 1))) := by rw [hs]; simpa [Hid, hf, ht, heb, hlt2] using hd'
                    have hg2 : decide (d.proxies[k].fr ≤ d.proxies[k - 1].fr) = false := by simp; omega
                    clear hd' hs hp hf ht heq
                    generalize d.proxies[k].fr = f at *
                    generalize d.proxies[k].to = t at *
                    generalize d.proxies[k - 1].fr = f' at *
                    generalize d.proxies[k - 1].to = t' at *
                    go_wp2_with fail
                    rw [← HW1.out]
                    refine wp_region_bw (by kernel_rfl) (by kernel_rfl) ?_
                    repeat (first
                      | go_big_quiet_skip
                      | (go_big_quiet_want; go_big_quiet_op; first | go_big_quiet_on | (apply Exists.intro; refine ⟨fun _ => ?_, ?_⟩; (first | (go_at_call_of 70 (Value.int .i64 f); exact BW.call (HVF.out _)) | (go_at_call_of 70 (Value.int .i64 t); exact BW.call (HVT.out _))); go_big_quiet_on)))
                    refine wpQuiet_nil ?_
                    rintro _ ⟨xq, rfl⟩
                    have hbm := xq.h
                    have hbn := xq.h
                    go_wp2_with fail
                    go_roundw
                    case rel => exact ⟨k + 1, by omega, by go_num, HD, hnew.trans (hbm.mono hnew.size)⟩
                    case measure => simp [intOf]; omega
                  · have HD : Hid (votersOk d = false) := by simp only [Hid, HV.out, hd']; simp [hlt2]
                    have hg2 : decide (d.proxies[k].fr ≤ d.proxies[k - 1].fr) = true := by simp; omega
                    clear hd' hs hp hf ht heq
                    generalize d.proxies[k].fr = f at *
                    generalize d.proxies[k].to = t at *
                    generalize d.proxies[k - 1].fr = f' at *
                    generalize d.proxies[k - 1].to = t' at *
                    go_wp2_with fail
                    rw [← HW1.out]
                    refine wp_region_bw (by kernel_rfl) (by kernel_rfl) ?_
                    repeat (first
                      | go_big_quiet_skip
                      | (go_big_quiet_want; go_big_quiet_op; first | go_big_quiet_on | (apply Exists.intro; refine ⟨fun _ => ?_, ?_⟩; (first | (go_at_call_of 70 (Value.int .i64 f); exact BW.call (HVF.out _)) | (go_at_call_of 70 (Value.int .i64 t); exact BW.call (HVT.out _))); go_big_quiet_on)))
                    refine wpQuiet_nil ?_
                    rintro _ ⟨xq, rfl⟩
                    have hbm := xq.h
                    have hbn := xq.h
                    go_wp2_with fail
                    go_ret
                    exact ⟨ret_bool HD.out.symm, hfin1.trans (hbm.mono hfin1.size)⟩
        · have hPO : proxOkI d.weights.length none d.proxies = true := by
            rw [List.drop_of_length_le (by omega)] at hd'
            simpa [proxOkI] using hd'
          have HPO := Lib.hid hPO
          have hto : ∀ p ∈ d.proxies, 0 ≤ p.to := by
            rw [proxOkI_of, Bool.and_eq_true] at hPO
            exact votersOk_to hPO.1
          have HTO := Lib.hid hto
          clear hd' hPO hto
          obtain rfl : k = d.proxies.length := by omega
          go_wp2_with fail
          go_loopw [65] (fun i wr => ∃ k : Nat, k ≤ d.proxies.length ∧ i = .int .i64 k ∧ Hid (stepsAll d.proxies d.proxies = stepsAll d.proxies (d.proxies.drop k)) ∧ Below W.heap.size W wr) (fun i _ => d.proxies.length - (intOf i).toNat)
          case atStart => exact ⟨0, by omega, rfl, by simp [Hid], hb⟩
          case round =>
            obtain ⟨k, hk, rfl, hd, hb⟩ := hrel
            have hd' := hd.out
            clear hd
            have bR := bA.below hb
            have ar := bR.cells
            have hfin : Below w.heap.size w wr := hWb.trans (hb.mono hWb.size)
            by_cases hlt : k < d.proxies.length
            · obtain ⟨b, off, rfl, h4, h5⟩ := g3 (by omega)
              obtain ⟨c0, c1⟩ := (CellsAt.below h5 hb h4).prox hlt
              have hal : ∀ (o : Obj), Below wr.heap.size wr (wr.alloc o) := fun o => (Below.refl _ _).alloc (Nat.le_refl _) o
              have hAlt := bR.1
              have hbA : ¬ wr.heap.size = w.heap.size := by omega
              have hbA' : ¬ w.heap.size = wr.heap.size := by omega
              rw [stepsAll_at hlt] at hd'
              have hIr := h.below hfin
              have HS := Lib.hid (fun o : Obj => i_follow _ _ d d.proxies[k].fr _ (hIr.below (hal o)) (by omega) HTO.out)
              have HAL := Lib.hid hal; clear hal
              cases hst : decide ((followQ d.proxies d.proxies[k].fr).2 ≤ d.proxies.length) with
              | false =>
                have HD : Hid (votersOk d = false) := by simp only [Hid, HV.out, hd', hst]; simp
                have hgt : ¬ (followQ d.proxies d.proxies[k].fr).2 ≤ d.proxies.length := by simpa using hst
                have hle := walkQ_le d.proxies (d.proxies.length + 1) d.proxies[k].fr
                clear hd' hst
                generalize d.proxies[k].fr = f at *
                generalize d.proxies[k].to = t at *
                unfold followQ at HS hgt
                generalize walkQ d.proxies (d.proxies.length + 1) f = r at *
                go_wp2_with (go_at_call 68; refine (HS.out _).mono ?_; rintro e w2 ⟨rfl, hb2⟩; have hbn := below_step (W := wr) (HAL.out _) hb2; have a2 := (bR.below hbn).cells)
                go_ret
                exact ⟨ret_bool HD.out.symm, hfin.trans (hbn.mono hfin.size)⟩
              | true =>
                have HD : Hid (stepsAll d.proxies d.proxies = stepsAll d.proxies (d.proxies.drop (k + 1))) := by simpa [Hid, hst] using hd'
                have hgt : (followQ d.proxies d.proxies[k].fr).2 ≤ d.proxies.length := by simpa using hst
                have hle := walkQ_le d.proxies (d.proxies.length + 1) d.proxies[k].fr
                clear hd' hst
                generalize d.proxies[k].fr = f at *
                generalize d.proxies[k].to = t at *
                unfold followQ at HS hgt
                generalize walkQ d.proxies (d.proxies.length + 1) f = r at *
                go_wp2_with (go_at_call 68; refine (HS.out _).mono ?_; rintro e w2 ⟨rfl, hb2⟩; have hbn := below_step (W := wr) (HAL.out _) hb2; have a2 := (bR.below hbn).cells)
                go_roundw
                case rel => exact ⟨k + 1, by omega, by go_num, HD, below_step hb hbn⟩
                case measure => simp [intOf]; omega
            · have HD : Hid (votersOk d = true) := by
                rw [List.drop_of_length_le (by omega)] at hd'
                simp only [Hid, HV.out, HOW.out, HPO.out, hd']
                simp [stepsAll, h12]
              clear hd'
              obtain rfl : k = d.proxies.length := by omega
              go_wp2_with fail
              go_ret
              exact ⟨ret_bool HD.out.symm, hfin⟩

theorem s_l12Voter (v u : Value) (d : DVoters) (x : Int) (w : World) (h : VotersAt w v u d) (hn : d.weights.length ≤ 1048576 ∧ d.proxies.length ≤ 1048576) :
    Calls Try.prog 42 #[vVoters v u, .int .i64 x] w fun e w' => e = .returned (.bool (votersOk d && inB x 0 ((d.weights.length : Int) - 1))) ∧ Below w.heap.size w w' := by
  have hn1 := hn.1
  obtain ⟨ao, cap, ao', cap', rfl, rfl⟩ := h.form
  obtain ⟨W, hW⟩ : ∃ W, W = w.alloc (.cells #[.slice ao d.weights.length cap, .slice ao' d.proxies.length cap'] 29) := ⟨_, rfl⟩
  have bA : BoxAt W w.heap.size #[.slice ao d.weights.length cap, .slice ao' d.proxies.length cap'] := by rw [hW]; exact BoxAt.new _ _ _
  have hWb : Below w.heap.size w W := by rw [hW]; go_grown
  have HQ := s_l12Good _ _ d W (h.below hWb) hn
  have HW := Lib.hid hW; clear hW
  have a0 := bA.cells
  cases hok : votersOk d with
  | false =>
    rw [hok] at HQ
    have HQ' := Lib.hid HQ; clear HQ hok
    go_enter Try.func42, Try.ntmps42
    go_wp2_with fail
    rw [← HW.out]
    go_wp2_with (go_at_call 44; refine HQ'.out.mono ?_; rintro e w1 ⟨rfl, hb1⟩)
    go_ret
    exact ⟨rfl, hWb.trans (hb1.mono hWb.size)⟩
  | true =>
    rw [hok] at HQ
    have HQ' := Lib.hid HQ; clear HQ hok
    go_enter Try.func42, Try.ntmps42
    go_wp2_with fail
    rw [← HW.out]
    go_wp2_with (first | (go_at_call 44; refine HQ'.out.mono ?_; rintro e w1 ⟨rfl, hb1⟩; have a1 := (bA.below hb1).cells) | (go_at_call 64; refine (s_l1In _ _ _ _).mono ?_; rintro e w' ⟨rfl, rfl⟩))
    go_ret
    exact ⟨rfl, hWb.trans (hb1.mono hWb.size)⟩

/-- HolderFor, ProxySteps. -/
def holdV (d : DVoters) (x : Int) : Int × Bool := if votersOk d && inB x 0 ((d.weights.length : Int) - 1) then ((followQ d.proxies x).1, true) else (0, false)
def stepV (d : DVoters) (x : Int) : Int × Bool := if votersOk d && inB x 0 ((d.weights.length : Int) - 1) then (((followQ d.proxies x).2 : Int), true) else (0, false)

theorem s_HolderFor (v u : Value) (d : DVoters) (x : Int) (w : World) (h : VotersAt w v u d) (hn : d.weights.length ≤ 1048576 ∧ d.proxies.length ≤ 1048576) :
    Calls Try.prog 25 #[vVoters v u, .int .i64 x] w fun e w' => e = .returned (.tuple #[.int .i64 (holdV d x).1, .bool (holdV d x).2]) ∧ Below w.heap.size w w' := by
  obtain ⟨ao, cap, ao', cap', rfl, rfl⟩ := h.form
  obtain ⟨W, hW⟩ : ∃ W, W = w.alloc (.cells #[.slice ao d.weights.length cap, .slice ao' d.proxies.length cap'] 29) := ⟨_, rfl⟩
  have bA : BoxAt W w.heap.size #[.slice ao d.weights.length cap, .slice ao' d.proxies.length cap'] := by rw [hW]; exact BoxAt.new _ _ _
  have hWb : Below w.heap.size w W := by rw [hW]; go_grown
  have HQ := s_l12Voter _ _ d x W (h.below hWb) hn
  have HW := Lib.hid hW; clear hW
  have a0 := bA.cells
  cases hok : votersOk d && inB x 0 ((d.weights.length : Int) - 1) with
  | false =>
    have HR : Hid (holdV d x = (0, false)) := by simp only [Hid, holdV, hok]; rfl
    rw [hok] at HQ
    have HQ' := Lib.hid HQ; clear HQ hok
    go_enter Try.func25, Try.ntmps25
    go_wp2_with fail
    rw [← HW.out]
    go_wp2_with (go_at_call 42; refine HQ'.out.mono ?_; rintro e w1 ⟨rfl, hb1⟩)
    go_ret2
    exact ⟨ret_ib (by rw [HR.out]) (by rw [HR.out]), hWb.trans (hb1.mono hWb.size)⟩
  | true =>
    have HR : Hid (holdV d x = ((followQ d.proxies x).1, true)) := by simp only [Hid, holdV, hok]; rfl
    rw [hok] at HQ
    have HQ' := Lib.hid HQ; clear HQ hok
    go_enter Try.func25, Try.ntmps25
    go_wp2_with fail
    rw [← HW.out]
    go_wp2_with (first | (go_at_call 42; refine HQ'.out.mono ?_; rintro e w1 ⟨rfl, hb1⟩; have hb1' := hWb.trans (hb1.mono hWb.size); have a1 := (bA.below hb1).cells) | (go_at_call 71; refine (s_l12Steps _ _ d _ _ (h.below hb1') (by omega)).mono ?_; rintro e w2 ⟨rfl, hb2⟩))
    go_ret2
    exact ⟨ret_ib (by rw [HR.out]) (by rw [HR.out]), hb1'.trans (hb2.mono hb1'.size)⟩

theorem i_HolderFor (v u : Value) (d : DVoters) (x : Int) (w : World) (h : VotersAt w v u d) (hn : d.weights.length ≤ 1048576 ∧ d.proxies.length ≤ 1048576) :
    Calls Try.prog 24 #[vVoters v u, .int .i64 x] w fun e w' => e = .returned (.tuple #[.int .i64 (holdV d x).1, .bool (holdV d x).2]) ∧ Below w.heap.size w w' := by
  obtain ⟨ao, cap, ao', cap', rfl, rfl⟩ := h.form
  obtain ⟨W, hW⟩ : ∃ W, W = w.alloc (.cells #[.slice ao d.weights.length cap, .slice ao' d.proxies.length cap'] 29) := ⟨_, rfl⟩
  have bA : BoxAt W w.heap.size #[.slice ao d.weights.length cap, .slice ao' d.proxies.length cap'] := by rw [hW]; exact BoxAt.new _ _ _
  have hWb : Below w.heap.size w W := by rw [hW]; go_grown
  have HQ := i_AreVoters _ _ d W (h.below hWb) hn
  have HW := Lib.hid hW; clear hW
  have a0 := bA.cells
  cases hok : votersOk d with
  | false =>
    have HR : Hid (holdV d x = (0, false)) := by simp only [Hid, holdV, hok]; rfl
    rw [hok] at HQ
    have HQ' := Lib.hid HQ; clear HQ hok
    go_enter Try.func24, Try.ntmps24
    go_wp2_with fail
    rw [← HW.out]
    go_wp2_with (go_at_call 32; refine HQ'.out.mono ?_; rintro e w1 ⟨rfl, hb1⟩)
    go_ret2
    exact ⟨ret_ib (by rw [HR.out]) (by rw [HR.out]), hWb.trans (hb1.mono hWb.size)⟩
  | true =>
    have HTO := Lib.hid (votersOk_to (votersOk_parts hok).2.2)
    rw [hok] at HQ
    have HQ' := Lib.hid HQ; clear HQ
    cases hi : inB x 0 ((d.weights.length : Int) - 1) with
    | false =>
      have HR : Hid (holdV d x = (0, false)) := by simp only [Hid, holdV, hok, hi]; rfl
      have HI := Lib.hid hi; clear hok hi
      go_enter Try.func24, Try.ntmps24
      go_wp2_with fail
      rw [← HW.out]
      go_wp2_with (first | (go_at_call 32; refine HQ'.out.mono ?_; rintro e w1 ⟨rfl, hb1⟩; have hb1' := hWb.trans (hb1.mono hWb.size); have a1 := (bA.below hb1).cells) | (go_at_call 70; refine (i_hasVoter _ _ d _ _ (h.below hb1')).mono ?_; rw [HI.out]; rintro e w2 ⟨rfl, hb2⟩))
      go_ret2
      exact ⟨ret_ib (by rw [HR.out]) (by rw [HR.out]), hb1'.trans (hb2.mono hb1'.size)⟩
    | true =>
      have HR : Hid (holdV d x = ((followQ d.proxies x).1, true)) := by simp only [Hid, holdV, hok, hi]; rfl
      have HI := Lib.hid hi; clear hok hi
      go_enter Try.func24, Try.ntmps24
      go_wp2_with fail
      rw [← HW.out]
      go_wp2_with (first | (go_at_call 32; refine HQ'.out.mono ?_; rintro e w1 ⟨rfl, hb1⟩; have hb1' := hWb.trans (hb1.mono hWb.size); have a1 := (bA.below hb1).cells) | (go_at_call 70; refine (i_hasVoter _ _ d _ _ (h.below hb1')).mono ?_; rw [HI.out]; rintro e w2 ⟨rfl, hb2⟩; have hb2' := hb1'.trans (hb2.mono hb1'.size); have a2 := (bA.below (below_step hb1 hb2)).cells) | (go_at_call 68; refine (i_follow _ _ d _ _ (h.below hb2') (by omega) HTO.out).mono ?_; rintro e w3 ⟨rfl, hb3⟩))
      go_ret2
      exact ⟨ret_ib (by rw [HR.out]) (by rw [HR.out]), hb2'.trans (hb3.mono hb2'.size)⟩

theorem s_ProxySteps (v u : Value) (d : DVoters) (x : Int) (w : World) (h : VotersAt w v u d) (hn : d.weights.length ≤ 1048576 ∧ d.proxies.length ≤ 1048576) :
    Calls Try.prog 28 #[vVoters v u, .int .i64 x] w fun e w' => e = .returned (.tuple #[.int .i64 (stepV d x).1, .bool (stepV d x).2]) ∧ Below w.heap.size w w' := by
  obtain ⟨ao, cap, ao', cap', rfl, rfl⟩ := h.form
  obtain ⟨W, hW⟩ : ∃ W, W = w.alloc (.cells #[.slice ao d.weights.length cap, .slice ao' d.proxies.length cap'] 29) := ⟨_, rfl⟩
  have bA : BoxAt W w.heap.size #[.slice ao d.weights.length cap, .slice ao' d.proxies.length cap'] := by rw [hW]; exact BoxAt.new _ _ _
  have hWb : Below w.heap.size w W := by rw [hW]; go_grown
  have HQ := s_l12Voter _ _ d x W (h.below hWb) hn
  have HW := Lib.hid hW; clear hW
  have a0 := bA.cells
  cases hok : votersOk d && inB x 0 ((d.weights.length : Int) - 1) with
  | false =>
    have HR : Hid (stepV d x = (0, false)) := by simp only [Hid, stepV, hok]; rfl
    rw [hok] at HQ
    have HQ' := Lib.hid HQ; clear HQ hok
    go_enter Try.func28, Try.ntmps28
    go_wp2_with fail
    rw [← HW.out]
    go_wp2_with (go_at_call 42; refine HQ'.out.mono ?_; rintro e w1 ⟨rfl, hb1⟩)
    go_ret2
    exact ⟨ret_ib (by rw [HR.out]) (by rw [HR.out]), hWb.trans (hb1.mono hWb.size)⟩
  | true =>
    have HR : Hid (stepV d x = (((followQ d.proxies x).2 : Int), true)) := by simp only [Hid, stepV, hok]; rfl
    rw [hok] at HQ
    have HQ' := Lib.hid HQ; clear HQ hok
    go_enter Try.func28, Try.ntmps28
    go_wp2_with fail
    rw [← HW.out]
    go_wp2_with (first | (go_at_call 42; refine HQ'.out.mono ?_; rintro e w1 ⟨rfl, hb1⟩; have hb1' := hWb.trans (hb1.mono hWb.size); have a1 := (bA.below hb1).cells) | (go_at_call 71; refine (s_l12Steps _ _ d _ _ (h.below hb1') (by omega)).mono ?_; rintro e w2 ⟨rfl, hb2⟩))
    go_ret2
    exact ⟨ret_ib (by rw [HR.out]) (by rw [HR.out]), hb1'.trans (hb2.mono hb1'.size)⟩

theorem i_ProxySteps (v u : Value) (d : DVoters) (x : Int) (w : World) (h : VotersAt w v u d) (hn : d.weights.length ≤ 1048576 ∧ d.proxies.length ≤ 1048576) :
    Calls Try.prog 27 #[vVoters v u, .int .i64 x] w fun e w' => e = .returned (.tuple #[.int .i64 (stepV d x).1, .bool (stepV d x).2]) ∧ Below w.heap.size w w' := by
  obtain ⟨ao, cap, ao', cap', rfl, rfl⟩ := h.form
  obtain ⟨W, hW⟩ : ∃ W, W = w.alloc (.cells #[.slice ao d.weights.length cap, .slice ao' d.proxies.length cap'] 29) := ⟨_, rfl⟩
  have bA : BoxAt W w.heap.size #[.slice ao d.weights.length cap, .slice ao' d.proxies.length cap'] := by rw [hW]; exact BoxAt.new _ _ _
  have hWb : Below w.heap.size w W := by rw [hW]; go_grown
  have HQ := i_AreVoters _ _ d W (h.below hWb) hn
  have HW := Lib.hid hW; clear hW
  have a0 := bA.cells
  cases hok : votersOk d with
  | false =>
    have HR : Hid (stepV d x = (0, false)) := by simp only [Hid, stepV, hok]; rfl
    rw [hok] at HQ
    have HQ' := Lib.hid HQ; clear HQ hok
    go_enter Try.func27, Try.ntmps27
    go_wp2_with fail
    rw [← HW.out]
    go_wp2_with (go_at_call 32; refine HQ'.out.mono ?_; rintro e w1 ⟨rfl, hb1⟩)
    go_ret2
    exact ⟨ret_ib (by rw [HR.out]) (by rw [HR.out]), hWb.trans (hb1.mono hWb.size)⟩
  | true =>
    have HTO := Lib.hid (votersOk_to (votersOk_parts hok).2.2)
    rw [hok] at HQ
    have HQ' := Lib.hid HQ; clear HQ
    cases hi : inB x 0 ((d.weights.length : Int) - 1) with
    | false =>
      have HR : Hid (stepV d x = (0, false)) := by simp only [Hid, stepV, hok, hi]; rfl
      have HI := Lib.hid hi; clear hok hi
      go_enter Try.func27, Try.ntmps27
      go_wp2_with fail
      rw [← HW.out]
      go_wp2_with (first | (go_at_call 32; refine HQ'.out.mono ?_; rintro e w1 ⟨rfl, hb1⟩; have hb1' := hWb.trans (hb1.mono hWb.size); have a1 := (bA.below hb1).cells) | (go_at_call 70; refine (i_hasVoter _ _ d _ _ (h.below hb1')).mono ?_; rw [HI.out]; rintro e w2 ⟨rfl, hb2⟩))
      go_ret2
      exact ⟨ret_ib (by rw [HR.out]) (by rw [HR.out]), hb1'.trans (hb2.mono hb1'.size)⟩
    | true =>
      have HR : Hid (stepV d x = (((followQ d.proxies x).2 : Int), true)) := by simp only [Hid, stepV, hok, hi]; rfl
      have HI := Lib.hid hi; clear hok hi
      go_enter Try.func27, Try.ntmps27
      go_wp2_with fail
      rw [← HW.out]
      go_wp2_with (first | (go_at_call 32; refine HQ'.out.mono ?_; rintro e w1 ⟨rfl, hb1⟩; have hb1' := hWb.trans (hb1.mono hWb.size); have a1 := (bA.below hb1).cells) | (go_at_call 70; refine (i_hasVoter _ _ d _ _ (h.below hb1')).mono ?_; rw [HI.out]; rintro e w2 ⟨rfl, hb2⟩; have hb2' := hb1'.trans (hb2.mono hb1'.size); have a2 := (bA.below (below_step hb1 hb2)).cells) | (go_at_call 68; refine (i_follow _ _ d _ _ (h.below hb2') (by omega) HTO.out).mono ?_; rintro e w3 ⟨rfl, hb3⟩))
      go_ret2
      exact ⟨ret_ib (by rw [HR.out]) (by rw [HR.out]), hb2'.trans (hb3.mono hb2'.size)⟩

end Go.Proofs.Ytapkicfbknoioaa
