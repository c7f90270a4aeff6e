/- Contracts: whether voters are valid; HolderFor, ProxySteps; the reference's and the program's. No conditions beyond sizes. -/
import Derived.Test.YtapkicfbknoioaaVoteF
namespace Go.Proofs.Ytapkicfbknoioaa
open Go.RowKit
set_option linter.unusedVariables false
set_option linter.unusedSimpArgs false

def okW (xs : List Int) : Bool := !xs.any (fun x => !inB x 0 100)
theorem okW_at {xs : List Int} {k : Nat} (h : k < xs.length) : okW (xs.drop k) = (inB xs[k] 0 100 && okW (xs.drop (k + 1))) := by rw [drop_at h]; simp only [okW, List.any_cons, Bool.not_or, Bool.not_not]
/-- Proxies are of voters, to voters, in ascending order. -/
def proxOk (n : Int) : Option Int → List DProxy → Bool
  | _, [] => true
  | pv, p :: r => inB p.fr 0 (n - 1) && inB p.to 0 (n - 1) && (match pv with | none => true | some y => decide (y < p.fr)) && proxOk n (some p.fr) r
def prevF (ps : List DProxy) (k : Nat) : Option Int := if k = 0 then none else (ps[k - 1]?).map DProxy.fr
theorem prevF_succ (ps : List DProxy) (k : Nat) (h : k < ps.length) : prevF ps (k + 1) = some ps[k].fr := by simp [prevF, h]
def stepsAll (ps rest : List DProxy) : Bool := rest.all (fun p => decide ((followQ ps p.fr).2 ≤ ps.length))
theorem stepsAll_at {ps xs : List DProxy} {k : Nat} (h : k < xs.length) : stepsAll ps (xs.drop k) = (decide ((followQ ps xs[k].fr).2 ≤ ps.length) && stepsAll ps (xs.drop (k + 1))) := by rw [drop_at h]; simp only [stepsAll, List.all_cons]
def votersOk (d : DVoters) : Bool := decide (d.weights.length ≤ 12) && okW d.weights && proxOk d.weights.length none d.proxies && stepsAll d.proxies d.proxies

theorem proxOk_mem {n : Int} {ps : List DProxy} : ∀ {pv : Option Int}, proxOk n pv ps = true → ∀ p ∈ ps, inB p.fr 0 (n - 1) = true ∧ inB p.to 0 (n - 1) = true ∧ (∀ y, pv = some y → y < p.fr) := by
  induction ps with
  | nil => intro pv h p hp; cases hp
  | cons q r ih =>
    intro pv h p hp
    simp only [proxOk, Bool.and_eq_true] at h
    obtain ⟨⟨⟨h1, h2⟩, h3⟩, h4⟩ := h
    rcases List.mem_cons.1 hp with rfl | hp
    · refine ⟨h1, h2, fun y hy => ?_⟩
      subst hy
      simpa using h3
    · obtain ⟨a, b, c⟩ := ih h4 p hp
      refine ⟨a, b, fun y hy => ?_⟩
      subst hy
      have := c _ rfl
      have : y < q.fr := by simpa using h3
      omega
theorem proxOk_next {n : Int} {ps : List DProxy} : ∀ {pv : Option Int}, proxOk n pv ps = true → ∀ p ∈ ps, nextQ ps p.fr = p.to := by
  induction ps with
  | nil => intro pv h p hp; cases hp
  | cons q r ih =>
    intro pv h p hp
    have h' := h
    simp only [proxOk, Bool.and_eq_true] at h
    simp only [nextQ]
    rcases List.mem_cons.1 hp with rfl | hp
    · simp
    · have := (proxOk_mem h.2 p hp).2.2 _ rfl
      have hne : (q.fr == p.fr) = false := by rw [beq_eq_false_iff_ne]; omega
      rw [hne]
      exact ih h.2 p hp
theorem walkQ_self {ps : List DProxy} {x : Int} (h0 : 0 ≤ x) (h : nextQ ps x = x) (k : Nat) : walkQ ps k x = (x, k) := by
  induction k with
  | zero => rfl
  | succ k ih => rw [walkQ_go (by omega), h, ih]
/-- A proxy to the voter himself leads round. -/
theorem self_bad {n : Int} {ps : List DProxy} {pv : Option Int} (h : proxOk n pv ps = true) {p : DProxy} (hp : p ∈ ps) (he : p.fr = p.to) : stepsAll ps ps = false := by
  have h1 := proxOk_next h p hp
  have h2 := inB_iff.1 (proxOk_mem h p hp).1
  rw [← he] at h1
  have h3 : followQ ps p.fr = (p.fr, ps.length + 1) := walkQ_self h2.1 h1 _
  simp only [stepsAll, List.all_eq_false]
  exact ⟨p, hp, by rw [h3]; simp⟩
theorem votersOk_to {d : DVoters} (h : proxOk d.weights.length none d.proxies = true) : ∀ p ∈ d.proxies, 0 ≤ p.to := fun p hp => (inB_iff.1 (proxOk_mem h p hp).2.1).1
theorem votersOk_parts {d : DVoters} (h : votersOk d = true) : d.weights.length ≤ 12 ∧ okW d.weights = true ∧ proxOk d.weights.length none d.proxies = true := by
  simp only [votersOk, Bool.and_eq_true, decide_eq_true_eq] at h; exact ⟨h.1.1.1, h.1.1.2, h.1.2⟩
theorem VotersAt.len {w : World} {v u : Value} {d : DVoters} (h : VotersAt w v u d) : d.weights.length ≤ maxLen ∧ d.proxies.length ≤ maxLen := by
  obtain ⟨⟨_, _, _, _, h1, h2, _⟩, ⟨_, _, _, _, g1, g2, _⟩⟩ := h
  exact ⟨by omega, by omega⟩
/-- The parts of voters in memory. -/
theorem VotersAt.parts {w : World} {ao : Option Addr} {cap : Nat} {ao' : Option Addr} {cap' : Nat} {d : DVoters} (h : VotersAt w (.slice ao d.weights.length cap) (.slice ao' d.proxies.length cap') d) :
    (0 < d.weights.length → ∃ b off, ao = some ⟨b, off, none⟩ ∧ b < w.heap.size ∧ CellsAt w b off (ints d.weights)) ∧ (0 < d.proxies.length → ∃ b off, ao' = some ⟨b, off, none⟩ ∧ b < w.heap.size ∧ CellsAt w b off (qcs d.proxies)) := by
  obtain ⟨⟨_, a, c, hs, h1, h2, h3⟩, ⟨_, a', c', hs', g1, g2, g3⟩⟩ := h
  simp only [Value.slice.injEq, true_and] at hs hs'
  obtain ⟨rfl, rfl⟩ := hs
  obtain ⟨rfl, rfl⟩ := hs'
  exact ⟨h3, g3⟩

set_option maxHeartbeats 4000000 in
theorem s_l12Good (v u : Value) (d : DVoters) (w : World) (h : VotersAt w v u d) (hn : d.weights.length ≤ 1048576 ∧ d.proxies.length ≤ 1048576) :
    Calls Try.prog 44 #[vVoters v u] w fun e w' => e = .returned (.bool (votersOk d)) ∧ Below w.heap.size w w' := by
  obtain ⟨hn1, hn2⟩ := hn
  obtain ⟨ao, cap, ao', cap', rfl, rfl⟩ := h.form
  obtain ⟨W, hW⟩ : ∃ W, W = w.alloc (.cells #[.slice ao d.weights.length cap, .slice ao' d.proxies.length cap'] 29) := ⟨_, rfl⟩
  have bA : BoxAt W w.heap.size #[.slice ao d.weights.length cap, .slice ao' d.proxies.length cap'] := by rw [hW]; exact BoxAt.new _ _ _
  have hWb : Below w.heap.size w W := by rw [hW]; go_grown
  have hI := h.below hWb
  have HW := Lib.hid hW; clear hW
  have a0 := bA.cells
  obtain ⟨h3, g3⟩ := hI.parts
  go_enter Try.func44, Try.ntmps44
  go_wp2_with fail
  rw [← HW.out]
  go_wp2_with fail
  go_loopw [4] (fun i wr => ∃ k : Nat, k ≤ d.weights.length ∧ i = .int .i64 k ∧ Hid (okW d.weights = okW (d.weights.drop k)) ∧ W = wr) (fun i _ => d.weights.length - (intOf i).toNat)
  case atStart => exact ⟨0, by omega, rfl, by simp [Hid], by trivial⟩
  case round =>
    obtain ⟨k, hk, rfl, hd, rfl⟩ := hrel
    have hd' := hd.out
    clear hd
    by_cases hlt : k < d.weights.length
    · obtain ⟨b, off, rfl, h4, h5⟩ := h3 (by omega)
      have hc := h5.int hlt
      rw [okW_at hlt] at hd'
      cases hx : inB d.weights[k] 0 100 with
      | false =>
        have HD : Hid (votersOk d = false) := by simp [Hid, votersOk, hd', hx]
        have HX := Lib.hid hx; clear hx hd'
        generalize d.weights[k] = x at *
        go_wp2_with (go_at_call 64; refine (s_l1In _ _ _ _).mono ?_; rw [HX.out]; rintro e w' ⟨rfl, rfl⟩)
        go_ret
        exact ⟨ret_bool HD.out.symm, hWb⟩
      | true =>
        have HD : Hid (okW d.weights = okW (d.weights.drop (k + 1))) := by simpa [Hid, hx] using hd'
        have HX := Lib.hid hx; clear hx hd'
        generalize d.weights[k] = x at *
        go_wp2_with (go_at_call 64; refine (s_l1In _ _ _ _).mono ?_; rw [HX.out]; rintro e w' ⟨rfl, rfl⟩)
        go_roundw
        case rel => exact ⟨k + 1, by omega, by go_num, HD, by trivial⟩
        case measure => simp [intOf]; omega
    · have HOW : Hid (okW d.weights = true) := by
        rw [List.drop_of_length_le (by omega)] at hd'
        simpa [Hid, okW] using hd'
      clear hd'
      obtain rfl : k = d.weights.length := by omega
      go_wp2_with fail
      go_loopw [5] (fun i wr => ∃ k : Nat, k ≤ d.proxies.length ∧ i = .int .i64 k ∧ Hid (proxOk d.weights.length none d.proxies = proxOk d.weights.length (prevF d.proxies k) (d.proxies.drop k)) ∧ Below W.heap.size W wr) (fun i _ => d.proxies.length - (intOf i).toNat)
      case atStart => exact ⟨0, by omega, rfl, by simp [Hid, prevF], Below.refl _ _⟩
      case round =>
        obtain ⟨k, hk, rfl, hd, hb⟩ := hrel
        have hd' := hd.out
        clear hd
        have ar := (bA.below hb).cells
        have hfin : Below w.heap.size w wr := hWb.trans (hb.mono hWb.size)
        by_cases hlt : k < d.proxies.length
        · obtain ⟨b, off, rfl, h4, h5⟩ := g3 (by omega)
          have hcs := CellsAt.below h5 hb h4
          obtain ⟨c0, c1⟩ := hcs.prox hlt
          have hnew : Below W.heap.size W (wr.alloc (.cells #[.int .i64 d.proxies[k].fr, .int .i64 d.proxies[k].to] 61)) := hb.alloc hb.size _
          rw [drop_at hlt] at hd'
          simp only [proxOk] at hd'
          have hs := prevF_succ d.proxies k hlt
          have hbw : b < wr.heap.size := by have := hb.size; omega
          have hbn : ¬ wr.heap.size = b := by omega
          have hbn' : ¬ b = wr.heap.size := by omega
          have hAlt := (bA.below hb).1
          have hbA : ¬ wr.heap.size = w.heap.size := by omega
          have hbA' : ¬ w.heap.size = wr.heap.size := by omega
          cases hf : inB d.proxies[k].fr 0 ((d.weights.length : Int) - 1) with
          | false =>
            have HD : Hid (votersOk d = false) := by simp [Hid, votersOk, hd', hf]
            clear hd' hs
            generalize d.proxies[k].fr = f at *
            generalize d.proxies[k].to = t at *
            go_wp2_with fail
            go_quiet ((go_at_call 64; exact quiet_eq (s_l1In _ _ _ _)))
            go_wp2_with fail
            go_ret
            exact ⟨ret_bool HD.out.symm, Below.drewN' (hWb.trans (hnew.mono hWb.size)) _⟩
          | true =>
            cases ht : inB d.proxies[k].to 0 ((d.weights.length : Int) - 1) with
            | false =>
              have HD : Hid (votersOk d = false) := by simp [Hid, votersOk, hd', ht]
              clear hd' hs
              generalize d.proxies[k].fr = f at *
              generalize d.proxies[k].to = t at *
              go_wp2_with fail
              go_quiet ((go_at_call 64; exact quiet_eq (s_l1In _ _ _ _)))
              go_wp2_with fail
              go_ret
              exact ⟨ret_bool HD.out.symm, Below.drewN' (hWb.trans (hnew.mono hWb.size)) _⟩
            | true =>
              by_cases hk0 : k = 0
              · subst hk0
                have HD : Hid (proxOk d.weights.length none d.proxies = proxOk d.weights.length (prevF d.proxies 1) (d.proxies.drop 1)) := by rw [hs]; simpa [Hid, prevF, hf, ht] using hd'
                have hg : decide ((0 : Int) < ((0 : Nat) : Int)) = false := by simp
                simp only [Nat.zero_mul, Nat.add_zero] at c0 c1
                clear hd' hs
                generalize d.proxies[0].fr = f at *
                generalize d.proxies[0].to = t at *
                go_wp2_with fail
                go_quiet ((go_at_call 64; exact quiet_eq (s_l1In _ _ _ _)))
                go_wp2_with fail
                go_roundw
                case rel => exact ⟨1, by omega, by go_num, HD, Below.drewN' hnew _⟩
                case measure => simp [intOf]; omega
              · have hk1 : k - 1 < d.proxies.length := by omega
                have hp : prevF d.proxies k = some d.proxies[k - 1].fr := by simp [prevF, hk0, hk1]
                obtain ⟨c2, c3⟩ := hcs.prox hk1
                have hg : 0 < k := by omega
                have hkk : ((k : Int) - 1).toNat = k - 1 := by omega
                have hwl : IntKind.i64.wrap ((d.weights.length : Int) - 1) = (d.weights.length : Int) - 1 := IntWalk.i64_in _ (by omega)
                have hwk : IntKind.i64.wrap ((k : Int) - 1) = (k : Int) - 1 := IntWalk.i64_in _ (by omega)
                rw [hp] at hd'
                by_cases hlt2 : d.proxies[k - 1].fr < d.proxies[k].fr
                · have HD : Hid (proxOk d.weights.length none d.proxies = proxOk d.weights.length (prevF d.proxies (k + 1)) (d.proxies.drop (k + 1))) := by rw [hs]; simpa [Hid, hf, ht, hlt2] using hd'
                  have hg2 : decide (d.proxies[k].fr ≤ d.proxies[k - 1].fr) = false := by simp; omega
                  clear hd' hs hp
                  generalize d.proxies[k].fr = f at *
                  generalize d.proxies[k].to = t at *
                  generalize d.proxies[k - 1].fr = f' at *
                  generalize d.proxies[k - 1].to = t' at *
                  go_wp2_with fail
                  go_quiet ((go_at_call 64; exact quiet_eq (s_l1In _ _ _ _)))
                  go_wp2_with fail
                  go_roundw
                  case rel => exact ⟨k + 1, by omega, by go_num, HD, Below.drewN' hnew _⟩
                  case measure => simp [intOf]; omega
                · have HD : Hid (votersOk d = false) := by simp [Hid, votersOk, hd', hlt2]
                  have hg2 : decide (d.proxies[k].fr ≤ d.proxies[k - 1].fr) = true := by simp; omega
                  clear hd' hs hp
                  generalize d.proxies[k].fr = f at *
                  generalize d.proxies[k].to = t at *
                  generalize d.proxies[k - 1].fr = f' at *
                  generalize d.proxies[k - 1].to = t' at *
                  go_wp2_with fail
                  go_quiet ((go_at_call 64; exact quiet_eq (s_l1In _ _ _ _)))
                  go_wp2_with fail
                  go_ret
                  exact ⟨ret_bool HD.out.symm, Below.drewN' (hWb.trans (hnew.mono hWb.size)) _⟩
        · have HPO : Hid (proxOk d.weights.length none d.proxies = true) := by
            rw [List.drop_of_length_le (by omega)] at hd'
            simpa [Hid, proxOk] using hd'
          clear hd'
          obtain rfl : k = d.proxies.length := by omega
          go_wp2_with fail
          go_loopw [7] (fun i wr => ∃ k : Nat, k ≤ d.proxies.length ∧ i = .int .i64 k ∧ Hid (stepsAll d.proxies d.proxies = stepsAll d.proxies (d.proxies.drop k)) ∧ Below W.heap.size W wr) (fun i _ => d.proxies.length - (intOf i).toNat)
          case atStart => exact ⟨0, by omega, rfl, by simp [Hid], hb⟩
          case round =>
            obtain ⟨k, hk, rfl, hd, hb⟩ := hrel
            have hd' := hd.out
            clear hd
            have bR := bA.below hb
            have ar := bR.cells
            have hfin : Below w.heap.size w wr := hWb.trans (hb.mono hWb.size)
            by_cases h12 : d.weights.length ≤ 12
            · by_cases hlt : k < d.proxies.length
              · obtain ⟨b, off, rfl, h4, h5⟩ := g3 (by omega)
                have hbw : b < wr.heap.size := by have := hb.size; omega
                obtain ⟨c0, c1⟩ := (CellsAt.below h5 hb h4).prox hlt
                have r0 := below_cell hbw c0
                have rA := bR.rule
                rw [stepsAll_at hlt] at hd'
                have hIr := h.below hfin
                have HS := Lib.hid (fun w' (hw' : Below wr.heap.size wr w') => s_l12Steps _ _ d d.proxies[k].fr w' (hIr.below hw') (by omega))
                cases hst : decide ((followQ d.proxies d.proxies[k].fr).2 ≤ d.proxies.length) with
                | false =>
                  have HD : Hid (votersOk d = false) := by simp [Hid, votersOk, hd', hst]
                  have hgt : ¬ (followQ d.proxies d.proxies[k].fr).2 ≤ d.proxies.length := by simpa using hst
                  have hle := walkQ_le d.proxies (d.proxies.length + 1) d.proxies[k].fr
                  clear hd' hst
                  generalize d.proxies[k].fr = f at *
                  generalize d.proxies[k].to = t at *
                  unfold followQ at HS hgt
                  generalize walkQ d.proxies (d.proxies.length + 1) f = r at *
                  go_wp2_with fail
                  go_region_held3 (fun w' => Below wr.heap.size wr w') (first | assumption | (exact Below.drew (Below.refl _ _)))
                    (first
                      | (go_at_call 71; refine (HS.out _ (by assumption)).mono ?_; rintro e w2 ⟨rfl, hb2⟩; have hbn := below_step (W := wr) (by assumption) hb2))
                  have a2 := (bR.below hbn).cells
                  go_wp2_with fail
                  go_ret
                  exact ⟨ret_bool HD.out.symm, hfin.trans (hbn.mono hfin.size)⟩
                | true =>
                  have HD : Hid (stepsAll d.proxies d.proxies = stepsAll d.proxies (d.proxies.drop (k + 1))) := by simpa [Hid, hst] using hd'
                  have hgt : (followQ d.proxies d.proxies[k].fr).2 ≤ d.proxies.length := by simpa using hst
                  have hle := walkQ_le d.proxies (d.proxies.length + 1) d.proxies[k].fr
                  clear hd' hst
                  generalize d.proxies[k].fr = f at *
                  generalize d.proxies[k].to = t at *
                  unfold followQ at HS hgt
                  generalize walkQ d.proxies (d.proxies.length + 1) f = r at *
                  go_wp2_with fail
                  go_region_held3 (fun w' => Below wr.heap.size wr w') (first | assumption | (exact Below.drew (Below.refl _ _)))
                    (first
                      | (go_at_call 71; refine (HS.out _ (by assumption)).mono ?_; rintro e w2 ⟨rfl, hb2⟩; have hbn := below_step (W := wr) (by assumption) hb2))
                  have a2 := (bR.below hbn).cells
                  go_wp2_with fail
                  go_roundw
                  case rel => exact ⟨k + 1, by omega, by go_num, HD, below_step hb hbn⟩
                  case measure => simp [intOf]; omega
              · have HD : Hid (votersOk d = true) := by
                  rw [List.drop_of_length_le (by omega)] at hd'
                  simp only [Hid, votersOk, HOW.out, HPO.out, hd']
                  simp [stepsAll, h12]
                clear hd'
                obtain rfl : k = d.proxies.length := by omega
                go_wp2_with fail
                go_ret
                exact ⟨ret_bool (by rw [HD.out]; simp; omega), hfin⟩
            · have HD : Hid (votersOk d = false) := by simp [Hid, votersOk, h12]
              clear hd'
              by_cases hlt : k < d.proxies.length
              · go_wp2_with fail
                go_ret
                exact ⟨ret_bool (by rw [HD.out]; simp; omega), hfin⟩
              · obtain rfl : k = d.proxies.length := by omega
                go_wp2_with fail
                go_ret
                exact ⟨ret_bool (by rw [HD.out]; simp; omega), hfin⟩

end Go.Proofs.Ytapkicfbknoioaa
