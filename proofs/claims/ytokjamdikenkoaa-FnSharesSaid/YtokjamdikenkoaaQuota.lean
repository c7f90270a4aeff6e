/- Contracts: fractions in lowest terms, exact shares, quotas. -/
import Derived.Test.YtokjamdikenkoaaVotes
namespace Go.Proofs.Ytokjamdikenkoaa
open Go.RowKit
set_option linter.unusedVariables false
set_option linter.unusedSimpArgs false

theorem gcd_step (a b : Nat) : Nat.gcd b (a % b) = Nat.gcd a b := by
  rw [Nat.gcd_comm b, ← Nat.gcd_rec, Nat.gcd_comm]

theorem cast_div (a b : Nat) : ((a : Int) / (b : Int)) = ((a / b : Nat) : Int) := (Int.natCast_ediv a b).symm
theorem cast_mod (a b : Nat) : ((a : Int) % (b : Int)) = ((a % b : Nat) : Int) := (Int.natCast_emod a b).symm

/-- A fraction in lowest terms. -/
abbrev vFrac (n d : Nat) : Value := .tuple #[.int .i64 ((n / Nat.gcd n d : Nat) : Int), .int .i64 ((d / Nat.gcd n d : Nat) : Int)]

theorem wrap_div (n x : Nat) (h : n ≤ 1000000000) : wrap64 ((n : Int) / (x : Int)) = ((n / x : Nat) : Int) := by
  rw [cast_div]
  have := Nat.le_trans (Nat.div_le_self n x) h
  generalize n / x = q at *
  exact IntWalk.wrap64_in _ (by omega)
theorem frac_eq {n d x : Nat} (hn : n ≤ 1000000000) (hd : d ≤ 1000000000) (h : x = Nat.gcd n d) : Ending.returned (.tuple #[.int .i64 (wrap64 ((n : Int) / (x : Int))), .int .i64 (wrap64 ((d : Int) / (x : Int)))]) = .returned (vFrac n d) := by
  rw [wrap_div n x hn, wrap_div d x hd]; subst h; rfl
theorem ret_nat {x y : Nat} (h : x = y) : Ending.returned (.int .i64 (x : Int)) = .returned (.int .i64 (y : Int)) := by rw [h]

theorem s_l14Reduce (n d : Nat) (w : World) (hn : n ≤ 1000000000) (hd0 : 0 < d) (hd : d ≤ 1000000000) :
    Calls Try.prog 53 #[.int .i64 n, .int .i64 d] w fun e w' => e = .returned (vFrac n d) ∧ ∃ q, w' = w.drewN q := by
  go_enter Try.func53, Try.ntmps53
  go_wp2
  go_loop [6, 7] (fun a b => ∃ x y : Nat, a = .int .i64 x ∧ b = .int .i64 y ∧ x ≤ 1000000000 ∧ y ≤ 1000000000 ∧ Hid (Nat.gcd x y = Nat.gcd n d)) (fun _ b => (intOf b).toNat)
  case atStart => exact ⟨n, d, rfl, rfl, hn, hd, rfl⟩
  case round =>
    obtain ⟨x, y, rfl, rfl, hx, hy, hg⟩ := hrel
    by_cases h0 : y = 0
    · have hxg : x = Nat.gcd n d := by have := hg.out; rw [h0, Nat.gcd_zero_right] at this; exact this
      have hx0 : 0 < x := by rw [hxg]; exact Nat.gcd_pos_of_pos_right _ hd0
      have hy0 : ((y : Int) != 0) = false := by simp [h0]
      have HX := Lib.hid hxg; clear hxg hg h0
      go_wp2
      go_quiet (fail)
      go_wp2
      go_ret2
      exact ⟨frac_eq hn hd HX.out, nq, rfl⟩
    · have hy0 : ((y : Int) != 0) = true := by simp; omega
      have hm : x % y < y := Nat.mod_lt _ (by omega)
      have HG : Hid (Nat.gcd y (x % y) = Nat.gcd n d) := by simp only [Hid]; rw [gcd_step]; exact hg.out
      have hyp : 0 < y := by omega
      clear hg h0
      go_wp2
      go_round
      case rel => exact ⟨y, x % y, rfl, by rw [← cast_mod], hy, by omega, HG⟩
      case measure => simp [intOf]; omega

theorem i_absOf (n : Nat) (w : World) (hn : n ≤ 1000000000) :
    Calls Try.prog 75 #[.int .i64 n] w fun e w' => e = .returned (.int .i64 n) ∧ w = w' := by
  go_enter Try.func75, Try.ntmps75
  go_wp2
  go_ret
  refine ⟨ret_int ?_, rfl⟩
  simp

theorem i_gcdOf (n d : Nat) (w : World) (hn : n ≤ 1000000000) (hd0 : 0 < d) (hd : d ≤ 1000000000) :
    Calls Try.prog 71 #[.int .i64 n, .int .i64 d] w fun e w' => e = .returned (.int .i64 (Nat.gcd n d)) ∧ ∃ q, w' = w.drewN q := by
  go_enter Try.func71, Try.ntmps71
  go_wp2_with fail
  refine (i_absOf n _ hn).mono ?_
  rintro e w' ⟨rfl, rfl⟩
  go_wp2_with fail
  refine (i_absOf d _ hd).mono ?_
  rintro e w' ⟨rfl, rfl⟩
  go_wp2_with fail
  go_loopw [0, 1] (fun a b wr => ∃ x y : Nat, a = .int .i64 x ∧ b = .int .i64 y ∧ x ≤ 1000000000 ∧ y ≤ 1000000000 ∧ Hid (Nat.gcd x y = Nat.gcd n d) ∧ Hid (∃ q, wr = w.drewN q)) (fun _ b _ => (intOf b).toNat)
  case atStart => exact ⟨n, d, rfl, rfl, hn, hd, rfl, 0, rfl⟩
  case round =>
    obtain ⟨x, y, rfl, rfl, hx, hy, hg, hw⟩ := hrel
    by_cases h0 : y = 0
    · have hxg : x = Nat.gcd n d := by have := hg.out; rw [h0, Nat.gcd_zero_right] at this; exact this
      have hy0 : ((y : Int) != 0) = false := by simp [h0]
      have HX := Lib.hid hxg; clear hxg hg h0
      go_wp2
      go_ret
      exact ⟨ret_nat HX.out, hw.out⟩
    · have hy0 : ((y : Int) != 0) = true := by simp; omega
      have hm : x % y < y := Nat.mod_lt _ (by omega)
      have HG : Hid (Nat.gcd y (x % y) = Nat.gcd n d) := by simp only [Hid]; rw [gcd_step]; exact hg.out
      have hyp : 0 < y := by omega
      clear hg h0
      go_wp2
      go_quiet (fail)
      go_wp2
      go_roundw
      case rel => exact ⟨y, x % y, rfl, by rw [← cast_mod], hy, by omega, HG, by obtain ⟨q, rfl⟩ := hw.out; exact ⟨q + nq, World.drewN_drewN _ _ _⟩⟩
      case measure => simp [intOf]; omega

theorem i_lowestTerms (n d : Nat) (w : World) (hn : n ≤ 1000000000) (hd0 : 0 < d) (hd : d ≤ 1000000000) :
    Calls Try.prog 51 #[.int .i64 n, .int .i64 d] w fun e w' => e = .returned (vFrac n d) ∧ ∃ q, w' = w.drewN q := by
  have hg0 : 0 < Nat.gcd n d := Nat.gcd_pos_of_pos_right _ hd0
  have hg1 : Nat.gcd n d ≤ 1000000000 := Nat.le_trans (Nat.gcd_le_right _ hd0) hd
  have hc := i_gcdOf n d w hn hd0 hd
  obtain ⟨g, hg⟩ : ∃ g, g = Nat.gcd n d := ⟨_, rfl⟩
  rw [← hg] at hg0 hg1 hc
  have HG := Lib.hid hg; clear hg
  have HC := Lib.hid hc; clear hc
  go_enter Try.func51, Try.ntmps51
  go_wp2_with fail
  refine HC.out.mono ?_
  rintro e w' ⟨rfl, q, rfl⟩
  go_wp2
  go_quiet (fail)
  go_wp2
  go_ret2
  exact ⟨frac_eq hn hd HG.out, q + nq, by simp⟩

theorem s_l14Result (v : Value) (xs : List Int) (w : World) (h : IntsAt w v xs) :
    Calls Try.prog 58 #[v] w fun e w' => e = .returned (.bool (inB xs.length 1 8 && allIn 0 50 xs)) ∧ w = w' := by
  have hI := h
  obtain ⟨_, ao, cap, rfl, h1, h2, h3⟩ := h
  unfold maxLen at h2
  go_enter Try.func58, Try.ntmps58
  go_wp2
  go_loop [3] (fun i => ∃ k : Nat, k ≤ xs.length ∧ i = .int .i64 k ∧ Hid (allIn 0 50 xs = allIn 0 50 (xs.drop k))) (fun i => xs.length - (intOf i).toNat)
  case atStart => exact ⟨0, by omega, rfl, by simp [Hid]⟩
  case round =>
    obtain ⟨k, hk, rfl, hd⟩ := hrel
    by_cases hlt : k < xs.length
    · obtain ⟨b, off, rfl, h4, h5⟩ := h3 (by omega)
      have hc : w.cell? ⟨b, off + k, none⟩ = some (.int .i64 xs[k]) := h5.int hlt
      have hd' := hd.out
      simp only [drop_at hlt, allIn, List.all_cons] at hd'
      cases hin : inB xs[k] 0 50 with
      | true =>
        have HD : Hid (allIn 0 50 xs = allIn 0 50 (xs.drop (k + 1))) := by simpa [Hid, hin] using hd'
        generalize xs[k] = x at *
        clear hd hd'
        have HPX := Lib.hid hin; clear hin
        go_wp2_with (go_at_call 52; refine (s_l1In _ _ _ _).mono ?_; rw [HPX.out]; rintro e w' ⟨rfl, rfl⟩)
        go_round
        case rel => exact ⟨k + 1, by omega, by go_num, HD⟩
        case measure => simp [intOf]; omega
      | false =>
        have HD : Hid ((inB xs.length 1 8 && allIn 0 50 xs) = false) := by
          have : allIn 0 50 xs = false := by simpa [hin] using hd'
          simp [Hid, this]
        generalize xs[k] = x at *
        clear hd hd'
        have HPX := Lib.hid hin; clear hin
        go_wp2_with (go_at_call 52; refine (s_l1In _ _ _ _).mono ?_; rw [HPX.out]; rintro e w' ⟨rfl, rfl⟩)
        go_ret
        exact ⟨ret_bool HD.out.symm, rfl⟩
    · have HA : Hid (allIn 0 50 xs = true) := by
        have := hd.out
        rw [List.drop_of_length_le (by omega)] at this
        simpa [Hid] using this
      have HK := Lib.hid (show k = xs.length by omega)
      clear hd
      go_wp2_with (go_at_call 52; refine (s_l1In _ _ _ _).mono ?_; rintro e w' ⟨rfl, rfl⟩)
      go_ret
      exact ⟨ret_bool (by rw [HA.out, Bool.and_true]), rfl⟩

theorem i_areResults1 (x : Int) (w : World) :
    Calls Try.prog 68 #[.int .i64 x] w fun e w' => e = .returned (.bool (!inB x 0 50)) ∧ w = w' := by
  go_enter Try.func68, Try.ntmps68
  go_wp2_with (go_at_call 47; refine (i_inside _ _ _ _).mono ?_; rintro e w' ⟨rfl, rfl⟩)
  go_ret
  exact ⟨rfl, rfl⟩

theorem i_areResults (v : Value) (xs : List Int) (w : World) (h : IntsAt w v xs) :
    Calls Try.prog 45 #[v] w fun e w' => e = .returned (.bool (allIn 0 50 xs)) ∧ Below w.heap.size w w' := by
  obtain ⟨ao, cap, rfl⟩ := h.form
  have hany : (xs.any fun x => !inB x 0 50) = !allIn 0 50 xs := by simp [allIn, List.all_eq_not_any_not]
  have hcl := ContainsFunc_int 68 (enters_of Try.func68 (by kernel_rfl) (by kernel_rfl)) [] (fun x => !inB x 0 50) _ xs w h (fun x w' hb => (i_areResults1 x w').mono fun e w'' ⟨he, hw⟩ => ⟨he, hw ▸ Below.refl _ _⟩)
  rw [hany] at hcl
  have HC := Lib.hid hcl; clear hcl hany
  go_enter Try.func45, Try.ntmps45
  go_wp2_with (go_at_call 48; refine HC.out.mono ?_; rintro e w1 ⟨rfl, hb1⟩)
  go_ret
  exact ⟨ret_bool (by simp), hb1⟩

/-- Votes and a result are valid for a look at the quota. -/
def quotaOk (vs rs : List Int) : Bool := votesOk vs && decide (rs.length = vs.length) && allIn 0 50 rs && decide (rs.sum ≤ 50)
/-- Each group has its quota. -/
def keepsB (all seats : Int) : List Int → List Int → Bool
  | v :: vs, r :: rs => inB r (v * seats / all) ((v * seats + all - 1) / all) && keepsB all seats vs rs
  | _, _ => true

theorem quotaOk_parts {vs rs : List Int} (h : quotaOk vs rs = true) : votesOk vs = true ∧ rs.length = vs.length ∧ allIn 0 50 rs = true ∧ rs.sum ≤ 50 := by
  simpa [quotaOk, and_assoc] using h
theorem votesOk_parts {vs : List Int} (h : votesOk vs = true) : (1 ≤ vs.length ∧ vs.length ≤ 8) ∧ (∀ x ∈ vs, 0 ≤ x ∧ x ≤ 10000) ∧ 0 < vs.sum ∧ vs.sum ≤ 80000 := by
  simp only [votesOk, Bool.and_eq_true, decide_eq_true_eq] at h
  obtain ⟨⟨h1, h2⟩, h3⟩ := h
  have h1 := inB_iff.1 h1
  have h2 := allIn_iff.1 h2
  have := sum_bound 10000 vs h2
  refine ⟨by omega, h2, h3, by omega⟩

theorem mul_bd {a b c d : Int} (h1 : 0 ≤ a) (h2 : a ≤ c) (h3 : 0 ≤ b) (h4 : b ≤ d) : 0 ≤ a * b ∧ a * b ≤ c * d :=
  ⟨Int.mul_nonneg h1 h3, Int.mul_le_mul h2 h4 h3 (by omega)⟩

theorem div_bd {a b c : Int} (h1 : 0 ≤ a) (h2 : a ≤ c) (h3 : 0 < b) : 0 ≤ a / b ∧ a / b ≤ c :=
  ⟨Int.ediv_nonneg h1 (by omega), Int.le_trans (Int.ediv_le_self _ h1) h2⟩

theorem wrapQ {m A : Int} (h0 : 0 ≤ m) (h1 : m ≤ 1000000) (a0 : 0 < A) (a1 : A ≤ 1000000) :
    wrap64 (m / A) = m / A ∧ wrap64 ((m + A - 1) / A) = (m + A - 1) / A := by
  have d1 := div_bd h0 h1 a0
  have d2 := div_bd (a := m + A - 1) (c := 2000000) (by omega) (by omega) a0
  generalize m / A = q at *
  generalize (m + A - 1) / A = q' at *
  exact ⟨IntWalk.wrap64_in _ (by omega), IntWalk.wrap64_in _ (by omega)⟩

theorem s_KeepsQuota (v : Value) (vs : List Int) (u : Value) (rs : List Int) (w : World) (h : IntsAt w v vs) (g : IntsAt w u rs) :
    Calls Try.prog 30 #[v, u] w fun e w' => e = .returned (.tuple #[.bool (quotaOk vs rs && keepsB vs.sum rs.sum vs rs), .bool (quotaOk vs rs)]) ∧ Below w.heap.size w w' := by
  have hI := h
  have gI := g
  obtain ⟨_, ao, cap, rfl, h1, h2, h3⟩ := h
  obtain ⟨_, ao', cap', rfl, g1, g2, g3⟩ := g
  cases hv : votesOk vs with
  | false =>
    have HO : Hid (quotaOk vs rs = false) := by simp [Hid, quotaOk, hv]
    have HV := Lib.hid hv; clear hv
    go_enter Try.func30, Try.ntmps30
    go_wp2_with (go_at_call 57; refine (s_l14Good _ vs _ hI).mono ?_; rw [HV.out]; rintro e w' ⟨rfl, rfl⟩)
    go_ret2
    exact ⟨ret_bb (by rw [HO.out]; rfl) (by rw [HO.out]), Below.refl _ _⟩
  | true =>
    obtain ⟨⟨v1, v2⟩, v3, v4, v5⟩ := votesOk_parts hv
    cases hr : (inB rs.length 1 8 && allIn 0 50 rs) with
    | false =>
      have HO : Hid (quotaOk vs rs = false) := by
        simp only [Hid]
        rw [← Bool.not_eq_true]
        intro hq
        obtain ⟨_, q2, q3, _⟩ := quotaOk_parts hq
        have : (inB rs.length 1 8 && allIn 0 50 rs) = true := by rw [q3, Bool.and_true, inB_iff]; omega
        rw [hr] at this
        cases this
      have HV := Lib.hid hv; clear hv
      have HR := Lib.hid hr; clear hr
      go_enter Try.func30, Try.ntmps30
      go_wp2_with (first | (go_at_call 57; refine (s_l14Good _ vs _ hI).mono ?_; rw [HV.out]; rintro e w' ⟨rfl, rfl⟩) | (go_at_call 58; refine (s_l14Result _ rs _ gI).mono ?_; rw [HR.out]; rintro e w' ⟨rfl, rfl⟩))
      go_ret2
      exact ⟨ret_bb (by rw [HO.out]; rfl) (by rw [HO.out]), Below.refl _ _⟩
    | true =>
      have hr' := hr
      simp only [Bool.and_eq_true] at hr'
      have r1 := inB_iff.1 hr'.1
      have r3 := allIn_iff.1 hr'.2
      have hallr : allIn 0 50 rs = true := hr'.2
      have hsr : ∀ x ∈ rs, 0 ≤ x ∧ x ≤ 1000000 := fun x hx => by have := r3 x hx; omega
      have hsv : ∀ x ∈ vs, 0 ≤ x ∧ x ≤ 1000000 := fun x hx => by have := v3 x hx; omega
      have hb := sum_bound 50 rs r3
      have hrl : rs.length ≤ 1048576 := by omega
      have hvl : vs.length ≤ 1048576 := by omega
      have HSR := Lib.hid hsr; clear hsr
      have HSV := Lib.hid hsv; clear hsv
      have HV := Lib.hid hv
      have HR := Lib.hid hr; clear hr
      by_cases hl : rs.length = vs.length
      · by_cases hs : rs.sum ≤ 50
        · have HO : Hid (quotaOk vs rs = true) := by simp [Hid, quotaOk, hv, hl, hallr, hs]
          have hlb : (((rs.length : Nat) : Int) != ((vs.length : Nat) : Int)) = false := by simp [hl]
          have hsb : decide (50 < rs.sum) = false := by simp; omega
          have HL := Lib.hid hl; clear hl
          have HV3 := Lib.hid v3; have HR3 := Lib.hid r3
          clear hv v3 r3 hr' hallr
          go_enter Try.func30, Try.ntmps30
          go_wp2_with (first | (go_at_call 57; refine (s_l14Good _ vs _ hI).mono ?_; rw [HV.out]; rintro e w' ⟨rfl, rfl⟩) | (go_at_call 58; refine (s_l14Result _ rs _ gI).mono ?_; rw [HR.out]; rintro e w' ⟨rfl, rfl⟩) | (go_at_call_of 54 (Value.slice ao' rs.length cap'); refine (s_l14Sum _ rs _ gI HSR.out hrl).mono ?_; rintro e w' ⟨rfl, rfl⟩) | (go_at_call 54; refine (s_l14Sum _ vs _ hI HSV.out hvl).mono ?_; rintro e w' ⟨rfl, rfl⟩))
          go_loopw [8] (fun i wr => ∃ k : Nat, k ≤ vs.length ∧ i = .int .i64 k ∧ Hid (keepsB vs.sum rs.sum vs rs = keepsB vs.sum rs.sum (vs.drop k) (rs.drop k)) ∧ Below w.heap.size w wr) (fun i _ => vs.length - (intOf i).toNat)
          case atStart => exact ⟨0, by omega, rfl, by simp [Hid], Below.refl _ _⟩
          case round =>
            obtain ⟨k, hk, rfl, hd, hbw⟩ := hrel
            by_cases hlt : k < vs.length
            · have hlt' : k < rs.length := by have := HL.out; omega
              obtain ⟨b, off, rfl, h4, h5⟩ := h3 (by omega)
              obtain ⟨b', off', rfl, g4, g5⟩ := g3 (by omega)
              have hc : wr.cell? ⟨b, off + k, none⟩ = some (.int .i64 vs[k]) := by rw [hbw.cell (p := ⟨b, off + k, none⟩) h4, h5.int hlt]
              have hc' : wr.cell? ⟨b', off' + k, none⟩ = some (.int .i64 rs[k]) := by rw [hbw.cell (p := ⟨b', off' + k, none⟩) g4, g5.int hlt']
              have hd' := hd.out
              simp only [drop_at hlt, drop_at hlt', keepsB] at hd'
              have hx := HV3.out vs[k] (List.getElem_mem hlt)
              have hy := HR3.out rs[k] (List.getElem_mem hlt')
              have hm := mul_bd hx.1 hx.2 hb.1 hs
              obtain ⟨q1, q2⟩ := wrapQ (m := vs[k] * rs.sum) (A := vs.sum) hm.1 (by omega) v4 (by omega)
              generalize vs[k] = x at *
              generalize rs[k] = y at *
              clear hd
              cases hin : inB y (x * rs.sum / vs.sum) ((x * rs.sum + vs.sum - 1) / vs.sum) with
              | true =>
                have HD := Lib.hid (show keepsB vs.sum rs.sum vs rs = keepsB vs.sum rs.sum (vs.drop (k + 1)) (rs.drop (k + 1)) by simpa [hin] using hd')
                clear hd'
                go_wp2
                go_quiet ((go_at_call 52; exact quiet_eq (s_l1In _ _ _ _)))
                go_wp2
                go_roundw
                case rel => exact ⟨k + 1, by omega, by go_num, HD, Below.drewN' hbw _⟩
                case measure => simp [intOf]; omega
              | false =>
                have HD := Lib.hid (show keepsB vs.sum rs.sum vs rs = false by simpa [hin] using hd')
                clear hd'
                go_wp2
                go_quiet ((go_at_call 52; exact quiet_eq (s_l1In _ _ _ _)))
                go_wp2
                go_ret2
                exact ⟨ret_bb (by rw [HO.out, HD.out]; rfl) (by rw [HO.out]), Below.drewN' hbw _⟩
            · have HD := Lib.hid (show keepsB vs.sum rs.sum vs rs = true by
                have := hd.out
                rw [List.drop_of_length_le (by omega)] at this
                simpa [keepsB] using this)
              clear hd
              go_wp2
              go_ret2
              exact ⟨ret_bb (by rw [HO.out, HD.out]; rfl) (by rw [HO.out]), hbw⟩
        · have HO : Hid (quotaOk vs rs = false) := by simp [Hid, quotaOk, hs]
          have hlb : (((rs.length : Nat) : Int) != ((vs.length : Nat) : Int)) = false := by simp [hl]
          have hsb : 50 < rs.sum := by omega
          have HL := Lib.hid hl; clear hl
          clear hv v3 r3 hr' hallr
          go_enter Try.func30, Try.ntmps30
          go_wp2_with (first | (go_at_call 57; refine (s_l14Good _ vs _ hI).mono ?_; rw [HV.out]; rintro e w' ⟨rfl, rfl⟩) | (go_at_call 58; refine (s_l14Result _ rs _ gI).mono ?_; rw [HR.out]; rintro e w' ⟨rfl, rfl⟩) | (go_at_call_of 54 (Value.slice ao' rs.length cap'); refine (s_l14Sum _ rs _ gI HSR.out hrl).mono ?_; rintro e w' ⟨rfl, rfl⟩))
          go_ret2
          exact ⟨ret_bb (by rw [HO.out]; rfl) (by rw [HO.out]), Below.refl _ _⟩
      · have HO : Hid (quotaOk vs rs = false) := by simp [Hid, quotaOk, hl]
        have hlb : (((rs.length : Nat) : Int) != ((vs.length : Nat) : Int)) = true := by simp; omega
        have HL := Lib.hid hl; clear hl
        clear hv v3 r3 hr' hallr
        go_enter Try.func30, Try.ntmps30
        go_wp2_with (first | (go_at_call 57; refine (s_l14Good _ vs _ hI).mono ?_; rw [HV.out]; rintro e w' ⟨rfl, rfl⟩) | (go_at_call 58; refine (s_l14Result _ rs _ gI).mono ?_; rw [HR.out]; rintro e w' ⟨rfl, rfl⟩))
        go_ret2
        exact ⟨ret_bb (by rw [HO.out]; rfl) (by rw [HO.out]), Below.refl _ _⟩

theorem i_KeepsQuota (v : Value) (vs : List Int) (u : Value) (rs : List Int) (w : World) (h : IntsAt w v vs) (g : IntsAt w u rs) :
    Calls Try.prog 22 #[v, u] w fun e w' => e = .returned (.tuple #[.bool (quotaOk vs rs && keepsB vs.sum rs.sum vs rs), .bool (quotaOk vs rs)]) ∧ Below w.heap.size w w' := by
  have hI := h
  have gI := g
  obtain ⟨_, ao, cap, rfl, h1, h2, h3⟩ := h
  obtain ⟨_, ao', cap', rfl, g1, g2, g3⟩ := g
  cases hv : votesOk vs with
  | false =>
    have HO : Hid (quotaOk vs rs = false) := by simp [Hid, quotaOk, hv]
    have HV := Lib.hid hv; clear hv
    go_enter Try.func22, Try.ntmps22
    go_wp2_with (go_at_call 24; refine (i_AreVotes _ vs _ hI).mono ?_; rw [HV.out]; rintro e w1 ⟨rfl, hb1⟩)
    go_ret2
    exact ⟨ret_bb (by rw [HO.out]; rfl) (by rw [HO.out]), hb1⟩
  | true =>
    obtain ⟨⟨v1, v2⟩, v3, v4, v5⟩ := votesOk_parts hv
    have HV := Lib.hid hv
    by_cases hl : rs.length = vs.length
    · have hlb : (((rs.length : Nat) : Int) != ((vs.length : Nat) : Int)) = false := by simp [hl]
      have hrl : rs.length ≤ 1048576 := by omega
      have hvl : vs.length ≤ 1048576 := by omega
      cases hallr : allIn 0 50 rs with
      | false =>
        have HO : Hid (quotaOk vs rs = false) := by simp [Hid, quotaOk, hallr]
        have HL := Lib.hid hl; clear hl
        have HR := Lib.hid hallr; clear hallr
        clear hv v3
        go_enter Try.func22, Try.ntmps22
        go_wp2_with (first | (go_at_call 24; refine (i_AreVotes _ vs _ hI).mono ?_; rw [HV.out]; rintro e w1 ⟨rfl, hb1⟩) | (go_at_call 45; refine (i_areResults _ rs _ (gI.below hb1)).mono ?_; rw [HR.out]; rintro e w2 ⟨rfl, hb2⟩))
        go_ret2
        exact ⟨ret_bb (by rw [HO.out]; rfl) (by rw [HO.out]), below_step hb1 hb2⟩
      | true =>
        have r3 := allIn_iff.1 hallr
        have hsr : ∀ x ∈ rs, 0 ≤ x ∧ x ≤ 1000000 := fun x hx => by have := r3 x hx; omega
        have hsv : ∀ x ∈ vs, 0 ≤ x ∧ x ≤ 1000000 := fun x hx => by have := v3 x hx; omega
        have hb := sum_bound 50 rs r3
        have HSR := Lib.hid hsr; clear hsr
        have HSV := Lib.hid hsv; clear hsv
        have HR := Lib.hid hallr
        by_cases hs : rs.sum ≤ 50
        · have HO : Hid (quotaOk vs rs = true) := by simp [Hid, quotaOk, hv, hl, hallr, hs]
          have hsb : decide (50 < rs.sum) = false := by simp; omega
          have HL := Lib.hid hl; clear hl
          have HV3 := Lib.hid v3; have HR3 := Lib.hid r3
          clear hv v3 r3 hallr
          go_enter Try.func22, Try.ntmps22
          go_wp2_with (first | (go_at_call 24; refine (i_AreVotes _ vs _ hI).mono ?_; rw [HV.out]; rintro e w1 ⟨rfl, hb1⟩) | (go_at_call 45; refine (i_areResults _ rs _ (gI.below hb1)).mono ?_; rw [HR.out]; rintro e w2 ⟨rfl, hb2⟩; have hb12 := below_step hb1 hb2) | (go_at_call_of 46 (Value.slice ao' rs.length cap'); refine (i_sumInts _ rs _ (gI.below hb12) HSR.out hrl).mono ?_; rintro e w' ⟨rfl, rfl⟩) | (go_at_call 46; refine (i_sumInts _ vs _ (hI.below hb12) HSV.out hvl).mono ?_; rintro e w' ⟨rfl, rfl⟩))
          go_loopw [36] (fun i wr => ∃ k : Nat, k ≤ vs.length ∧ i = .int .i64 k ∧ Hid (keepsB vs.sum rs.sum vs rs = keepsB vs.sum rs.sum (vs.drop k) (rs.drop k)) ∧ Below w.heap.size w wr) (fun i _ => vs.length - (intOf i).toNat)
          case atStart => exact ⟨0, by omega, rfl, by simp [Hid], hb12⟩
          case round =>
            clear hb1 hb2 hb12
            obtain ⟨k, hk, rfl, hd, hbw⟩ := hrel
            by_cases hlt : k < vs.length
            · have hlt' : k < rs.length := by have := HL.out; omega
              obtain ⟨b, off, rfl, h4, h5⟩ := h3 (by omega)
              obtain ⟨b', off', rfl, g4, g5⟩ := g3 (by omega)
              have hc : wr.cell? ⟨b, off + k, none⟩ = some (.int .i64 vs[k]) := by rw [hbw.cell (p := ⟨b, off + k, none⟩) h4, h5.int hlt]
              have hc' : wr.cell? ⟨b', off' + k, none⟩ = some (.int .i64 rs[k]) := by rw [hbw.cell (p := ⟨b', off' + k, none⟩) g4, g5.int hlt']
              have hd' := hd.out
              simp only [drop_at hlt, drop_at hlt', keepsB] at hd'
              have hx := HV3.out vs[k] (List.getElem_mem hlt)
              have hy := HR3.out rs[k] (List.getElem_mem hlt')
              have hm := mul_bd hx.1 hx.2 hb.1 hs
              obtain ⟨q1, q2⟩ := wrapQ (m := vs[k] * rs.sum) (A := vs.sum) hm.1 (by omega) v4 (by omega)
              have q3 : wrap64 (vs[k] * rs.sum) = vs[k] * rs.sum := IntWalk.wrap64_in _ (by omega)
              generalize vs[k] = x at *
              generalize rs[k] = y at *
              clear hd
              cases hin : inB y (x * rs.sum / vs.sum) ((x * rs.sum + vs.sum - 1) / vs.sum) with
              | true =>
                have HD := Lib.hid (show keepsB vs.sum rs.sum vs rs = keepsB vs.sum rs.sum (vs.drop (k + 1)) (rs.drop (k + 1)) by simpa [hin] using hd')
                clear hd'
                go_wp2
                go_quiet ((go_at_call 47; exact quiet_eq (i_inside _ _ _ _)))
                go_wp2
                go_roundw
                case rel => exact ⟨k + 1, by omega, by go_num, HD, Below.drewN' hbw _⟩
                case measure => simp [intOf]; omega
              | false =>
                have HD := Lib.hid (show keepsB vs.sum rs.sum vs rs = false by simpa [hin] using hd')
                clear hd'
                go_wp2
                go_quiet ((go_at_call 47; exact quiet_eq (i_inside _ _ _ _)))
                go_wp2
                go_ret2
                exact ⟨ret_bb (by rw [HO.out, HD.out]; rfl) (by rw [HO.out]), Below.drewN' hbw _⟩
            · have HD := Lib.hid (show keepsB vs.sum rs.sum vs rs = true by
                have := hd.out
                rw [List.drop_of_length_le (by omega)] at this
                simpa [keepsB] using this)
              clear hd
              go_wp2
              go_ret2
              exact ⟨ret_bb (by rw [HO.out, HD.out]; rfl) (by rw [HO.out]), hbw⟩
        · have HO : Hid (quotaOk vs rs = false) := by simp [Hid, quotaOk, hs]
          have hsb : 50 < rs.sum := by omega
          have HL := Lib.hid hl; clear hl
          clear hv v3 r3 hallr
          go_enter Try.func22, Try.ntmps22
          go_wp2_with (first | (go_at_call 24; refine (i_AreVotes _ vs _ hI).mono ?_; rw [HV.out]; rintro e w1 ⟨rfl, hb1⟩) | (go_at_call 45; refine (i_areResults _ rs _ (gI.below hb1)).mono ?_; rw [HR.out]; rintro e w2 ⟨rfl, hb2⟩; have hb12 := below_step hb1 hb2) | (go_at_call_of 46 (Value.slice ao' rs.length cap'); refine (i_sumInts _ rs _ (gI.below hb12) HSR.out hrl).mono ?_; rintro e w' ⟨rfl, rfl⟩))
          go_ret2
          exact ⟨ret_bb (by rw [HO.out]; rfl) (by rw [HO.out]), hb12⟩
    · have HO : Hid (quotaOk vs rs = false) := by simp [Hid, quotaOk, hl]
      have hlb : (((rs.length : Nat) : Int) != ((vs.length : Nat) : Int)) = true := by simp; omega
      have HL := Lib.hid hl; clear hl
      clear hv v3
      go_enter Try.func22, Try.ntmps22
      go_wp2_with (go_at_call 24; refine (i_AreVotes _ vs _ hI).mono ?_; rw [HV.out]; rintro e w1 ⟨rfl, hb1⟩)
      go_ret2
      exact ⟨ret_bb (by rw [HO.out]; rfl) (by rw [HO.out]), hb1⟩

end Go.Proofs.Ytokjamdikenkoaa
