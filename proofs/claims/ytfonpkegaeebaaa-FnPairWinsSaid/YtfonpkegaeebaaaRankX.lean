/- Contracts: PairTable, CondorcetWinner, CopelandWinners, the reference's and the program's. No conditions beyond sizes. -/
import Derived.Test.YtfonpkegaeebaaaRankV
namespace Go.Proofs.Ytfonpkegaeebaaa
open Go.RowKit
set_option linter.unusedVariables false
set_option linter.unusedSimpArgs false

theorem elect_facts {n : Int} {rs : List DRanking} (hok : electOk n rs = true) : ∃ N : Nat, n = N ∧ 1 ≤ N ∧ N ≤ 5 ∧ rs.length ≤ 9 ∧ (∀ r ∈ rs, permOk N r.order = true ∧ 1 ≤ r.weight ∧ r.weight ≤ 100) ∧ (∀ r ∈ rs, r.order.length ≤ 5 ∧ 1 ≤ r.weight ∧ r.weight ≤ 100) := by
  obtain ⟨N, rfl, hN1, hN5, h1, h9, hrs⟩ := electOk_parts hok
  refine ⟨N, rfl, hN1, hN5, h9, fun r hr => ⟨?_, (hrs r hr).2.2⟩, fun r hr => ⟨by have := (hrs r hr).1; omega, (hrs r hr).2.2⟩⟩
  simp only [electOk, Bool.and_eq_true, List.all_eq_true] at hok
  have := hok.2 r hr
  simp only [rankOk, Bool.and_eq_true] at this
  exact this.1

def pairTV (n : Int) (rs : List DRanking) : List (List Int) × Bool := if electOk n rs then (pairT n.toNat rs n.toNat, true) else ([], false)
theorem pairT_sum (N : Nat) (rs : List DRanking) (k : Nat) : lenSum (pairT N rs k) = N * k := by
  induction k with
  | zero => rfl
  | succ k ih =>
    have hr : (pairRow N rs k).length = N := by simp [pairRow]
    have : lenSum (pairT N rs (k + 1)) = lenSum (pairT N rs k) + N := by
      simp only [pairT, lenSum, sumG, List.map_append, List.sum_append, List.map_cons, List.map_nil, List.sum_cons, List.sum_nil, hr]
      omega
    rw [this, ih, Nat.mul_add]
    omega
theorem pairTV_len (n : Int) (rs : List DRanking) : lenSum (pairTV n rs).1 ≤ 4000000 := by
  unfold pairTV
  split
  · rename_i h
    obtain ⟨N, rfl, _, h5, _⟩ := electOk_parts h
    simp only [Int.toNat_natCast]
    rw [pairT_sum]
    have := Nat.mul_le_mul h5 h5
    omega
  · simp [lenSum, sumG]

/-- The first place where n - 1 others are beaten. -/
def condV (n : Int) (rs : List DRanking) : Int × Bool :=
  if electOk n rs then (if idxFrom (fun x => (n - 1) == x) 0 (beatsL n.toNat rs) < 0 then (0, false) else (idxFrom (fun x => (n - 1) == x) 0 (beatsL n.toNat rs), true)) else (0, false)
def copeV (n : Int) (rs : List DRanking) : List Int × Bool := if electOk n rs then (best (beatsL n.toNat rs), true) else ([], false)
theorem beatsL_len (N : Nat) (rs : List DRanking) : (beatsL N rs).length = N := by simp [beatsL]
theorem copeV_len (n : Int) (rs : List DRanking) : (copeV n rs).1.length ≤ 4000000 := by
  unfold copeV
  split
  · rename_i h
    obtain ⟨N, rfl, _, h5, _⟩ := electOk_parts h
    simp only [best, Int.toNat_natCast, beatsL_len]
    have := winL_len (mxK (beatsL N rs) N) (beatsL N rs) N
    omega
  · simp
theorem idxFrom_ge {α : Type} (p : α → Bool) (k : Nat) (xs : List α) : idxFrom p k xs = -1 ∨ (k : Int) ≤ idxFrom p k xs := by
  induction xs generalizing k with
  | nil => exact .inl rfl
  | cons a r ih =>
    simp only [idxFrom]
    split
    · exact .inr (by omega)
    · rcases ih (k + 1) with h | h
      · exact .inl h
      · exact .inr (by omega)

set_option maxHeartbeats 1000000 in
theorem s_PairTable (n : Int) (v : Value) (rs : List DRanking) (w : World) (h : RanksAt w v rs) :
    Calls Try.prog 15 #[.int .i64 n, v] w fun e w' => ∃ p, e = .returned (.tuple #[p, .bool (pairTV n rs).2]) ∧ OwnTab w' w.heap.size p (pairTV n rs).1 ∧ Below w.heap.size w w' := by
  have HQ := s_l13Good n v rs w h
  obtain ⟨ao, cap, rfl⟩ := h.form
  have fin0 : ∀ w1, Below w.heap.size w w1 → OwnTab (w1.alloc (.cells #[] 27)) w.heap.size (.slice (some ⟨w1.heap.size, 0, none⟩) 0 0) [] ∧ Below w.heap.size w (w1.alloc (.cells #[] 27)) := fun w1 hb => ⟨OwnNest.base (OwnNest.lit _ _ w1) hb.size, hb.alloc hb.size _⟩
  cases hok : electOk n rs with
  | false =>
    have HR : pairTV n rs = ([], false) := by simp [pairTV, hok]
    rw [HR]
    rw [hok] at HQ
    have HQ' := Lib.hid HQ; clear HQ hok HR
    go_enter Try.func15, Try.ntmps15
    go_wp2_with (go_at_call 32; refine HQ'.out.mono ?_; rintro e w1 ⟨rfl, hb1⟩)
    go_ret2
    exact ⟨_, rfl, fin0 _ hb1⟩
  | true =>
    rw [hok] at HQ
    have HQ' := Lib.hid HQ; clear HQ
    obtain ⟨N, rfl, hN1, hN5, hF⟩ := elect_facts hok
    have HR : pairTV (N : Int) rs = (pairT N rs N, true) := by simp [pairTV, hok]
    rw [HR]
    have HF := Lib.hid hF
    clear HR hok hF
    go_enter Try.func15, Try.ntmps15
    go_wp2_with (first | (go_at_call 32; refine HQ'.out.mono ?_; rintro e w1 ⟨rfl, hb1⟩) | (go_at_call 33; refine (s_l13Pairs N _ rs _ (h.below hb1) hN5 HF.out.1 HF.out.2.1).mono ?_; rintro e w2 ⟨p2, rfl, ho2, hb2⟩; obtain ⟨a2, k2, hpf⟩ := ho2.at_.form; rw [pairT_len] at hpf; subst hpf))
    go_ret2
    exact ⟨_, rfl, OwnNest.base ho2 hb1.size, below_step hb1 hb2⟩

set_option maxHeartbeats 1000000 in
theorem i_PairTable (n : Int) (v : Value) (rs : List DRanking) (w : World) (h : RanksAt w v rs) :
    Calls Try.prog 14 #[.int .i64 n, v] w fun e w' => ∃ p, e = .returned (.tuple #[p, .bool (pairTV n rs).2]) ∧ OwnTab w' w.heap.size p (pairTV n rs).1 ∧ Below w.heap.size w w' := by
  have HQ := i_IsElection n v rs w h
  obtain ⟨ao, cap, rfl⟩ := h.form
  have fin0 : ∀ w1, Below w.heap.size w w1 → OwnTab w1 w.heap.size (.slice none 0 0) [] ∧ Below w.heap.size w w1 := fun w1 hb => ⟨OwnNest.nil _ _ _ _, hb⟩
  cases hok : electOk n rs with
  | false =>
    have HR : pairTV n rs = ([], false) := by simp [pairTV, hok]
    rw [HR]
    rw [hok] at HQ
    have HQ' := Lib.hid HQ; clear HQ hok HR
    go_enter Try.func14, Try.ntmps14
    go_wp2_with (go_at_call 26; refine HQ'.out.mono ?_; rintro e w1 ⟨rfl, hb1⟩)
    go_ret2
    exact ⟨_, rfl, fin0 _ hb1⟩
  | true =>
    rw [hok] at HQ
    have HQ' := Lib.hid HQ; clear HQ
    obtain ⟨N, rfl, hN1, hN5, hF⟩ := elect_facts hok
    have HR : pairTV (N : Int) rs = (pairT N rs N, true) := by simp [pairTV, hok]
    rw [HR]
    have HF := Lib.hid hF
    clear HR hok hF
    go_enter Try.func14, Try.ntmps14
    go_wp2_with (first | (go_at_call 26; refine HQ'.out.mono ?_; rintro e w1 ⟨rfl, hb1⟩) | (go_at_call 27; refine (i_pairTable N _ rs _ (h.below hb1) hN5 HF.out.1 HF.out.2.2).mono ?_; rintro e w2 ⟨p2, rfl, ho2, hb2⟩; obtain ⟨a2, k2, hpf⟩ := ho2.at_.form; rw [pairT_len] at hpf; subst hpf))
    go_ret2
    exact ⟨_, rfl, OwnNest.base ho2 hb1.size, below_step hb1 hb2⟩

set_option maxHeartbeats 1000000 in
theorem s_CondorcetWinner (n : Int) (v : Value) (rs : List DRanking) (w : World) (h : RanksAt w v rs) :
    Calls Try.prog 10 #[.int .i64 n, v] w fun e w' => e = .returned (.tuple #[.int .i64 (condV n rs).1, .bool (condV n rs).2]) ∧ Below w.heap.size w w' := by
  have HQ := s_l13Good n v rs w h
  obtain ⟨ao, cap, rfl⟩ := h.form
  cases hok : electOk n rs with
  | false =>
    have HR : condV n rs = (0, false) := by simp [condV, hok]
    rw [HR]
    rw [hok] at HQ
    have HQ' := Lib.hid HQ; clear HQ hok HR
    go_enter Try.func10, Try.ntmps10
    go_wp2_with (go_at_call 32; refine HQ'.out.mono ?_; rintro e w1 ⟨rfl, hb1⟩)
    go_ret2
    exact ⟨rfl, hb1⟩
  | true =>
    rw [hok] at HQ
    have HQ' := Lib.hid HQ; clear HQ
    obtain ⟨N, rfl, hN1, hN5, hF⟩ := elect_facts hok
    have HF := Lib.hid hF
    have hbl := beatsL_len N rs
    have hR1 : idxFrom (fun x => ((N : Int) - 1) == x) 0 (beatsL N rs) = -1 → condV (N : Int) rs = (0, false) := fun hx => by simp [condV, hok, hx]
    have hR2 : ∀ k : Nat, idxFrom (fun x => ((N : Int) - 1) == x) 0 (beatsL N rs) = (k : Int) → condV (N : Int) rs = ((k : Int), true) := fun k hx => by
      simp [condV, hok, hx]
    have HR1 := Lib.hid hR1; have HR2 := Lib.hid hR2
    generalize condV (N : Int) rs = cv at *
    have hbeat := fun w1 (hb1 : Below w.heap.size w w1) => s_l13Beats N _ rs w1 (h.below hb1) hN5 HF.out.1 HF.out.2.1
    have HBT := Lib.hid hbeat
    generalize hbs : beatsL N rs = bs at *
    clear hok hF hR1 hR2 hbeat hbs
    go_enter Try.func10, Try.ntmps10
    go_wp2_with (first | (go_at_call 32; refine HQ'.out.mono ?_; rintro e w1 ⟨rfl, hb1⟩) | (go_at_call 38; refine (HBT.out _ hb1).mono ?_; rintro e w2 ⟨p2, rfl, ho2, hb2⟩; have hb' := below_step hb1 hb2; have hat := ho2.at_; obtain ⟨_, a2, k2, rfl, q1, q2, q3⟩ := hat))
    obtain rfl : N = bs.length := hbl.symm
    unfold maxLen at q2
    go_loop [7] (fun i => ∃ k : Nat, k ≤ bs.length ∧ i = .int .i64 k ∧ Hid (idxFrom (fun x => ((bs.length : Int) - 1) == x) 0 bs = idxFrom (fun x => ((bs.length : Int) - 1) == x) k (bs.drop k))) (fun i => bs.length - (intOf i).toNat)
    case atStart => exact ⟨0, by omega, rfl, by simp [Hid]⟩
    case round =>
      obtain ⟨k, hk, rfl, hd⟩ := hrel
      by_cases hlt : k < bs.length
      · obtain ⟨b, off, rfl, h4, h5⟩ := q3 (by omega)
        have hc := h5.int hlt
        have hd' := hd.out
        simp only [drop_at hlt, idxFrom] at hd'
        clear hd
        cases hx : (((bs.length : Int) - 1) == bs[k]) with
        | true =>
          have HD : Hid (cv = ((k : Int), true)) := HR2.out k (by simpa [hx] using hd')
          have hx2 : (bs[k] == ((bs.length : Int) - 1)) = true := by simp at hx ⊢; omega
          generalize bs[k] = x at *
          clear hd'
          go_wp2_with fail
          go_ret2
          exact ⟨ret_ib (by rw [HD.out]) (by rw [HD.out]), hb'⟩
        | false =>
          have HD : Hid (idxFrom (fun x => ((bs.length : Int) - 1) == x) 0 bs = idxFrom (fun x => ((bs.length : Int) - 1) == x) (k + 1) (bs.drop (k + 1))) := by simpa [Hid, hx] using hd'
          have hx2 : (bs[k] == ((bs.length : Int) - 1)) = false := by simp at hx ⊢; omega
          generalize bs[k] = x at *
          clear hd'
          go_wp2_with fail
          go_round
          case rel => exact ⟨k + 1, by omega, by go_num, HD⟩
          case measure => simp [intOf]; omega
      · have HD : Hid (cv = (0, false)) := HR1.out (by
          have := hd.out
          rw [List.drop_of_length_le (by omega)] at this
          simpa [idxFrom] using this)
        clear hd
        go_wp2_with fail
        go_ret2
        exact ⟨ret_ib (by rw [HD.out]) (by rw [HD.out]), hb'⟩

set_option maxHeartbeats 1000000 in
theorem i_CondorcetWinner (n : Int) (v : Value) (rs : List DRanking) (w : World) (h : RanksAt w v rs) :
    Calls Try.prog 9 #[.int .i64 n, v] w fun e w' => e = .returned (.tuple #[.int .i64 (condV n rs).1, .bool (condV n rs).2]) ∧ Below w.heap.size w w' := by
  have HQ := i_IsElection n v rs w h
  obtain ⟨ao, cap, rfl⟩ := h.form
  cases hok : electOk n rs with
  | false =>
    have HR : condV n rs = (0, false) := by simp [condV, hok]
    rw [HR]
    rw [hok] at HQ
    have HQ' := Lib.hid HQ; clear HQ hok HR
    go_enter Try.func9, Try.ntmps9
    go_wp2_with (go_at_call 26; refine HQ'.out.mono ?_; rintro e w1 ⟨rfl, hb1⟩)
    go_ret2
    exact ⟨rfl, hb1⟩
  | true =>
    rw [hok] at HQ
    have HQ' := Lib.hid HQ; clear HQ
    obtain ⟨N, rfl, hN1, hN5, hF⟩ := elect_facts hok
    have HF := Lib.hid hF
    have HR : condV (N : Int) rs = if idxFrom (fun x => ((N : Int) - 1) == x) 0 (beatsL N rs) < 0 then (0, false) else (idxFrom (fun x => ((N : Int) - 1) == x) 0 (beatsL N rs), true) := by simp [condV, hok]
    by_cases hneg : idxFrom (fun x => ((N : Int) - 1) == x) 0 (beatsL N rs) < 0
    · rw [if_pos hneg] at HR
      rw [HR]
      clear hok hF HR
      go_enter Try.func9, Try.ntmps9
      go_wp2_with (first | (go_at_call 26; refine HQ'.out.mono ?_; rintro e w1 ⟨rfl, hb1⟩) | (go_at_call 37; refine (i_beaten N _ rs _ (h.below hb1) hN5 HF.out.1 HF.out.2.2).mono ?_; rintro e w2 ⟨p2, rfl, ho2, hb2⟩; have hb' := below_step hb1 hb2) | (go_at_call 36; refine (slices_Index _ _ _ _ ho2.at_).mono ?_; rintro e w3 ⟨rfl, rfl⟩))
      go_ret2
      exact ⟨rfl, hb'⟩
    · rw [if_neg hneg] at HR
      rw [HR]
      have hge : 0 ≤ idxFrom (fun x => ((N : Int) - 1) == x) 0 (beatsL N rs) := by omega
      clear hok hF HR hneg
      go_enter Try.func9, Try.ntmps9
      go_wp2_with (first | (go_at_call 26; refine HQ'.out.mono ?_; rintro e w1 ⟨rfl, hb1⟩) | (go_at_call 37; refine (i_beaten N _ rs _ (h.below hb1) hN5 HF.out.1 HF.out.2.2).mono ?_; rintro e w2 ⟨p2, rfl, ho2, hb2⟩; have hb' := below_step hb1 hb2) | (go_at_call 36; refine (slices_Index _ _ _ _ ho2.at_).mono ?_; rintro e w3 ⟨rfl, rfl⟩))
      go_ret2
      exact ⟨rfl, hb'⟩

set_option maxHeartbeats 1000000 in
theorem s_CopelandWinners (n : Int) (v : Value) (rs : List DRanking) (w : World) (h : RanksAt w v rs) :
    Calls Try.prog 12 #[.int .i64 n, v] w fun e w' => ∃ p, e = .returned (.tuple #[p, .bool (copeV n rs).2]) ∧ OwnInts w' w.heap.size p (copeV n rs).1 ∧ Below w.heap.size w w' := by
  have HQ := s_l13Good n v rs w h
  obtain ⟨ao, cap, rfl⟩ := h.form
  have fin0 : ∀ w1, Below w.heap.size w w1 → OwnInts (w1.alloc (.cells #[] 3)) w.heap.size (.slice (some ⟨w1.heap.size, 0, none⟩) 0 0) [] ∧ Below w.heap.size w (w1.alloc (.cells #[] 3)) := fun w1 hb => ⟨own_base (own_lit0 w1 3) hb.size, hb.alloc hb.size _⟩
  cases hok : electOk n rs with
  | false =>
    have HR : copeV n rs = ([], false) := by simp [copeV, hok]
    rw [HR]
    rw [hok] at HQ
    have HQ' := Lib.hid HQ; clear HQ hok HR
    go_enter Try.func12, Try.ntmps12
    go_wp2_with (go_at_call 32; refine HQ'.out.mono ?_; rintro e w1 ⟨rfl, hb1⟩)
    go_ret2
    exact ⟨_, rfl, fin0 _ hb1⟩
  | true =>
    rw [hok] at HQ
    have HQ' := Lib.hid HQ; clear HQ
    obtain ⟨N, rfl, hN1, hN5, hF⟩ := elect_facts hok
    have HR : copeV (N : Int) rs = (best (beatsL N rs), true) := by simp [copeV, hok]
    rw [HR]
    have HF := Lib.hid hF
    have HL := Lib.hid (beatsL_len N rs)
    clear HR hok hF
    go_enter Try.func12, Try.ntmps12
    go_wp2_with (first | (go_at_call 32; refine HQ'.out.mono ?_; rintro e w1 ⟨rfl, hb1⟩) | (go_at_call 38; refine (s_l13Beats N _ rs _ (h.below hb1) hN5 HF.out.1 HF.out.2.1).mono ?_; rintro e w2 ⟨p2, rfl, ho2, hb2⟩; have hb2' := below_step hb1 hb2) | (go_at_call 40; refine (s_l13Best _ _ _ ho2.at_ (by rw [HL.out]; omega) (by rw [HL.out]; omega)).mono ?_; rintro e w4 ⟨p4, rfl, ho4, hb4⟩; obtain ⟨a4, k4, rfl⟩ := ho4.at_.form))
    go_ret2
    exact ⟨_, rfl, own_base ho4 hb2'.size, below_step hb2' hb4⟩

set_option maxHeartbeats 1000000 in
theorem i_CopelandWinners (n : Int) (v : Value) (rs : List DRanking) (w : World) (h : RanksAt w v rs) :
    Calls Try.prog 11 #[.int .i64 n, v] w fun e w' => ∃ p, e = .returned (.tuple #[p, .bool (copeV n rs).2]) ∧ OwnInts w' w.heap.size p (copeV n rs).1 ∧ Below w.heap.size w w' := by
  have HQ := i_IsElection n v rs w h
  obtain ⟨ao, cap, rfl⟩ := h.form
  have fin0 : ∀ w1, Below w.heap.size w w1 → OwnInts w1 w.heap.size (.slice none 0 0) [] ∧ Below w.heap.size w w1 := fun w1 hb => ⟨World.ownsRow_nil _ _ 3 1, hb⟩
  cases hok : electOk n rs with
  | false =>
    have HR : copeV n rs = ([], false) := by simp [copeV, hok]
    rw [HR]
    rw [hok] at HQ
    have HQ' := Lib.hid HQ; clear HQ hok HR
    go_enter Try.func11, Try.ntmps11
    go_wp2_with (go_at_call 26; refine HQ'.out.mono ?_; rintro e w1 ⟨rfl, hb1⟩)
    go_ret2
    exact ⟨_, rfl, fin0 _ hb1⟩
  | true =>
    rw [hok] at HQ
    have HQ' := Lib.hid HQ; clear HQ
    obtain ⟨N, rfl, hN1, hN5, hF⟩ := elect_facts hok
    have HR : copeV (N : Int) rs = (best (beatsL N rs), true) := by simp [copeV, hok]
    rw [HR]
    have HF := Lib.hid hF
    have HL := Lib.hid (beatsL_len N rs)
    clear HR hok hF
    go_enter Try.func11, Try.ntmps11
    go_wp2_with (first | (go_at_call 26; refine HQ'.out.mono ?_; rintro e w1 ⟨rfl, hb1⟩) | (go_at_call 37; refine (i_beaten N _ rs _ (h.below hb1) hN5 HF.out.1 HF.out.2.2).mono ?_; rintro e w2 ⟨p2, rfl, ho2, hb2⟩; have hb2' := below_step hb1 hb2) | (go_at_call 39; refine (i_winners _ _ _ ho2.at_ (by rw [HL.out]; omega) (by rw [HL.out]; omega)).mono ?_; rintro e w4 ⟨p4, rfl, ho4, hb4⟩; obtain ⟨a4, k4, rfl⟩ := ho4.at_.form))
    go_ret2
    exact ⟨_, rfl, own_base ho4 hb2'.size, below_step hb2' hb4⟩

end Go.Proofs.Ytfonpkegaeebaaa
