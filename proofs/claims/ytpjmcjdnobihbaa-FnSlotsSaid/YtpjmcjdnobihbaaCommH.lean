/- Contracts: FewestSlots, the reference's and the program's. No conditions beyond sizes. -/
import Derived.Test.YtpjmcjdnobihbaaCommG
namespace Go.Proofs.Ytpjmcjdnobihbaa
open Go.RowKit
set_option linter.unusedVariables false
set_option linter.unusedSimpArgs false

/-- Whether the committees that are left, d of them, can meet in m slots behind those of the first ones. -/
def canM (xs : List DCommittee) (m : Nat) : Nat → List Int → Bool
  | 0, _ => true
  | d + 1, sl => (List.range m).any (fun s => freeB xs sl (s : Int) && canM xs m d (sl ++ [(s : Int)]))
/-- The same, a new slot being the next one always. -/
def enoM (xs : List DCommittee) (m : Nat) : Nat → List Int → Nat → Bool
  | 0, _, _ => true
  | d + 1, sl, used => (List.range (min (used + 1) m)).any (fun s => freeB xs sl (s : Int) && enoM xs m d (sl ++ [(s : Int)]) (max used (s + 1)))

def sw (a b x : Int) : Int := if x = a then b else if x = b then a else x
theorem sw_sw (a b x : Int) : sw a b (sw a b x) = x := by unfold sw; repeat' split <;> omega
theorem sw_inj {a b x y : Int} (h : sw a b x = sw a b y) : x = y := by rw [← sw_sw a b x, h, sw_sw]
theorem free_sw (xs : List DCommittee) (sl : List Int) (a b s : Int) : freeB xs (sl.map (sw a b)) (sw a b s) = freeB xs sl s := by
  unfold freeB
  rw [List.length_map, Bool.eq_iff_iff, List.all_eq_true, List.all_eq_true]
  have H : ∀ i, i ∈ List.range sl.length → badB xs (sl.map (sw a b)) (sw a b s) i = badB xs sl s i := fun i hi => by
    have hi' := List.mem_range.1 hi
    have h1 : (sl.map (sw a b)).getD i 0 = sw a b (sl.getD i 0) := by
      rw [getD_i (by simpa using hi'), getD_i hi']; simp
    simp only [badB, h1, List.length_map]
    congr 1
    rw [Bool.eq_iff_iff, beq_iff_eq, beq_iff_eq]
    exact ⟨fun h => sw_inj h, fun h => by rw [h]⟩
  constructor
  · intro h i hi; rw [← H i hi]; exact h i hi
  · intro h i hi; rw [H i hi]; exact h i hi
theorem canM_sw {xs : List DCommittee} {m a b : Nat} (ha : a < m) (hb : b < m) : ∀ (d : Nat) (sl : List Int), canM xs m d sl = true → canM xs m d (sl.map (sw a b)) = true := by
  intro d
  induction d with
  | zero => intro sl _; rfl
  | succ d ih =>
    intro sl h
    simp only [canM, List.any_eq_true, List.mem_range, Bool.and_eq_true] at h ⊢
    obtain ⟨s, hs, h1, h2⟩ := h
    have hsn : 0 ≤ sw a b s ∧ sw a b s < m := by unfold sw; repeat' split <;> omega
    refine ⟨(sw a b s).toNat, by omega, ?_, ?_⟩
    · rw [show (((sw a b s).toNat : Nat) : Int) = sw a b s by omega, free_sw]; exact h1
    · rw [show (((sw a b s).toNat : Nat) : Int) = sw a b s by omega]
      have := ih _ h2
      simpa using this
theorem eno_eq {xs : List DCommittee} {m : Nat} : ∀ (d : Nat) (sl : List Int) (used : Nat), (∀ x ∈ sl, 0 ≤ x ∧ x < used) → used ≤ m → enoM xs m d sl used = canM xs m d sl := by
  intro d
  induction d with
  | zero => intro sl used _ _; rfl
  | succ d ih =>
    intro sl used hsl hu
    have hbd : ∀ s : Nat, ∀ x ∈ sl ++ [(s : Int)], 0 ≤ x ∧ x < (max used (s + 1) : Nat) := fun s x hx => by
      rcases List.mem_append.1 hx with h | h
      · have := hsl x h; omega
      · simp only [List.mem_singleton] at h; omega
    rw [Bool.eq_iff_iff]
    simp only [enoM, canM, List.any_eq_true, List.mem_range, Bool.and_eq_true]
    constructor
    · rintro ⟨s, hs, h1, h2⟩
      refine ⟨s, by omega, h1, ?_⟩
      rw [← ih _ (max used (s + 1)) (hbd s) (by omega)]
      exact h2
    · rintro ⟨s, hs, h1, h2⟩
      by_cases hsu : s ≤ used
      · refine ⟨s, by omega, h1, ?_⟩
        rw [ih _ (max used (s + 1)) (hbd s) (by omega)]
        exact h2
      · refine ⟨used, by omega, freeB_big (fun x hx => (hsl x hx).2), ?_⟩
        rw [ih _ (max used (used + 1)) (hbd used) (by omega)]
        have h3 := canM_sw (a := s) (b := used) hs (by omega) d _ h2
        have h4 : (sl ++ [(s : Int)]).map (sw s used) = sl ++ [(used : Int)] := by
          rw [List.map_append]
          congr 1
          · have : ∀ x ∈ sl, sw s used x = x := fun x hx => by have := hsl x hx; unfold sw; repeat' split <;> omega
            rw [List.map_congr_left this, List.map_id']
          · simp [sw]
        rw [h4] at h3
        exact h3

/-- The first m from k on of which p holds. -/
def firstT (p : Nat → Bool) : Nat → Nat → Nat
  | 0, k => k
  | f + 1, k => if p k then k else firstT p f (k + 1)
theorem firstT_bd {p : Nat → Bool} : ∀ (f k t : Nat), k ≤ t → t < k + f → p t = true → k ≤ firstT p f k ∧ firstT p f k ≤ t ∧ p (firstT p f k) = true ∧ ∀ r, k ≤ r → r < firstT p f k → p r = false := by
  intro f
  induction f with
  | zero => intro k t h1 h2; omega
  | succ f ih =>
    intro k t h1 h2 h3
    simp only [firstT]
    cases hk : p k with
    | true => rw [if_pos rfl]; exact ⟨Nat.le_refl _, h1, hk, fun r h4 h5 => by omega⟩
    | false =>
      rw [if_neg (by simp)]
      have hne : k ≠ t := by rintro rfl; rw [h3] at hk; cases hk
      obtain ⟨a1, a2, a3, a4⟩ := ih (k + 1) t (by omega) (by omega) h3
      exact ⟨by omega, a2, a3, fun r h4 h5 => by
        by_cases hr : r = k
        · subst hr; exact hk
        · exact a4 r (by omega) h5⟩
theorem canM_meet {xs : List DCommittee} : ∀ d k, k + d = xs.length → canM xs xs.length d (meetL xs k) = true := by
  intro d
  induction d with
  | zero => intro k _; rfl
  | succ d ih =>
    intro k hk
    have hs := slotOf_spec (xs := xs) (meetL_bd xs k)
    rw [meetL_len] at hs
    simp only [canM, List.any_eq_true, List.mem_range, Bool.and_eq_true]
    refine ⟨(slotOf xs (meetL xs k)).toNat, by omega, ?_, ?_⟩
    · rw [show (((slotOf xs (meetL xs k)).toNat : Nat) : Int) = slotOf xs (meetL xs k) by omega]; exact hs.2.2.1
    · rw [show (((slotOf xs (meetL xs k)).toNat : Nat) : Int) = slotOf xs (meetL xs k) by omega]
      exact ih (k + 1) (by omega)
def fewN (xs : List DCommittee) : Nat := firstT (fun m => canM xs m xs.length []) (xs.length + 1) 0
theorem fewN_spec (xs : List DCommittee) : fewN xs ≤ xs.length ∧ canM xs (fewN xs) xs.length [] = true ∧ ∀ r, r < fewN xs → canM xs r xs.length [] = false := by
  obtain ⟨_, h2, h3, h4⟩ := firstT_bd (p := fun m => canM xs m xs.length []) (xs.length + 1) 0 xs.length (by omega) (by omega) (canM_meet xs.length 0 (by omega))
  exact ⟨h2, h3, fun r hr => h4 r (by omega) hr⟩
def fewV (xs : List DCommittee) : Int × Bool := if commsOk xs then ((fewN xs : Int), true) else (0, false)

/-- A number appended where a guard was met. -/
theorem wpList_push_intG {P : Program} {w : World} {ops : Array Oper} {rest : List Oper} {o : Oper} {a : Act} {Q : Exit → Act → World → Prop} (hgd : Region.wanted o (yielded ops a.tmps) = true) (s x : Operand) (t : TypeId)
    (ho : o.op = .call { callee := .builtin .append, args := #[s, x], argTypes := #[t, t] })
    (B : Nat) (e e' : TypeId) (hinfo : (P.info? e).map (fun i => (i.zero, i.size, i.bytes)) = some (some (.int .i64 0), 1, 8)) (ht : P.underlying t = some (.slice e))
    (v : Value) (xs : List Int) (y : Int) (hs : a.eval s = v) (hown : OwnI e w B v xs) (hx : a.eval x = .slice (some ⟨w.heap.size, 0, none⟩) 1 1) (hB : B ≤ w.heap.size) (hn : xs.length ≤ 4000000)
    (h : ∀ v' w', OwnI e w' B v' (xs ++ [y]) → Below B w w' → wpList P ops Q rest (a.put o.dst v') w') :
    wpList P ops Q (o :: rest) a (w.alloc (.cells #[.int .i64 y] e')) := by
  obtain ⟨i0, hi, hz0, hz1, hz2⟩ := info_parts hinfo
  have hal : Below w.heap.size w (w.alloc (.cells #[.int .i64 y] e')) := (Below.refl _ _).alloc (Nat.le_refl _) _
  refine wpList_step fun K hK => ?_
  rw [if_pos hgd]
  obtain ⟨v', w', hr', h2, h3, _⟩ := run_append_row (P := P) (w.alloc (.cells #[.int .i64 y] e')) B t o.type e i0 (.int .i64 0) 1 8 ht hi hz0 hz1 hz2 rfl (by decide) v _ _ (own_below hown hal) _ 1 [.int .i64 y] (row_one w (.int .i64 y) e') (ints_one [y]) (by unfold maxLen; omega) (by omega) (by simp; omega)
  unfold Oper.wp execOp
  simp only [ho, resolve, invoke, builtin, Sem.run_bind, Sem.run_pure, Result.andThen_ok, List.map_toArray, List.map_cons, List.map_nil, hs, hx, hr']
  refine hK _ _ (h v' w' (by unfold OwnI; simpa [ints] using h2) ?_)
  exact ((hal.mono hB).grown h3 (by simp; omega) (fun k hk => (hown.lt k hk).1))

set_option maxHeartbeats 2000000 in
theorem i_canMeet (v : Value) (xs : List DCommittee) (m : Nat) (hm : m ≤ 8) (hx : xs.length ≤ 8) : ∀ (d : Nat) (u : Value) (sl : List Int) (w : World), sl.length + d = xs.length → CommsAt w v xs → IntsAt w u sl →
    Calls Try.prog 38 #[v, u, .int .i64 (m : Int)] w fun e w' => e = .returned (.bool (canM xs m d sl)) ∧ Below w.heap.size w w' := by
  intro d
  induction d with
  | zero =>
    intro u sl w hsd h hs
    obtain ⟨so, sc, rfl⟩ := hs.form
    obtain ⟨ao, cap, rfl⟩ := h.form
    have heq : (((sl.length : Nat) : Int) == ((xs.length : Nat) : Int)) = true := by rw [beq_iff_eq]; omega
    have HS := Lib.hid hsd; clear hsd
    go_enter Try.func38, Try.ntmps38
    go_wp2_with fail
    go_ret
    exact ⟨rfl, Below.refl _ _⟩
  | succ d ih =>
    intro u sl w hsd h hs
    obtain ⟨so, sc, rfl⟩ := hs.form
    obtain ⟨ao, cap, rfl⟩ := h.form
    have heq : (((sl.length : Nat) : Int) == ((xs.length : Nat) : Int)) = false := by rw [beq_eq_false_iff_ne]; omega
    have hsl : sl.length < xs.length := by omega
    have IH := Lib.hid ih; clear ih
    have HS := Lib.hid hsd; clear hsd
    go_enter Try.func38, Try.ntmps38
    go_wp2_with fail
    go_loopw [14] (fun i wr => ∃ k : Nat, k ≤ m ∧ i = .int .i64 k ∧ Hid (∀ s, s < k → (freeB xs sl (s : Int) && canM xs m d (sl ++ [(s : Int)])) = false) ∧ Below w.heap.size w wr) (fun i _ => m - (intOf i).toNat)
    case atStart => exact ⟨0, by omega, rfl, by intro s hs; omega, Below.refl _ _⟩
    case round =>
      obtain ⟨k, hk, rfl, hd, hb⟩ := hrel
      by_cases hlt : k < m
      · have hq := i_isFreeSlot _ _ xs sl k wr (h.below hb) (hs.below hb) hsl hx
        cases hf : freeB xs sl (k : Int) with
        | false =>
          have HD : Hid (∀ s, s < k + 1 → (freeB xs sl (s : Int) && canM xs m d (sl ++ [(s : Int)])) = false) := by
            intro s hs
            by_cases hsk : s = k
            · subst hsk; rw [hf]; rfl
            · exact hd.out s (by omega)
          rw [hf] at hq
          have HQ := Lib.hid hq
          clear hq hd hf
          go_wp2_with (go_at_call 33; refine HQ.out.mono ?_; rintro e w2 ⟨rfl, hb2⟩)
          go_roundw
          case rel => exact ⟨k + 1, by omega, by go_num, HD, below_step hb hb2⟩
          case measure => simp [intOf]; omega
        | true =>
          rw [hf] at hq
          have HQ := Lib.hid hq
          have hcl : (sl ++ [(k : Int)]).length + d = xs.length := by have := HS.out; simp; omega
          have HCL := Lib.hid hcl
          have HC := fun u' w' => IH.out u' (sl ++ [(k : Int)]) w' hcl
          cases hc : canM xs m d (sl ++ [(k : Int)]) with
          | true =>
            have HR : Hid (canM xs m (d + 1) sl = true) := by
              simp only [Hid, canM, List.any_eq_true, List.mem_range, Bool.and_eq_true]
              exact ⟨k, hlt, hf, hc⟩
            rw [hc] at HC
            have HC' := Lib.hid HC
            clear hq hd hf hc HC hcl
            go_wp2_with (first | (go_at_call 33; refine HQ.out.mono ?_; rintro e w2 ⟨rfl, hb2⟩; have hb2' := below_step hb hb2) | (go_at_call 64; refine (i_copyInts _ sl _ (hs.below hb2') (by omega)).mono ?_; rintro e w3 ⟨p, rfl, ho3, hb3⟩; have hb3' := below_step hb2' hb3) | (at_builtin; refine wpList_push_intG (by rfl) (.tmp 24) (.tmp 26) _ rfl _ 3 _ int_info Try.underlying26 _ sl (k : Int) rfl ho3 rfl hb3.size (by omega) ?_; intro u' w4 ho4 hb4; have hb4' := hb3'.trans (hb4.mono hb2'.size)) | (go_at_call 38; refine (HC'.out _ _ (h.below hb4') ho4.at_).mono ?_; rintro e w5 ⟨rfl, hb5⟩))
            go_ret
            exact ⟨ret_bool HR.out.symm, below_step hb4' hb5⟩
          | false =>
            have HD : Hid (∀ s, s < k + 1 → (freeB xs sl (s : Int) && canM xs m d (sl ++ [(s : Int)])) = false) := by
              intro s hs
              by_cases hsk : s = k
              · subst hsk; rw [hc]; simp
              · exact hd.out s (by omega)
            rw [hc] at HC
            have HC' := Lib.hid HC
            clear hq hd hf hc HC hcl
            go_wp2_with (first | (go_at_call 33; refine HQ.out.mono ?_; rintro e w2 ⟨rfl, hb2⟩; have hb2' := below_step hb hb2) | (go_at_call 64; refine (i_copyInts _ sl _ (hs.below hb2') (by omega)).mono ?_; rintro e w3 ⟨p, rfl, ho3, hb3⟩; have hb3' := below_step hb2' hb3) | (at_builtin; refine wpList_push_intG (by rfl) (.tmp 24) (.tmp 26) _ rfl _ 3 _ int_info Try.underlying26 _ sl (k : Int) rfl ho3 rfl hb3.size (by omega) ?_; intro u' w4 ho4 hb4; have hb4' := hb3'.trans (hb4.mono hb2'.size)) | (go_at_call 38; refine (HC'.out _ _ (h.below hb4') ho4.at_).mono ?_; rintro e w5 ⟨rfl, hb5⟩))
            go_roundw
            case rel => exact ⟨k + 1, by omega, by go_num, HD, below_step hb4' hb5⟩
            case measure => simp [intOf]; omega
      · have HR : Hid (canM xs m (d + 1) sl = false) := by
          simp only [Hid, canM]
          rw [List.any_eq_false]
          intro s hs
          rw [hd.out s (by have := List.mem_range.1 hs; omega)]
          simp
        clear hd
        go_wp2_with fail
        go_ret
        exact ⟨ret_bool HR.out.symm, hb⟩

theorem s_l1Most15 (a b : Int) (w : World) :
    Calls Try.prog 72 #[.int .i64 a, .int .i64 b] w fun e w' => e = .returned (.int .i64 (max a b)) ∧ w = w' := by
  by_cases h : b < a
  · go_enter Try.func72, Try.ntmps72
    go_wp2
    go_ret
    exact ⟨ret_int (by omega), rfl⟩
  · go_enter Try.func72, Try.ntmps72
    go_wp2
    go_ret
    exact ⟨ret_int (by omega), rfl⟩

set_option maxHeartbeats 2000000 in
theorem s_l15Enough (v : Value) (xs : List DCommittee) (m : Nat) (hm : m ≤ 8) (hx : xs.length ≤ 8) : ∀ (d : Nat) (u : Value) (sl : List Int) (used : Nat) (w : World), used ≤ 9 → sl.length + d = xs.length → CommsAt w v xs → IntsAt w u sl →
    Calls Try.prog 39 #[v, u, .int .i64 (used : Int), .int .i64 (m : Int)] w fun e w' => e = .returned (.bool (enoM xs m d sl used)) ∧ Below w.heap.size w w' := by
  intro d
  induction d with
  | zero =>
    intro u sl used w hus hsd h hs
    obtain ⟨so, sc, rfl⟩ := hs.form
    obtain ⟨ao, cap, rfl⟩ := h.form
    have heq : (((sl.length : Nat) : Int) == ((xs.length : Nat) : Int)) = true := by rw [beq_iff_eq]; omega
    have HS := Lib.hid hsd; clear hsd
    go_enter Try.func39, Try.ntmps39
    go_wp2_with fail
    go_ret
    exact ⟨rfl, Below.refl _ _⟩
  | succ d ih =>
    intro u sl used w hus hsd h hs
    obtain ⟨so, sc, rfl⟩ := hs.form
    obtain ⟨ao, cap, rfl⟩ := h.form
    have heq : (((sl.length : Nat) : Int) == ((xs.length : Nat) : Int)) = false := by rw [beq_eq_false_iff_ne]; omega
    have hsl : sl.length < xs.length := by omega
    have IH := Lib.hid ih; clear ih
    have HS := Lib.hid hsd; clear hsd
    go_enter Try.func39, Try.ntmps39
    go_wp2_with fail
    go_loopw [9] (fun i wr => ∃ k : Nat, k ≤ used + 1 ∧ k ≤ m ∧ i = .int .i64 k ∧ Hid (∀ s, s < k → (freeB xs sl (s : Int) && enoM xs m d (sl ++ [(s : Int)]) (max used (s + 1))) = false) ∧ Below w.heap.size w wr) (fun i _ => m - (intOf i).toNat)
    case atStart => exact ⟨0, by omega, by omega, rfl, by intro s hs; omega, Below.refl _ _⟩
    case round =>
      obtain ⟨k, hku, hkm, rfl, hd, hb⟩ := hrel
      by_cases hlt : k < m ∧ k ≤ used
      · obtain ⟨hlt1, hlt2⟩ := hlt
        have hq := s_l15Free _ _ xs sl k wr (h.below hb) (hs.below hb) hsl hx
        cases hf : freeB xs sl (k : Int) with
        | false =>
          have HD : Hid (∀ s, s < k + 1 → (freeB xs sl (s : Int) && enoM xs m d (sl ++ [(s : Int)]) (max used (s + 1))) = false) := by
            intro s hs
            by_cases hsk : s = k
            · subst hsk; rw [hf]; rfl
            · exact hd.out s (by omega)
          rw [hf] at hq
          have HQ := Lib.hid hq
          clear hq hd hf
          go_wp2_with (go_at_call 35; refine HQ.out.mono ?_; rintro e w2 ⟨rfl, hb2⟩)
          go_roundw
          case rel => exact ⟨k + 1, by omega, by omega, by go_num, HD, below_step hb hb2⟩
          case measure => simp [intOf]; omega
        | true =>
          rw [hf] at hq
          have HQ := Lib.hid hq
          have hcl : (sl ++ [(k : Int)]).length + d = xs.length := by have := HS.out; simp; omega
          have HC := fun u' w' => IH.out u' (sl ++ [(k : Int)]) (max used (k + 1)) w' (by omega) hcl
          have hmx : max (used : Int) ((k : Int) + 1) = ((max used (k + 1) : Nat) : Int) := by omega
          have HMX : Hid (∀ w, Calls Try.prog 72 #[.int .i64 (used : Int), .int .i64 ((k : Int) + 1)] w fun e w' => e = .returned (.int .i64 ((max used (k + 1) : Nat) : Int)) ∧ w = w') := fun w => by
            have := s_l1Most15 (used : Int) ((k : Int) + 1) w
            rw [hmx] at this
            exact this
          cases hc : enoM xs m d (sl ++ [(k : Int)]) (max used (k + 1)) with
          | true =>
            have HR : Hid (enoM xs m (d + 1) sl used = true) := by
              simp only [Hid, enoM, List.any_eq_true, List.mem_range, Bool.and_eq_true]
              exact ⟨k, by omega, hf, hc⟩
            rw [hc] at HC
            have HC' := Lib.hid HC
            clear hq hd hf hc HC hcl hmx
            generalize max used (k + 1) = mx at *
            go_wp2_with (first | (go_at_call 35; refine HQ.out.mono ?_; rintro e w2 ⟨rfl, hb2⟩; have hb2' := below_step hb hb2) | (go_at_call 68; refine (s_l1Own _ sl _ (hs.below hb2') (by omega)).mono ?_; rintro e w3 ⟨p, rfl, ho3, hb3⟩; have hb3' := below_step hb2' hb3) | (at_builtin; refine wpList_push_intG (by rfl) (.tmp 32) (.tmp 34) _ rfl _ 3 _ int_info Try.underlying26 _ sl (k : Int) rfl ho3 rfl hb3.size (by omega) ?_; intro u' w4 ho4 hb4; have hb4' := hb3'.trans (hb4.mono hb2'.size)) | (go_at_call 72; refine (HMX.out _).mono ?_; rintro e w' ⟨rfl, rfl⟩) | (go_at_call 39; refine (HC'.out _ _ (h.below hb4') ho4.at_).mono ?_; rintro e w5 ⟨rfl, hb5⟩))
            go_ret
            exact ⟨ret_bool HR.out.symm, below_step hb4' hb5⟩
          | false =>
            have HD : Hid (∀ s, s < k + 1 → (freeB xs sl (s : Int) && enoM xs m d (sl ++ [(s : Int)]) (max used (s + 1))) = false) := by
              intro s hs
              by_cases hsk : s = k
              · subst hsk; rw [hc]; simp
              · exact hd.out s (by omega)
            rw [hc] at HC
            have HC' := Lib.hid HC
            clear hq hd hf hc HC hcl hmx
            generalize max used (k + 1) = mx at *
            go_wp2_with (first | (go_at_call 35; refine HQ.out.mono ?_; rintro e w2 ⟨rfl, hb2⟩; have hb2' := below_step hb hb2) | (go_at_call 68; refine (s_l1Own _ sl _ (hs.below hb2') (by omega)).mono ?_; rintro e w3 ⟨p, rfl, ho3, hb3⟩; have hb3' := below_step hb2' hb3) | (at_builtin; refine wpList_push_intG (by rfl) (.tmp 32) (.tmp 34) _ rfl _ 3 _ int_info Try.underlying26 _ sl (k : Int) rfl ho3 rfl hb3.size (by omega) ?_; intro u' w4 ho4 hb4; have hb4' := hb3'.trans (hb4.mono hb2'.size)) | (go_at_call 72; refine (HMX.out _).mono ?_; rintro e w' ⟨rfl, rfl⟩) | (go_at_call 39; refine (HC'.out _ _ (h.below hb4') ho4.at_).mono ?_; rintro e w5 ⟨rfl, hb5⟩))
            go_roundw
            case rel => exact ⟨k + 1, by omega, by omega, by go_num, HD, below_step hb4' hb5⟩
            case measure => simp [intOf]; omega
      · have HR : Hid (enoM xs m (d + 1) sl used = false) := by
          simp only [Hid, enoM]
          rw [List.any_eq_false]
          intro s hs
          rw [hd.out s (by have := List.mem_range.1 hs; omega)]
          simp
        clear hd
        by_cases hu : k ≤ used
        · have hkm' : k = m := by omega
          have hn1 : decide ((k : Int) < (m : Int)) = false := decide_eq_false (by omega)
          have hn2 : ¬ (k : Int) < (m : Int) := by omega
          have HKM := Lib.hid hkm'; clear hkm' hlt
          go_wp2_with fail
          go_ret
          exact ⟨ret_bool HR.out.symm, hb⟩
        · have hn1 : decide ((k : Int) ≤ (used : Int)) = false := decide_eq_false (by omega)
          have hn2 : ¬ (k : Int) ≤ (used : Int) := by omega
          clear hlt
          go_wp2_with fail
          go_ret
          exact ⟨ret_bool HR.out.symm, hb⟩

set_option maxHeartbeats 1000000 in
theorem i_FewestSlots (v : Value) (xs : List DCommittee) (w : World) (h : CommsAt w v xs) (hn : CommsLe xs) :
    Calls Try.prog 13 #[v] w fun e w' => e = .returned (.tuple #[.int .i64 (fewV xs).1, .bool (fewV xs).2]) ∧ Below w.heap.size w w' := by
  have HQ := i_AreCommittees v xs w h hn
  obtain ⟨ao, cap, rfl⟩ := h.form
  cases hok : commsOk xs with
  | false =>
    have HR : fewV xs = (0, false) := by simp [fewV, hok]
    rw [HR]
    rw [hok] at HQ
    have HQ' := Lib.hid HQ; clear HQ hok HR
    go_enter Try.func13, Try.ntmps13
    go_wp2_with (go_at_call 23; refine HQ'.out.mono ?_; rintro e w1 ⟨rfl, hb1⟩)
    go_ret2
    exact ⟨rfl, hb1⟩
  | true =>
    have hx := commsOk_len hok
    have HR : fewV xs = ((fewN xs : Int), true) := by simp [fewV, hok]
    rw [HR]
    have HSP := Lib.hid (fewN_spec xs)
    have hF := (fewN_spec xs).1
    rw [hok] at HQ
    have HQ' := Lib.hid HQ; clear HQ hok HR
    generalize fewN xs = F at *
    go_enter Try.func13, Try.ntmps13
    go_wp2_with (go_at_call 23; refine HQ'.out.mono ?_; rintro e w1 ⟨rfl, hb1⟩)
    go_loopw [4] (fun i wr => ∃ k : Nat, k ≤ F ∧ i = .int .i64 k ∧ Below w.heap.size w wr) (fun i _ => F - (intOf i).toNat)
    case atStart => exact ⟨0, by omega, rfl, hb1⟩
    case round =>
      obtain ⟨k, hk, rfl, hb⟩ := hrel
      have ho : OwnInts (wr.alloc (.cells #[] 3)) wr.heap.size (.slice (some ⟨wr.heap.size, 0, none⟩) 0 0) [] := own_lit0 wr 3
      have hal : Below wr.heap.size wr (wr.alloc (.cells #[] 3)) := (Below.refl _ _).alloc (Nat.le_refl _) _
      have hbal := below_step hb hal
      have hq := i_canMeet _ xs k (by omega) hx xs.length _ [] _ (by simp) (h.below hbal) ho.at_
      by_cases hkF : k = F
      · subst hkF
        rw [HSP.out.2.1] at hq
        have HQ2 := Lib.hid hq
        clear hq
        go_wp2_with (go_at_call 38; refine HQ2.out.mono ?_; rintro e w3 ⟨rfl, hb3⟩)
        go_ret2
        exact ⟨rfl, below_step hbal hb3⟩
      · rw [HSP.out.2.2 k (by omega)] at hq
        have HQ2 := Lib.hid hq
        clear hq
        go_wp2_with (go_at_call 38; refine HQ2.out.mono ?_; rintro e w3 ⟨rfl, hb3⟩)
        go_roundw
        case rel => exact ⟨k + 1, by omega, by go_num, below_step hbal hb3⟩
        case measure => simp [intOf]; omega

set_option maxHeartbeats 1000000 in
theorem s_FewestSlots (v : Value) (xs : List DCommittee) (w : World) (h : CommsAt w v xs) (hn : CommsLe xs) :
    Calls Try.prog 14 #[v] w fun e w' => e = .returned (.tuple #[.int .i64 (fewV xs).1, .bool (fewV xs).2]) ∧ Below w.heap.size w w' := by
  have HQ := s_l15Good v xs w h hn
  obtain ⟨ao, cap, rfl⟩ := h.form
  cases hok : commsOk xs with
  | false =>
    have HR : fewV xs = (0, false) := by simp [fewV, hok]
    rw [HR]
    rw [hok] at HQ
    have HQ' := Lib.hid HQ; clear HQ hok HR
    go_enter Try.func14, Try.ntmps14
    go_wp2_with (go_at_call 34; refine HQ'.out.mono ?_; rintro e w1 ⟨rfl, hb1⟩)
    go_ret2
    exact ⟨rfl, hb1⟩
  | true =>
    have hx := commsOk_len hok
    have HR : fewV xs = ((fewN xs : Int), true) := by simp [fewV, hok]
    rw [HR]
    have HSP := Lib.hid (fewN_spec xs)
    have hF := (fewN_spec xs).1
    rw [hok] at HQ
    have HQ' := Lib.hid HQ; clear HQ hok HR
    generalize fewN xs = F at *
    go_enter Try.func14, Try.ntmps14
    go_wp2_with (go_at_call 34; refine HQ'.out.mono ?_; rintro e w1 ⟨rfl, hb1⟩)
    go_loopw [4] (fun i wr => ∃ k : Nat, k ≤ F ∧ i = .int .i64 k ∧ Below w.heap.size w wr) (fun i _ => F - (intOf i).toNat)
    case atStart => exact ⟨0, by omega, rfl, hb1⟩
    case round =>
      obtain ⟨k, hk, rfl, hb⟩ := hrel
      have ho : OwnInts (wr.alloc (.cells #[] 3)) wr.heap.size (.slice (some ⟨wr.heap.size, 0, none⟩) 0 0) [] := own_lit0 wr 3
      have hal : Below wr.heap.size wr (wr.alloc (.cells #[] 3)) := (Below.refl _ _).alloc (Nat.le_refl _) _
      have hbal := below_step hb hal
      have hq := s_l15Enough _ xs k (by omega) hx xs.length _ [] 0 _ (by omega) (by simp) (h.below hbal) ho.at_
      rw [eno_eq xs.length [] 0 (by simp) (by omega)] at hq
      by_cases hkF : k = F
      · subst hkF
        rw [HSP.out.2.1] at hq
        have HQ2 := Lib.hid hq
        clear hq
        go_wp2_with (go_at_call 39; refine HQ2.out.mono ?_; rintro e w3 ⟨rfl, hb3⟩)
        go_ret2
        exact ⟨rfl, below_step hbal hb3⟩
      · rw [HSP.out.2.2 k (by omega)] at hq
        have HQ2 := Lib.hid hq
        clear hq
        go_wp2_with (go_at_call 39; refine HQ2.out.mono ?_; rintro e w3 ⟨rfl, hb3⟩)
        go_roundw
        case rel => exact ⟨k + 1, by omega, by go_num, below_step hbal hb3⟩
        case measure => simp [intOf]; omega

end Go.Proofs.Ytpjmcjdnobihbaa
