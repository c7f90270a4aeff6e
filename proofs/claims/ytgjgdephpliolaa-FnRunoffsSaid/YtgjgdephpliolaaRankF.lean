/- Contracts: FirstVotes, the reference's and the program's. No conditions beyond sizes. -/
import Derived.Test.YtgjgdephpliolaaRankB
namespace Go.Proofs.Ytgjgdephpliolaa
open Go.RowKit
set_option linter.unusedVariables false
set_option linter.unusedSimpArgs false

/-! ### plain facts -/
theorem idx_specF {am : List Int} {c : Int} : ∀ (k : Nat), hasB am c = true → ∃ i, ∃ h : i < am.length, idxFrom (fun x => c == x) k am = ((i + k : Nat) : Int) ∧ am[i] = c := by
  induction am with
  | nil => intro k h; simp [hasB] at h
  | cons a r ih =>
    intro k h
    simp only [idxFrom]
    by_cases ha : (c == a) = true
    · exact ⟨0, by simp, by rw [if_pos ha]; simp, by simpa using (eq_of_beq ha).symm⟩
    · have h' : hasB r c = true := by
        simp only [hasB, List.contains_cons] at h
        have : (c == a) = false := by simpa using ha
        simpa [this, hasB] using h
      obtain ⟨i, hi, h1, h2⟩ := ih (k + 1) h'
      exact ⟨i + 1, by simp; omega, by rw [if_neg ha, h1]; congr 1; omega, by simpa using h2⟩
theorem idx_spec {am : List Int} {c : Int} (h : hasB am c = true) : ∃ i, ∃ h : i < am.length, idxFrom (fun x => c == x) 0 am = (i : Int) ∧ am[i] = c := by simpa using idx_specF 0 h
theorem idx_none {am : List Int} {c : Int} (h : hasB am c = false) : idxFrom (fun x => c == x) 0 am < 0 := by
  have := idxBy_neg (fun x => c == x) am
  rw [idxFrom_eq]
  have h2 : am.any (fun x => c == x) = false := by rw [← h]; unfold hasB; rw [List.contains_eq_any_beq]
  rw [h2] at this
  simpa using this
theorem first_pos {am : List Int} {xs : List Int} (h : ∃ x ∈ xs, hasB am x = true) : ∃ K, ∃ hK : K < xs.length, xs.find? (hasB am) = some xs[K] ∧ hasB am xs[K] = true ∧ ∀ q (hq : q < K), hasB am (xs[q]'(by omega)) = false := by
  induction xs with
  | nil => obtain ⟨x, hx, _⟩ := h; cases hx
  | cons a r ih =>
    cases ha : hasB am a with
    | true => exact ⟨0, by simp, by simp [List.find?_cons, ha], by simpa using ha, fun q hq => absurd hq (by omega)⟩
    | false =>
      obtain ⟨x, hx, hb⟩ := h
      have hxr : x ∈ r := by
        rcases List.mem_cons.1 hx with rfl | h1
        · rw [ha] at hb; cases hb
        · exact h1
      obtain ⟨K, hK, h1, h2, h3⟩ := ih ⟨x, hxr, hb⟩
      refine ⟨K + 1, by simp; omega, by simp [List.find?_cons, ha, h1], by simpa using h2, fun q hq => ?_⟩
      cases q with
      | zero => simpa using ha
      | succ q => simpa using h3 q (by omega)
theorem rising_chain {lo hi : Int} {xs : List Int} : ∀ {p : Option Int}, risB lo hi p xs = true → (∀ y, p = some y → ∀ x ∈ xs, y < x) ∧ xs.Pairwise (· < ·) := by
  induction xs with
  | nil => intro p h; exact ⟨fun y _ x hx => (by cases hx), List.Pairwise.nil⟩
  | cons a r ih =>
    intro p h
    simp only [risB, Bool.and_eq_true] at h
    obtain ⟨h1, h2⟩ := ih h.2
    refine ⟨fun y hy x hx => ?_, List.pairwise_cons.2 ⟨fun x hx => h1 a rfl x hx, h2⟩⟩
    subst hy
    have ha : y < a := by simpa using h.1.2
    rcases List.mem_cons.1 hx with rfl | h3
    · exact ha
    · have := h1 a rfl x h3; omega
theorem rising_inj {lo hi : Int} {xs : List Int} (h : rising lo hi xs = true) {i j : Nat} (hi : i < xs.length) (hj : j < xs.length) (hne : i ≠ j) : xs[i] ≠ xs[j] := by
  have hp := (rising_chain h).2
  rcases Nat.lt_or_ge i j with h1 | h1
  · have := List.pairwise_iff_getElem.1 hp i j hi hj h1; omega
  · have := List.pairwise_iff_getElem.1 hp j i hj hi (by omega); omega
theorem rising_memx {lo hi : Int} {xs : List Int} : ∀ {p : Option Int}, risB lo hi p xs = true → ∀ x ∈ xs, lo ≤ x ∧ x ≤ hi := by
  induction xs with
  | nil => intro p h x hx; cases hx
  | cons a r ih =>
    intro p h x hx
    simp only [risB, Bool.and_eq_true] at h
    rcases List.mem_cons.1 hx with rfl | hx
    · exact inB_iff.1 h.1.1
    · exact ih h.2 x hx
theorem pigeon : ∀ (N : Nat) (xs : List Int), xs.Nodup → (∀ x ∈ xs, 0 ≤ x ∧ x < N) → xs.length ≤ N := by
  intro N
  induction N with
  | zero =>
    intro xs _ h
    cases xs with
    | nil => simp
    | cons a r => have := h a (by simp); omega
  | succ N ih =>
    intro xs hn h
    by_cases hm : (N : Int) ∈ xs
    · have h1 := ih (xs.erase N) (hn.erase _) (fun x hx => by
        have h2 := (List.Nodup.mem_erase_iff hn).1 hx
        have h3 := h x h2.2
        have := h2.1
        omega)
      rw [List.length_erase_of_mem hm] at h1
      omega
    · have h1 := ih xs hn (fun x hx => by
        have h3 := h x hx
        have : x ≠ N := fun e => hm (e ▸ hx)
        omega)
      omega
theorem permF_nodup {n : Int} {xs : List Int} : ∀ {pre : List Int}, permF n pre xs = true → xs.Nodup ∧ ∀ x ∈ xs, x ∉ pre := by
  induction xs with
  | nil => intro pre h; exact ⟨List.nodup_nil, fun x hx => (by cases hx)⟩
  | cons a r ih =>
    intro pre h
    simp only [permF, Bool.and_eq_true, Bool.not_eq_true'] at h
    obtain ⟨⟨h1, h2⟩, h3⟩ := h
    obtain ⟨h4, h5⟩ := ih h3
    have h2' : a ∉ pre := by simpa [hasB] using h2
    refine ⟨List.nodup_cons.2 ⟨fun hm => ?_, h4⟩, fun x hx => ?_⟩
    · have := h5 a hm; simp at this
    · rcases List.mem_cons.1 hx with rfl | hx
      · exact h2'
      · have := h5 x hx; simp at this; exact this.1
/-- A valid ranking has every candidate. -/
theorem perm_all {N : Nat} {xs : List Int} (h : permOk N xs = true) {c : Int} (hc : 0 ≤ c ∧ c < N) : c ∈ xs := by
  simp only [permOk, Bool.and_eq_true, decide_eq_true_eq] at h
  obtain ⟨h1, h2⟩ := h
  obtain ⟨h3, _⟩ := permF_nodup h2
  by_cases hm : c ∈ xs
  · exact hm
  · have := pigeon N (c :: xs) (List.nodup_cons.2 ⟨hm, h3⟩) (fun x hx => by
      rcases List.mem_cons.1 hx with rfl | hx
      · exact hc
      · have := inB_iff.1 (permF_mem h2 x hx); omega)
    simp at this
    omega
theorem elect_perm {n : Int} {rs : List DRanking} (h : electOk n rs = true) : ∀ r ∈ rs, permOk n r.order = true := by
  intro r hr
  simp only [electOk, Bool.and_eq_true, List.all_eq_true] at h
  have := h.2 r hr
  simp only [rankOk, Bool.and_eq_true] at this
  exact this.1

def fPos (am : List Int) (c : Int) : Nat := (idxFrom (fun x => c == x) 0 am).toNat
theorem fPos_eq {am : List Int} {c : Int} {i : Nat} (h : idxFrom (fun x => c == x) 0 am = (i : Int)) : fPos am c = i := by simp [fPos, h]
def fSt (acc : List Int) (P : Nat) (wt : Int) : List Int := acc.set P (acc.getD P 0 + wt)
def fRow (am : List Int) (r : DRanking) (acc : List Int) : List Int := match r.order.find? (hasB am) with | some c => fSt acc (fPos am c) r.weight | none => acc
def fAll (am : List Int) (rs : List DRanking) : Nat → List Int
  | 0 => List.replicate am.length 0
  | i + 1 => match rs[i]? with | some r => fRow am r (fAll am rs i) | none => fAll am rs i
theorem fAll_at {am : List Int} {rs : List DRanking} {i : Nat} (h : i < rs.length) : fAll am rs (i + 1) = fRow am rs[i] (fAll am rs i) := by simp [fAll, List.getElem?_eq_getElem h]
@[simp] theorem fSt_len (acc : List Int) (P : Nat) (wt : Int) : (fSt acc P wt).length = acc.length := by simp [fSt]
theorem fRow_len (am : List Int) (r : DRanking) (acc : List Int) : (fRow am r acc).length = acc.length := by unfold fRow; split <;> simp
theorem fAll_len (am : List Int) (rs : List DRanking) (i : Nat) : (fAll am rs i).length = am.length := by
  induction i with
  | zero => simp [fAll]
  | succ i ih =>
    simp only [fAll]
    split
    · rw [fRow_len, ih]
    · exact ih
theorem fSt_bd {acc : List Int} {P : Nat} {wt B : Int} (hB : 0 ≤ B) (ha : ∀ e ∈ acc, 0 ≤ e ∧ e ≤ B) (hw : 1 ≤ wt ∧ wt ≤ 100) : ∀ e ∈ fSt acc P wt, 0 ≤ e ∧ e ≤ B + 100 := by
  intro e he
  rcases List.mem_or_eq_of_mem_set he with h1 | h1
  · have := ha e h1; omega
  · by_cases hm : P < acc.length
    · have := ha _ (getD_memy hm); omega
    · have : acc.getD P 0 = 0 := by rw [List.getD_eq_getElem?_getD, List.getElem?_eq_none (by omega)]; rfl
      omega
theorem fAll_bd {am : List Int} {rs : List DRanking} (hr : ∀ r ∈ rs, 1 ≤ r.weight ∧ r.weight ≤ 100) (i : Nat) : ∀ e ∈ fAll am rs i, 0 ≤ e ∧ e ≤ 100 * i := by
  induction i with
  | zero => intro e he; simp [fAll] at he; omega
  | succ i ih =>
    intro e he
    simp only [fAll] at he
    split at he
    · rename_i r hri
      have hw := hr r (List.mem_of_getElem? hri)
      unfold fRow at he
      split at he
      · have := fSt_bd (B := 100 * i) (by omega) ih hw e he; omega
      · have := ih e he; omega
    · have := ih e he; omega
def firstV (n : Int) (rs : List DRanking) (am : List Int) : List Int × Bool :=
  if electOk n rs && !(am.length == 0) && rising 0 (n - 1) am then (fAll am rs rs.length, true) else ([], false)
theorem firstV_len (n : Int) (rs : List DRanking) (am : List Int) (h : am.length ≤ 1048576) : (firstV n rs am).1.length ≤ 4000000 := by
  unfold firstV
  split
  · rw [fAll_len]; omega
  · simp

set_option maxHeartbeats 2000000 in
theorem i_firstVotes (v : Value) (rs : List DRanking) (u : Value) (am : List Int) (w : World) (h : RanksAt w v rs) (g : IntsAt w u am) (hr9 : rs.length ≤ 9) (ha5 : am.length ≤ 5)
    (hrs : ∀ r ∈ rs, r.order.length ≤ 5 ∧ 1 ≤ r.weight ∧ r.weight ≤ 100) :
    Calls Try.prog 70 #[v, u] w fun e w' => ∃ p, e = .returned p ∧ OwnInts w' w.heap.size p (fAll am rs rs.length) ∧ Below w.heap.size w w' := by
  obtain ⟨i0, hi, hz0, hz1, hz2⟩ := info_parts int_info
  obtain ⟨ao, cap, rfl⟩ := h.form
  obtain ⟨bo, dap, rfl⟩ := g.form
  have HRS := Lib.hid hrs; clear hrs
  have hwt : ∀ r ∈ rs, 1 ≤ r.weight ∧ r.weight ≤ 100 := fun r hr => (HRS.out r hr).2
  have HWT := Lib.hid hwt; clear hwt
  go_enter Try.func70, Try.ntmps70
  go_wp2_with (at_make; refine wpList_make_full _ rfl _ _ 27 rfl w.heap.size 3 i0 (.int .i64 0) 1 Try.underlying27 hi hz0 hz1 _ _ _ _ am.length rfl rfl rfl rfl ?c1 ?c2 ?c3 ?_)
  case c1 => rw [hz2]; omega
  case c2 => unfold maxLen; omega
  case c3 => omega
  intro w2 hown hg
  simp only [toList_madeCells_one, Nat.mul_one] at hown
  have hb : Below w.heap.size w w2 := (Below.refl _ _).grown hg (Nat.le_refl _) (by simp)
  go_wp2_with fail
  go_loopw [16] (fun i wr => ∃ k : Nat, k ≤ rs.length ∧ i = .int .i64 k ∧ wr.ownsRow w.heap.size 3 1 (.slice (some ⟨w.heap.size, 0, none⟩) am.length am.length) am.length (ints (fAll am rs k)) ∧ Below w.heap.size w wr) (fun i _ => rs.length - (intOf i).toNat)
  case atStart => exact ⟨0, by omega, rfl, by simpa [fAll, ints] using hown, hb⟩
  case round =>
    obtain ⟨k, hk, rfl, hown, hfin⟩ := hrel
    by_cases hlt : k < rs.length
    · obtain ⟨b, off, u0, rfl, h4, h5, c0, c1⟩ := h.get hlt
      obtain ⟨hol, hw⟩ := HRS.out _ (List.getElem_mem hlt)
      have hacc := fAll_bd (am := am) HWT.out k
      have hall := fAll_at (am := am) hlt
      have hal := fAll_len am rs k
      generalize hr : rs[k] = r at *
      have HALL := Lib.hid hall; have HACC := Lib.hid hacc; have HAL := Lib.hid hal
      clear hall hacc hr hal
      generalize fAll am rs k = acc at *
      obtain ⟨_, uo, uc, rfl, p1, p2, p3⟩ := h5
      have d0 := (hfin.cell (p := ⟨b, off + k * 2, none⟩) h4).trans c0
      have d1 := (hfin.cell (p := ⟨b, off + k * 2 + 1, none⟩) h4).trans c1
      obtain ⟨W1, hW1⟩ : ∃ W1, W1 = wr.alloc (.cells #[.slice uo r.order.length uc, .int .i64 r.weight] 44) := ⟨_, rfl⟩
      have bP : BoxAt W1 wr.heap.size #[.slice uo r.order.length uc, .int .i64 r.weight] := by rw [hW1]; exact BoxAt.new _ _ _
      have hWn : Below wr.heap.size wr W1 := by rw [hW1]; go_grown
      have hownW := own_below hown hWn
      have hbW := below_step hfin hWn
      have hgr := (hown.lt w.heap.size rfl).2
      have HW1 := Lib.hid hW1; clear hW1 c0 c1
      have e0 := bP.cells
      have hgW := g.below hbW
      go_wp2_with fail
      rw [← HW1.out]
      go_wp2_with fail
      go_loopw [23] (fun i wr' => ∃ q : Nat, q ≤ r.order.length ∧ i = .int .i64 q ∧ Hid (r.order.find? (hasB am) = (r.order.drop q).find? (hasB am)) ∧ W1 = wr') (fun i _ => r.order.length - (intOf i).toNat)
      case atStart => exact ⟨0, by omega, rfl, by simp [Hid], by trivial⟩
      case round =>
        obtain ⟨q, hq, rfl, hd, rfl⟩ := hrel
        have hd' := hd.out
        clear hd
        by_cases hqt : q < r.order.length
        · obtain ⟨bu, ou, rfl, q4, q5⟩ := p3 (by omega)
          have hc := q5.int hqt
          have d2 := (hbW.cell (p := ⟨bu, ou + q, none⟩) q4).trans hc
          rw [drop_at hqt, List.find?_cons] at hd'
          have HI := slices_Index _ am r.order[q] W1 hgW
          cases hh : hasB am r.order[q] with
          | false =>
            have HD : Hid (r.order.find? (hasB am) = (r.order.drop (q + 1)).find? (hasB am)) := by simpa [Hid, hh] using hd'
            have hneg := idx_none hh
            have HI' := Lib.hid HI
            clear hd' hh hc HI
            generalize r.order[q] = c at *
            generalize idxFrom (fun x => c == x) 0 am = z at *
            go_wp2_with (go_at_call 55; refine HI'.out.mono ?_; rintro e w' ⟨rfl, rfl⟩)
            go_roundw
            case rel => exact ⟨q + 1, by omega, by go_num, HD, by trivial⟩
            case measure => simp [intOf]; omega
          | true =>
            obtain ⟨m, hml, hme, hmx⟩ := idx_spec hh
            have hrow : fRow am r acc = fSt acc m r.weight := by
              unfold fRow
              rw [hd', hh, ← fPos_eq hme]
            rw [hme] at HI
            have HI' := Lib.hid HI
            have hbd := HACC.out _ (getD_memy (xs := acc) (k := m) (by rw [HAL.out]; exact hml))
            have q1 : W1.cell? ⟨w.heap.size, m, none⟩ = some (.int .i64 (acc.getD m 0)) := by rw [hownW.cellAt m (by omega)]; exact ints_gety (by rw [HAL.out]; exact hml)
            have q2 := hownW.frozenAt m
            have q3' : (W1.setCell ⟨w.heap.size, m, none⟩ (.int .i64 (acc.getD m 0 + r.weight))).ownsRow w.heap.size 3 1 (.slice (some ⟨w.heap.size, 0, none⟩) am.length am.length) am.length (ints (fAll am rs (k + 1))) := by
              rw [HALL.out, hrow]; unfold fSt; rw [← ints_sety]; exact (hownW.stored m _).1
            have hm0 : (0 : Int) ≤ (m : Int) := by omega
            have hm1 : (m : Int) < (am.length : Int) := by omega
            have q6 := (hownW.lt w.heap.size rfl).2
            clear hd' hh hc HI hme hmx hrow
            generalize r.order[q] = c at *
            generalize acc.getD m 0 = y at *
            generalize r.weight = wt at *
            go_wp2_with (go_at_call 55; refine HI'.out.mono ?_; rintro e w' ⟨rfl, rfl⟩)
            go_region
            all_goals go_wp2_with fail
            all_goals go_roundw
            all_goals first | (case rel => exact ⟨k + 1, by omega, by go_num, q3', by go_grown⟩) | (case measure => simp [intOf]; omega)
        · obtain rfl : q = r.order.length := by omega
          have hrow : fRow am r acc = acc := by
            rw [List.drop_length] at hd'
            unfold fRow
            rw [hd']; rfl
          have q3' : W1.ownsRow w.heap.size 3 1 (.slice (some ⟨w.heap.size, 0, none⟩) am.length am.length) am.length (ints (fAll am rs (k + 1))) := by rw [HALL.out, hrow]; exact hownW
          clear hd' hrow
          go_wp2_with fail
          go_roundw
          case rel => exact ⟨k + 1, by omega, by go_num, q3', hbW⟩
          case measure => simp [intOf]; omega
    · obtain rfl : k = rs.length := by omega
      have hown' : OwnInts wr w.heap.size (.slice (some ⟨w.heap.size, 0, none⟩) am.length am.length) (fAll am rs rs.length) := by unfold OwnInts OwnI; rw [fAll_len]; exact hown
      go_wp2_with fail
      go_ret
      exact ⟨_, rfl, hown', hfin⟩

def fStep (acc : List Int) (P : Nat) (wt : Int) (j : Nat) : List Int := if P < j then fSt acc P wt else acc
theorem fStep_same {acc : List Int} {P : Nat} {wt : Int} {j : Nat} (h : j ≠ P) : fStep acc P wt (j + 1) = fStep acc P wt j := by
  unfold fStep
  by_cases h1 : P < j
  · rw [if_pos h1, if_pos (by omega)]
  · rw [if_neg h1, if_neg (by omega)]
theorem fStep_hit {acc : List Int} {P : Nat} {wt : Int} : fStep acc P wt (P + 1) = fSt acc P wt ∧ fStep acc P wt P = acc := by
  unfold fStep
  exact ⟨if_pos (by omega), if_neg (by omega)⟩

set_option maxHeartbeats 4000000 in
theorem s_l13First (v : Value) (rs : List DRanking) (u : Value) (am : List Int) (w : World) (h : RanksAt w v rs) (g : IntsAt w u am) (hr9 : rs.length ≤ 9) (ha5 : am.length ≤ 5)
    (hrs : ∀ r ∈ rs, r.order.length ≤ 5 ∧ 1 ≤ r.weight ∧ r.weight ≤ 100) (hex : ∀ r ∈ rs, ∃ x ∈ r.order, hasB am x = true) (hinj : ∀ i j (hi : i < am.length) (hj : j < am.length), i ≠ j → am[i] ≠ am[j]) :
    Calls Try.prog 67 #[v, u] w fun e w' => ∃ p, e = .returned p ∧ OwnInts w' w.heap.size p (fAll am rs rs.length) ∧ Below w.heap.size w w' := by
  obtain ⟨i0, hi, hz0, hz1, hz2⟩ := info_parts int_info
  obtain ⟨ao, cap, rfl⟩ := h.form
  have HG := g
  obtain ⟨_, bo, dap, rfl, g1, g2, g3⟩ := g
  have HRS := Lib.hid hrs; clear hrs
  have hwt : ∀ r ∈ rs, 1 ≤ r.weight ∧ r.weight ≤ 100 := fun r hr => (HRS.out r hr).2
  have HWT := Lib.hid hwt; clear hwt
  have HEX := Lib.hid hex; clear hex
  have HINJ := Lib.hid hinj; clear hinj
  go_enter Try.func67, Try.ntmps67
  go_wp2_with (at_make; refine wpList_make_full _ rfl _ _ 27 rfl w.heap.size 3 i0 (.int .i64 0) 1 Try.underlying27 hi hz0 hz1 _ _ _ _ am.length rfl rfl rfl rfl ?c1 ?c2 ?c3 ?_)
  case c1 => rw [hz2]; omega
  case c2 => unfold maxLen; omega
  case c3 => omega
  intro w2 hown hg
  simp only [toList_madeCells_one, Nat.mul_one] at hown
  have hb : Below w.heap.size w w2 := (Below.refl _ _).grown hg (Nat.le_refl _) (by simp)
  go_wp2_with fail
  go_loopw [6] (fun i wr => ∃ k : Nat, k ≤ rs.length ∧ i = .int .i64 k ∧ wr.ownsRow w.heap.size 3 1 (.slice (some ⟨w.heap.size, 0, none⟩) am.length am.length) am.length (ints (fAll am rs k)) ∧ Below w.heap.size w wr) (fun i _ => rs.length - (intOf i).toNat)
  case atStart => exact ⟨0, by omega, rfl, by simpa [fAll, ints] using hown, hb⟩
  case round =>
    obtain ⟨k, hk, rfl, hown, hfin⟩ := hrel
    by_cases hlt : k < rs.length
    · obtain ⟨b, off, u0, rfl, h4, h5, c0, c1⟩ := h.get hlt
      obtain ⟨hol, hw⟩ := HRS.out _ (List.getElem_mem hlt)
      obtain ⟨K, hK, hf1, hf2, hf3⟩ := first_pos (HEX.out _ (List.getElem_mem hlt))
      obtain ⟨P, hPl, hPe, hPx⟩ := idx_spec hf2
      have hacc := fAll_bd (am := am) HWT.out k
      have hall : fAll am rs (k + 1) = fSt (fAll am rs k) P rs[k].weight := by
        rw [fAll_at hlt]; unfold fRow; rw [hf1]; simp only; rw [fPos_eq hPe]
      have hal := fAll_len am rs k
      generalize hr : rs[k] = r at *
      have HALL := Lib.hid hall; have HACC := Lib.hid hacc; have HAL := Lib.hid hal; have HF3 := Lib.hid hf3; have HPX := Lib.hid hPx; have HF2 := Lib.hid hf2
      clear hall hacc hr hal hf1 hf3 hPe hPx hf2
      generalize fAll am rs k = acc at *
      obtain ⟨_, uo, uc, rfl, p1, p2, p3⟩ := h5
      obtain ⟨bu, ou, rfl, q4, q5⟩ := p3 (by omega)
      have hk0 : (0 : Int) ≤ (k : Int) := by omega
      have hk1 : (k : Int) < (rs.length : Int) := by omega
      go_wp2_with fail
      go_loopw [7] (fun i wr' => ∃ q : Nat, q ≤ K ∧ i = .int .i64 q ∧ wr = wr') (fun i _ => K - (intOf i).toNat)
      case atStart => exact ⟨0, by omega, rfl, by trivial⟩
      case round =>
        obtain ⟨q, hq, rfl, rfl⟩ := hrel
        have hqt : q < r.order.length := by omega
        have d0 := (hfin.cell (p := ⟨b, off + k * 2, none⟩) h4).trans c0
        have hc := q5.int hqt
        have d2 := (hfin.cell (p := ⟨bu, ou + q, none⟩) q4).trans hc
        have hgr := HG.below hfin
        by_cases hqK : q < K
        · have hf := HF3.out q hqK
          have HH := s_l1Has _ am r.order[q] wr hgr
          rw [hf] at HH
          have HH' := Lib.hid HH
          clear HH hf hc
          generalize r.order[q] = c at *
          go_wp2_with (go_at_call 54; refine HH'.out.mono ?_; rintro e w' ⟨rfl, rfl⟩)
          go_roundw
          case rel => exact ⟨q + 1, by omega, by go_num, by trivial⟩
          case measure => simp [intOf]; omega
        · obtain rfl : q = K := by omega
          have HH := s_l1Has _ am r.order[q] wr hgr
          rw [HF2.out] at HH
          have HH' := Lib.hid HH
          have hpx := HPX.out
          clear HH
          generalize r.order[q] = c at *
          have hq0 : (0 : Int) ≤ (q : Int) := by omega
          have hq1 : (q : Int) < (r.order.length : Int) := by omega
          have HPX2 := Lib.hid hpx; clear hpx
          have hz : wr.ownsRow w.heap.size 3 1 (.slice (some ⟨w.heap.size, 0, none⟩) am.length am.length) am.length (ints (fStep acc P r.weight 0)) := by
            have : fStep acc P r.weight 0 = acc := if_neg (by omega)
            rw [this]; exact hown
          have HZ := Lib.hid hz; clear hz
          go_wp2_with (go_at_call 54; refine HH'.out.mono ?_; rintro e w' ⟨rfl, rfl⟩)
          go_loopw [8] (fun i wr => ∃ j : Nat, j ≤ am.length ∧ i = .int .i64 j ∧ wr.ownsRow w.heap.size 3 1 (.slice (some ⟨w.heap.size, 0, none⟩) am.length am.length) am.length (ints (fStep acc P r.weight j)) ∧ Below w.heap.size w wr) (fun i _ => am.length - (intOf i).toNat)
          case atStart => exact ⟨0, by omega, rfl, HZ.out, hfin⟩
          case round =>
            obtain ⟨j, hj, rfl, hown, hfin⟩ := hrel
            by_cases hjt : j < am.length
            · obtain ⟨ba, oa, rfl, r4, r5⟩ := g3 (by omega)
              have e0 := (hfin.cell (p := ⟨b, off + k * 2, none⟩) h4).trans c0
              have e1 := (hfin.cell (p := ⟨b, off + k * 2 + 1, none⟩) h4).trans c1
              have e2 := (hfin.cell (p := ⟨bu, ou + q, none⟩) q4).trans hc
              have e3 := (hfin.cell (p := ⟨ba, oa + j, none⟩) r4).trans (r5.int hjt)
              have hj0 : (0 : Int) ≤ (j : Int) := by omega
              have hj1 : (j : Int) < (am.length : Int) := by omega
              by_cases hjP : j = P
              · subst hjP
                have hbe : (am[j] == c) = true := by rw [HPX2.out]; simp
                have hbd := HACC.out _ (getD_memy (xs := acc) (k := j) (by rw [HAL.out]; exact hjt))
                rw [fStep_hit.2] at hown
                have q1 : wr.cell? ⟨w.heap.size, j, none⟩ = some (.int .i64 (acc.getD j 0)) := by rw [hown.cellAt j (by omega)]; exact ints_gety (by rw [HAL.out]; exact hjt)
                have q2 := hown.frozenAt j
                have q3' : (wr.setCell ⟨w.heap.size, j, none⟩ (.int .i64 (acc.getD j 0 + r.weight))).ownsRow w.heap.size 3 1 (.slice (some ⟨w.heap.size, 0, none⟩) am.length am.length) am.length (ints (fStep acc j r.weight (j + 1))) := by
                  rw [fStep_hit.1]; unfold fSt; rw [← ints_sety]; exact (hown.stored j _).1
                have q6 := (hown.lt w.heap.size rfl).2
                have HF := Lib.hid hfin
                clear hown hfin d0 d2
                generalize am[j] = aj at *
                generalize acc.getD j 0 = y at *
                generalize r.weight = wt at *
                go_wp2_with fail
                go_region
                all_goals go_wp2_with fail
                all_goals go_region
                all_goals go_wp2_with fail
                all_goals go_roundw
                all_goals first | (case rel => exact ⟨j + 1, by omega, by go_num, q3', by have := HF.out; go_grown⟩) | (case measure => simp [intOf]; omega)
              · have hne := HINJ.out j P hjt hPl hjP
                have hbe : (am[j] == c) = false := by rw [HPX2.out] at hne; simpa using hne
                have hown' : wr.ownsRow w.heap.size 3 1 (.slice (some ⟨w.heap.size, 0, none⟩) am.length am.length) am.length (ints (fStep acc P r.weight (j + 1))) := by rw [fStep_same (acc := acc) (wt := r.weight) hjP]; exact hown
                have HF := Lib.hid hfin
                clear hown hfin d0 d2 hne
                generalize am[j] = aj at *
                go_wp2_with fail
                go_region
                all_goals go_wp2_with fail
                all_goals go_roundw
                all_goals first | (case rel => exact ⟨j + 1, by omega, by go_num, hown', by have := HF.out; go_grown⟩) | (case measure => simp [intOf]; omega)
            · obtain rfl : j = am.length := by omega
              have hfs : fStep acc P r.weight am.length = fAll am rs (k + 1) := by rw [HALL.out]; exact if_pos hPl
              rw [hfs] at hown
              clear hfs
              go_wp2_with fail
              go_roundw
              case rel => exact ⟨k + 1, by omega, by go_num, hown, hfin⟩
              case measure => simp [intOf]; omega
    · obtain rfl : k = rs.length := by omega
      have hown' : OwnInts wr w.heap.size (.slice (some ⟨w.heap.size, 0, none⟩) am.length am.length) (fAll am rs rs.length) := by unfold OwnInts OwnI; rw [fAll_len]; exact hown
      go_wp2_with fail
      go_ret
      exact ⟨_, rfl, hown', hfin⟩

theorem rising_len {N : Nat} {xs : List Int} (h : rising 0 ((N : Int) - 1) xs = true) : xs.length ≤ N := by
  refine pigeon N xs ?_ (fun x hx => by have := rising_memx h x hx; omega)
  exact (rising_chain h).2.imp (fun h => by omega)
theorem first_facts {n : Int} {rs : List DRanking} {am : List Int} (hok : electOk n rs = true) (hz : am.length ≠ 0) (hri : rising 0 (n - 1) am = true) :
    rs.length ≤ 9 ∧ am.length ≤ 5 ∧ (∀ r ∈ rs, r.order.length ≤ 5 ∧ 1 ≤ r.weight ∧ r.weight ≤ 100) ∧ (∀ r ∈ rs, ∃ x ∈ r.order, hasB am x = true) ∧ (∀ i j (hi : i < am.length) (hj : j < am.length), i ≠ j → am[i] ≠ am[j]) := by
  have hp := elect_perm hok
  obtain ⟨N, rfl, hN1, hN5, _, hr9, hrs⟩ := electOk_parts hok
  have hl := rising_len hri
  have h0 : 0 < am.length := by omega
  refine ⟨hr9, by omega, fun r hr => ⟨by have := (hrs r hr).1; omega, (hrs r hr).2.2⟩, fun r hr => ⟨am[0], perm_all (hp r hr) (by have := rising_memx hri _ (List.getElem_mem h0); omega), by simp [hasB]⟩, fun i j hi hj hne => rising_inj hri hi hj hne⟩

set_option maxHeartbeats 1000000 in
theorem s_FirstVotes (n : Int) (v : Value) (rs : List DRanking) (u : Value) (am : List Int) (w : World) (h : RanksAt w v rs) (g : IntsAt w u am) :
    Calls Try.prog 39 #[.int .i64 n, v, u] w fun e w' => ∃ p, e = .returned (.tuple #[p, .bool (firstV n rs am).2]) ∧ OwnInts w' w.heap.size p (firstV n rs am).1 ∧ Below w.heap.size w w' := by
  have hL : am.length ≤ maxLen := by obtain ⟨_, _, _, _, h1, h2, _⟩ := g; omega
  unfold maxLen at hL
  have HQ := s_l13Good n v rs w h
  obtain ⟨ao, cap, rfl⟩ := h.form
  obtain ⟨bo, dap, rfl⟩ := g.form
  have fin0 : ∀ w1, Below w.heap.size w w1 → OwnInts (w1.alloc (.cells #[] 3)) w.heap.size (.slice (some ⟨w1.heap.size, 0, none⟩) 0 0) [] ∧ Below w.heap.size w (w1.alloc (.cells #[] 3)) := fun w1 hb => ⟨own_base (own_lit0 w1 3) hb.size, hb.alloc hb.size _⟩
  cases hok : electOk n rs with
  | false =>
    have HR : firstV n rs am = ([], false) := by simp [firstV, hok]
    rw [HR]
    rw [hok] at HQ
    have HQ' := Lib.hid HQ; clear HQ hok HR
    go_enter Try.func39, Try.ntmps39
    go_wp2_with (go_at_call 51; refine HQ'.out.mono ?_; rintro e w1 ⟨rfl, hb1⟩)
    go_ret2
    exact ⟨_, rfl, fin0 _ hb1⟩
  | true =>
    rw [hok] at HQ
    have HQ' := Lib.hid HQ; clear HQ
    have hnb : 1 ≤ n ∧ n ≤ 5 := by
      obtain ⟨N, hN, h1, h5, _⟩ := electOk_parts hok
      omega
    have hwn : IntKind.i64.wrap (n - 1) = n - 1 := IntWalk.i64_in _ (by omega)
    by_cases hz : am.length = 0
    · have HR : firstV n rs am = ([], false) := by simp [firstV, hz]
      rw [HR]
      have hzb : (((am.length : Nat) : Int) == 0) = true := by simp [hz]
      have HZ := Lib.hid hz; clear hz HR hok
      go_enter Try.func39, Try.ntmps39
      go_wp2_with (go_at_call 51; refine HQ'.out.mono ?_; rintro e w1 ⟨rfl, hb1⟩)
      go_ret2
      exact ⟨_, rfl, fin0 _ hb1⟩
    · have hzb : (((am.length : Nat) : Int) == 0) = false := by rw [beq_eq_false_iff_ne]; omega
      cases hri : rising 0 (n - 1) am with
      | false =>
        have HR : firstV n rs am = ([], false) := by simp [firstV, hri]
        rw [HR]
        have HI := Lib.hid hri; have HZ := Lib.hid hz; clear hri hz HR hok
        go_enter Try.func39, Try.ntmps39
        go_wp2_with (first | (go_at_call 51; refine HQ'.out.mono ?_; rintro e w1 ⟨rfl, hb1⟩) | (go_at_call 78; refine (s_l1Rising _ am _ _ _ (g.below hb1)).mono ?_; rw [HI.out]; rintro e w2 ⟨rfl, hb2⟩))
        go_ret2
        exact ⟨_, rfl, fin0 _ (below_step hb1 hb2)⟩
      | true =>
        have HR : firstV n rs am = (fAll am rs rs.length, true) := by simp [firstV, hok, hri, hz]
        rw [HR]
        have HF := Lib.hid (first_facts hok hz hri)
        have HI := Lib.hid hri; have HZ := Lib.hid hz; clear hri hz HR hok
        go_enter Try.func39, Try.ntmps39
        go_wp2_with (first | (go_at_call 51; refine HQ'.out.mono ?_; rintro e w1 ⟨rfl, hb1⟩) | (go_at_call 78; refine (s_l1Rising _ am _ _ _ (g.below hb1)).mono ?_; rw [HI.out]; rintro e w2 ⟨rfl, hb2⟩; have hb2' := below_step hb1 hb2) | (go_at_call 67; refine (s_l13First _ rs _ am _ (h.below hb2') (g.below hb2') HF.out.1 HF.out.2.1 HF.out.2.2.1 HF.out.2.2.2.1 HF.out.2.2.2.2).mono ?_; rintro e w3 ⟨p, rfl, ho, hb3⟩; obtain ⟨ap, kp, rfl⟩ := ho.at_.form))
        go_ret2
        exact ⟨_, rfl, own_base ho hb2'.size, below_step hb2' hb3⟩

set_option maxHeartbeats 1000000 in
theorem i_FirstVotes (n : Int) (v : Value) (rs : List DRanking) (u : Value) (am : List Int) (w : World) (h : RanksAt w v rs) (g : IntsAt w u am) :
    Calls Try.prog 41 #[.int .i64 n, v, u] w fun e w' => ∃ p, e = .returned (.tuple #[p, .bool (firstV n rs am).2]) ∧ OwnInts w' w.heap.size p (firstV n rs am).1 ∧ Below w.heap.size w w' := by
  have hL : am.length ≤ maxLen := by obtain ⟨_, _, _, _, h1, h2, _⟩ := g; omega
  unfold maxLen at hL
  have HQ := i_IsElection n v rs w h
  obtain ⟨ao, cap, rfl⟩ := h.form
  obtain ⟨bo, dap, rfl⟩ := g.form
  have fin0 : ∀ w1, Below w.heap.size w w1 → OwnInts w1 w.heap.size (.slice none 0 0) [] ∧ Below w.heap.size w w1 := fun w1 hb => ⟨World.ownsRow_nil _ _ 3 1, hb⟩
  cases hok : electOk n rs with
  | false =>
    have HR : firstV n rs am = ([], false) := by simp [firstV, hok]
    rw [HR]
    rw [hok] at HQ
    have HQ' := Lib.hid HQ; clear HQ hok HR
    go_enter Try.func41, Try.ntmps41
    go_wp2_with (go_at_call 38; refine HQ'.out.mono ?_; rintro e w1 ⟨rfl, hb1⟩)
    go_ret2
    exact ⟨_, rfl, fin0 _ hb1⟩
  | true =>
    rw [hok] at HQ
    have HQ' := Lib.hid HQ; clear HQ
    have hnb : 1 ≤ n ∧ n ≤ 5 := by
      obtain ⟨N, hN, h1, h5, _⟩ := electOk_parts hok
      omega
    have hwn : IntKind.i64.wrap (n - 1) = n - 1 := IntWalk.i64_in _ (by omega)
    by_cases hz : am.length = 0
    · have HR : firstV n rs am = ([], false) := by simp [firstV, hz]
      rw [HR]
      have hzb : (((am.length : Nat) : Int) == 0) = true := by simp [hz]
      have HZ := Lib.hid hz; clear hz HR hok
      go_enter Try.func41, Try.ntmps41
      go_wp2_with (go_at_call 38; refine HQ'.out.mono ?_; rintro e w1 ⟨rfl, hb1⟩)
      go_ret2
      exact ⟨_, rfl, fin0 _ hb1⟩
    · have hzb : (((am.length : Nat) : Int) == 0) = false := by rw [beq_eq_false_iff_ne]; omega
      cases hri : rising 0 (n - 1) am with
      | false =>
        have HR : firstV n rs am = ([], false) := by simp [firstV, hri]
        rw [HR]
        have HI := Lib.hid hri; have HZ := Lib.hid hz; clear hri hz HR hok
        go_enter Try.func41, Try.ntmps41
        go_wp2_with (first | (go_at_call 38; refine HQ'.out.mono ?_; rintro e w1 ⟨rfl, hb1⟩) | (go_at_call 80; refine (i_ascending _ am _ _ _ (g.below hb1)).mono ?_; rw [HI.out]; rintro e w2 ⟨rfl, hb2⟩))
        go_ret2
        exact ⟨_, rfl, fin0 _ (below_step hb1 hb2)⟩
      | true =>
        have HR : firstV n rs am = (fAll am rs rs.length, true) := by simp [firstV, hok, hri, hz]
        rw [HR]
        have HF := Lib.hid (first_facts hok hz hri)
        have HI := Lib.hid hri; have HZ := Lib.hid hz; clear hri hz HR hok
        go_enter Try.func41, Try.ntmps41
        go_wp2_with (first | (go_at_call 38; refine HQ'.out.mono ?_; rintro e w1 ⟨rfl, hb1⟩) | (go_at_call 80; refine (i_ascending _ am _ _ _ (g.below hb1)).mono ?_; rw [HI.out]; rintro e w2 ⟨rfl, hb2⟩; have hb2' := below_step hb1 hb2) | (go_at_call 70; refine (i_firstVotes _ rs _ am _ (h.below hb2') (g.below hb2') HF.out.1 HF.out.2.1 HF.out.2.2.1).mono ?_; rintro e w3 ⟨p, rfl, ho, hb3⟩; obtain ⟨ap, kp, rfl⟩ := ho.at_.form))
        go_ret2
        exact ⟨_, rfl, own_base ho hb2'.size, below_step hb2' hb3⟩

end Go.Proofs.Ytgjgdephpliolaa
