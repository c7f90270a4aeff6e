/- Contracts: BordaScores, the reference's and the program's. No conditions. -/
import Derived.Test.YtfonpkegaeebaaaRankL
import Derived.Test.YtfonpkegaeebaaaRankR
import Derived.Test.YtfonpkegaeebaaaPush
namespace Go.Proofs.Ytfonpkegaeebaaa
open Go.RowKit
set_option linter.unusedVariables false
set_option linter.unusedSimpArgs false

theorem permF_mem {n : Int} {xs : List Int} : ∀ {pre : List Int}, permF n pre xs = true → ∀ x ∈ xs, inB x 0 (n - 1) = true := by
  induction xs with
  | nil => intro pre h x hx; cases hx
  | cons a r ih =>
    intro pre h x hx
    simp only [permF, Bool.and_eq_true] at h
    rcases List.mem_cons.1 hx with rfl | hx
    · exact h.1.1
    · exact ih h.2 x hx
theorem electOk_parts {n : Int} {rs : List DRanking} (h : electOk n rs = true) : ∃ N : Nat, n = N ∧ 1 ≤ N ∧ N ≤ 5 ∧ 1 ≤ rs.length ∧ rs.length ≤ 9 ∧ ∀ r ∈ rs, r.order.length = N ∧ (∀ x ∈ r.order, 0 ≤ x ∧ x < N) ∧ 1 ≤ r.weight ∧ r.weight ≤ 100 := by
  simp only [electOk, Bool.and_eq_true, List.all_eq_true] at h
  obtain ⟨⟨h1, h2⟩, h3⟩ := h
  have h1 := inB_iff.1 h1
  have h2 := inB_iff.1 h2
  refine ⟨n.toNat, by omega, by omega, by omega, by omega, by omega, fun r hr => ?_⟩
  have h4 := h3 r hr
  simp only [rankOk, permOk, Bool.and_eq_true, decide_eq_true_eq] at h4
  obtain ⟨⟨h5, h6⟩, h7⟩ := h4
  refine ⟨by omega, fun x hx => ?_, inB_iff.1 h7⟩
  have := inB_iff.1 (permF_mem h6 x hx)
  omega
theorem getD_eqy {xs : List Int} {k : Nat} (h : k < xs.length) : xs.getD k 0 = xs[k] := by simp [List.getD_eq_getElem?_getD, List.getElem?_eq_getElem h]
theorem getD_memy {xs : List Int} {k : Nat} (h : k < xs.length) : xs.getD k 0 ∈ xs := by rw [getD_eqy h]; exact List.getElem_mem h
theorem ints_sety (xs : List Int) (k : Nat) (x : Int) : (ints xs).set k (.int .i64 x) = ints (xs.set k x) := by simp [ints, List.map_set]
theorem ints_gety {xs : List Int} {k : Nat} (h : k < xs.length) : (ints xs)[k]? = some (.int .i64 (xs.getD k 0)) := by rw [getD_eqy h]; simp [ints, List.getElem?_eq_getElem h]

/-- The scores with the first k places of one more ranking. -/
def bRow (N : Nat) (r : DRanking) (acc : List Int) : Nat → List Int
  | 0 => acc
  | k + 1 => (bRow N r acc k).set (r.order.getD k 0).toNat ((bRow N r acc k).getD (r.order.getD k 0).toNat 0 + r.weight * ((N : Int) - 1 - k))
def bAll (N : Nat) (rs : List DRanking) : Nat → List Int
  | 0 => List.replicate N 0
  | i + 1 => match rs[i]? with | some r => bRow N r (bAll N rs i) N | none => bAll N rs i
theorem bRow_len (N : Nat) (r : DRanking) (acc : List Int) (k : Nat) : (bRow N r acc k).length = acc.length := by
  induction k with
  | zero => rfl
  | succ k ih => simp [bRow, ih]
@[simp] theorem bAll_len (N : Nat) (rs : List DRanking) (i : Nat) : (bAll N rs i).length = N := by
  induction i with
  | zero => simp [bAll]
  | succ i ih =>
    simp only [bAll]
    split
    · rw [bRow_len, ih]
    · exact ih
theorem step_bd {N k : Nat} {wt : Int} (hw : 1 ≤ wt ∧ wt ≤ 100) (hN : N ≤ 5) (hk : k < N) : 0 ≤ wt * ((N : Int) - 1 - k) ∧ wt * ((N : Int) - 1 - k) ≤ 400 := by
  have h1 : 0 ≤ (N : Int) - 1 - k := by omega
  have h2 : (N : Int) - 1 - k ≤ 4 := by omega
  refine ⟨Int.mul_nonneg (by omega) h1, ?_⟩
  have := Int.mul_le_mul hw.2 h2 h1 (by omega)
  omega
theorem bRow_bd {N : Nat} {r : DRanking} {acc : List Int} {B : Int} (hB : 0 ≤ B) (ha : ∀ e ∈ acc, 0 ≤ e ∧ e ≤ B) (hw : 1 ≤ r.weight ∧ r.weight ≤ 100) (hN : N ≤ 5) (k : Nat) (hk : k ≤ N) : ∀ e ∈ bRow N r acc k, 0 ≤ e ∧ e ≤ B + 400 * k := by
  induction k with
  | zero => intro e he; have := ha e he; omega
  | succ k ih =>
    intro e he
    have ih := ih (by omega)
    have hs := step_bd (k := k) hw hN (by omega)
    simp only [bRow] at he
    rcases List.mem_or_eq_of_mem_set he with h1 | h1
    · have := ih e h1; omega
    · by_cases hm : (r.order.getD k 0).toNat < (bRow N r acc k).length
      · have h2 := ih _ (getD_memy hm)
        omega
      · have : (bRow N r acc k).getD (r.order.getD k 0).toNat 0 = 0 := by
          rw [List.getD_eq_getElem?_getD, List.getElem?_eq_none (by omega)]; rfl
        omega
theorem bAll_bd {N : Nat} {rs : List DRanking} (hr : ∀ r ∈ rs, 1 ≤ r.weight ∧ r.weight ≤ 100) (hN : N ≤ 5) (i : Nat) : ∀ e ∈ bAll N rs i, 0 ≤ e ∧ e ≤ 2000 * i := by
  induction i with
  | zero => intro e he; simp [bAll] at he; omega
  | succ i ih =>
    intro e he
    simp only [bAll] at he
    split at he
    · rename_i r hri
      have hw := hr r (List.mem_of_getElem? hri)
      have := bRow_bd (B := 2000 * i) (by omega) ih hw hN N (Nat.le_refl _) e he
      omega
    · have := ih e he; omega
theorem bAll_at {N : Nat} {rs : List DRanking} {i : Nat} (h : i < rs.length) : bAll N rs (i + 1) = bRow N rs[i] (bAll N rs i) N := by simp [bAll, List.getElem?_eq_getElem h]
theorem bRow_at {N : Nat} {r : DRanking} {acc : List Int} {k m : Nat} (hk : k < r.order.length) (hm : r.order[k] = (m : Int)) : bRow N r acc (k + 1) = (bRow N r acc k).set m ((bRow N r acc k).getD m 0 + r.weight * ((N : Int) - 1 - k)) := by
  simp only [bRow]
  rw [getD_eqy hk, hm, Int.toNat_natCast]
def bordaV (n : Int) (rs : List DRanking) : List Int × Bool := if electOk n rs then (bAll n.toNat rs rs.length, true) else ([], false)
theorem bordaV_len (n : Int) (rs : List DRanking) : (bordaV n rs).1.length ≤ 4000000 := by
  unfold bordaV
  split
  · rename_i h
    obtain ⟨N, rfl, _, h5, _⟩ := electOk_parts h
    simp; omega
  · simp

set_option maxHeartbeats 2000000 in
theorem s_BordaScores (n : Int) (v : Value) (rs : List DRanking) (w : World) (h : RanksAt w v rs) :
    Calls Try.prog 24 #[.int .i64 n, v] w fun e w' => ∃ p, e = .returned (.tuple #[p, .bool (bordaV n rs).2]) ∧ OwnInts w' w.heap.size p (bordaV n rs).1 ∧ Below w.heap.size w w' := by
  obtain ⟨i0, hi, hz0, hz1, hz2⟩ := info_parts int_info
  have HQ := s_l13Good n v rs w h
  obtain ⟨ao, cap, rfl⟩ := h.form
  cases hok : electOk n rs with
  | false =>
    have HR : bordaV n rs = ([], false) := by simp [bordaV, hok]
    rw [HR]
    rw [hok] at HQ
    have HQ' := Lib.hid HQ; clear HQ hok HR
    go_enter Try.func24, Try.ntmps24
    go_wp2_with (go_at_call 32; refine HQ'.out.mono ?_; rintro e w1 ⟨rfl, hb1⟩)
    go_ret2
    exact ⟨_, rfl, own_base (own_lit0 w1 3) hb1.size, hb1.alloc hb1.size _⟩
  | true =>
    have HR : Hid (bordaV n rs = (bAll n.toNat rs rs.length, true)) := by simp [Hid, bordaV, hok]
    obtain ⟨N, rfl, hN1, hN5, hr1, hr9, hrs⟩ := electOk_parts hok
    rw [Int.toNat_natCast] at HR
    rw [hok] at HQ
    have HQ' := Lib.hid HQ; clear HQ hok
    have HRS := Lib.hid hrs; clear hrs
    have hwt : ∀ r ∈ rs, 1 ≤ r.weight ∧ r.weight ≤ 100 := fun r hr => (HRS.out r hr).2.2
    have HWT := Lib.hid hwt; clear hwt
    have hwn : IntKind.i64.wrap ((N : Int) - 1) = (N : Int) - 1 := IntWalk.i64_in _ (by omega)
    go_enter Try.func24, Try.ntmps24
    go_wp2_with (first | (go_at_call 32; refine HQ'.out.mono ?_; rintro e w1 ⟨rfl, hb1⟩) | (at_make; refine wpList_make_full _ rfl _ _ 27 rfl w1.heap.size 3 i0 (.int .i64 0) 1 Try.underlying27 hi hz0 hz1 _ _ _ _ N rfl rfl rfl rfl ?c1 ?c2 ?c3 ?_))
    case c1 => rw [hz2]; omega
    case c2 => unfold maxLen; omega
    case c3 => omega
    intro w2 hown hg
    simp only [toList_madeCells_one, Nat.mul_one] at hown
    have hb : Below w1.heap.size w1 w2 := (Below.refl _ _).grown hg (Nat.le_refl _) (by simp)
    go_wp2_with fail
    go_loopw [7] (fun i wr => ∃ k : Nat, k ≤ rs.length ∧ i = .int .i64 k ∧ wr.ownsRow w1.heap.size 3 1 (.slice (some ⟨w1.heap.size, 0, none⟩) N N) N (ints (bAll N rs k)) ∧ Below w1.heap.size w1 wr) (fun i _ => rs.length - (intOf i).toNat)
    case atStart => exact ⟨0, by omega, rfl, by simpa [bAll, ints] using hown, hb⟩
    case round =>
      obtain ⟨k, hk, rfl, hown, hb⟩ := hrel
      have hfin := hb1.trans (hb.mono hb1.size)
      by_cases hlt : k < rs.length
      · obtain ⟨b, off, u0, rfl, h4, h5, c0, c1⟩ := h.get hlt
        obtain ⟨hol, hom, hw⟩ := HRS.out _ (List.getElem_mem hlt)
        have hacc := bAll_bd HWT.out hN5 k
        have hall := bAll_at (N := N) hlt
        have hal := bAll_len N rs k
        generalize hr : rs[k] = r at *
        have HALL := Lib.hid hall; have HACC := Lib.hid hacc; have HOL := Lib.hid hol; have HOM := Lib.hid hom; have HAL := Lib.hid hal
        clear hall hacc hol hom hr hal
        generalize bAll N rs k = acc at *
        obtain ⟨_, uo, uc, rfl, p1, p2, p3⟩ := h5
        rw [HOL.out] at c0 p1 p3
        go_wp2_with fail
        go_loopw [8] (fun i wr => ∃ q : Nat, q ≤ N ∧ i = .int .i64 q ∧ wr.ownsRow w1.heap.size 3 1 (.slice (some ⟨w1.heap.size, 0, none⟩) N N) N (ints (bRow N r acc q)) ∧ Below w1.heap.size w1 wr) (fun i _ => N - (intOf i).toNat)
        case atStart => exact ⟨0, by omega, rfl, by simpa [bRow] using hown, hb⟩
        case round =>
          obtain ⟨q, hq, rfl, hown, hb⟩ := hrel
          have hfin := hb1.trans (hb.mono hb1.size)
          by_cases hqt : q < N
          · have hqo : q < r.order.length := by rw [HOL.out]; exact hqt
            obtain ⟨bu, ou, rfl, q4, q5⟩ := p3 (by omega)
            have hx := HOM.out _ (List.getElem_mem hqo)
            obtain ⟨m, hm⟩ : ∃ m : Nat, r.order[q] = (m : Int) := ⟨r.order[q].toNat, by omega⟩
            have hst0 := bRow_at (N := N) (acc := acc) hqo hm
            have hc := q5.int hqo
            rw [hm] at hc hx
            have hmN : m < N := by omega
            have hm0 : (0 : Int) ≤ (m : Int) := by omega
            have hm1 : (m : Int) < (N : Int) := by omega
            have hk0 : (0 : Int) ≤ (k : Int) := by omega
            have hk1 : (k : Int) < (rs.length : Int) := by omega
            have d0 := (hfin.cell (p := ⟨b, off + k * 2, none⟩) h4).trans c0
            have d1 := (hfin.cell (p := ⟨b, off + k * 2 + 1, none⟩) h4).trans c1
            have d2 := (hfin.cell (p := ⟨bu, ou + q, none⟩) q4).trans hc
            have hbl : (bRow N r acc q).length = N := by rw [bRow_len]; exact HAL.out
            have hbd := bRow_bd (B := 2000 * k) (by omega) HACC.out hw hN5 q (by omega) _ (getD_memy (xs := bRow N r acc q) (k := m) (by omega))
            have hsb := step_bd (k := q) hw hN5 hqt
            have q1 : wr.cell? ⟨w1.heap.size, m, none⟩ = some (.int .i64 ((bRow N r acc q).getD m 0)) := by rw [hown.cellAt m (by omega)]; exact ints_gety (by omega)
            have q2 := hown.frozenAt m
            have q3' : (wr.setCell ⟨w1.heap.size, m, none⟩ (.int .i64 ((bRow N r acc q).getD m 0 + r.weight * ((N : Int) - 1 - q)))).ownsRow w1.heap.size 3 1 (.slice (some ⟨w1.heap.size, 0, none⟩) N N) N (ints (bRow N r acc (q + 1))) := by rw [hst0, ← ints_sety]; exact (hown.stored m _).1
            have q6 := (hown.lt w1.heap.size rfl).2
            have hw2 : IntKind.i64.wrap ((N : Int) - 1 - q) = (N : Int) - 1 - q := IntWalk.i64_in _ (by omega)
            have hw3 : IntKind.i64.wrap (r.weight * ((N : Int) - 1 - q)) = r.weight * ((N : Int) - 1 - q) := IntWalk.i64_in _ (by omega)
            generalize (bRow N r acc q).getD m 0 = y at *
            have hw4 : IntKind.i64.wrap (y + r.weight * ((N : Int) - 1 - q)) = y + r.weight * ((N : Int) - 1 - q) := IntWalk.i64_in _ (by omega)
            clear hm hst0 hbl hsb c0 c1 hc
            generalize r.weight = wt at *
            go_wp2_with fail
            go_region
            all_goals go_wp2_with fail
            all_goals go_roundw
            all_goals first | (case rel => exact ⟨q + 1, by omega, by go_num, q3', by go_grown⟩) | (case measure => simp [intOf]; omega)
          · obtain rfl : q = N := by omega
            rw [← HALL.out] at hown
            go_wp2_with fail
            go_roundw
            case rel => exact ⟨k + 1, by omega, by go_num, hown, hb⟩
            case measure => simp [intOf]; omega
      · obtain rfl : k = rs.length := by omega
        have hown' : OwnInts wr w1.heap.size (.slice (some ⟨w1.heap.size, 0, none⟩) N N) (bAll N rs rs.length) := by simpa [OwnI] using hown
        go_wp2_with fail
        go_ret2
        rw [HR.out]
        exact ⟨_, rfl, own_base hown' hb1.size, hfin⟩

set_option maxHeartbeats 2000000 in
theorem i_BordaScores (n : Int) (v : Value) (rs : List DRanking) (w : World) (h : RanksAt w v rs) :
    Calls Try.prog 21 #[.int .i64 n, v] w fun e w' => ∃ p, e = .returned (.tuple #[p, .bool (bordaV n rs).2]) ∧ OwnInts w' w.heap.size p (bordaV n rs).1 ∧ Below w.heap.size w w' := by
  obtain ⟨i0, hi, hz0, hz1, hz2⟩ := info_parts int_info
  have HQ := i_IsElection n v rs w h
  obtain ⟨ao, cap, rfl⟩ := h.form
  cases hok : electOk n rs with
  | false =>
    have HR : bordaV n rs = ([], false) := by simp [bordaV, hok]
    rw [HR]
    rw [hok] at HQ
    have HQ' := Lib.hid HQ; clear HQ hok HR
    go_enter Try.func21, Try.ntmps21
    go_wp2_with (go_at_call 26; refine HQ'.out.mono ?_; rintro e w1 ⟨rfl, hb1⟩)
    go_ret2
    exact ⟨_, rfl, World.ownsRow_nil _ _ 3 1, hb1⟩
  | true =>
    have HR : Hid (bordaV n rs = (bAll n.toNat rs rs.length, true)) := by simp [Hid, bordaV, hok]
    obtain ⟨N, rfl, hN1, hN5, hr1, hr9, hrs⟩ := electOk_parts hok
    rw [Int.toNat_natCast] at HR
    rw [hok] at HQ
    have HQ' := Lib.hid HQ; clear HQ hok
    have HRS := Lib.hid hrs; clear hrs
    have hwt : ∀ r ∈ rs, 1 ≤ r.weight ∧ r.weight ≤ 100 := fun r hr => (HRS.out r hr).2.2
    have HWT := Lib.hid hwt; clear hwt
    have hwn : IntKind.i64.wrap ((N : Int) - 1) = (N : Int) - 1 := IntWalk.i64_in _ (by omega)
    go_enter Try.func21, Try.ntmps21
    go_wp2_with (first | (go_at_call 26; refine HQ'.out.mono ?_; rintro e w1 ⟨rfl, hb1⟩) | (at_make; refine wpList_make_full _ rfl _ _ 27 rfl w1.heap.size 3 i0 (.int .i64 0) 1 Try.underlying27 hi hz0 hz1 _ _ _ _ N rfl rfl rfl rfl ?c1 ?c2 ?c3 ?_))
    case c1 => rw [hz2]; omega
    case c2 => unfold maxLen; omega
    case c3 => omega
    intro w2 hown hg
    simp only [toList_madeCells_one, Nat.mul_one] at hown
    have hb : Below w1.heap.size w1 w2 := (Below.refl _ _).grown hg (Nat.le_refl _) (by simp)
    go_wp2_with fail
    go_loopw [19] (fun i wr => ∃ k : Nat, k ≤ rs.length ∧ i = .int .i64 k ∧ wr.ownsRow w1.heap.size 3 1 (.slice (some ⟨w1.heap.size, 0, none⟩) N N) N (ints (bAll N rs k)) ∧ Below w1.heap.size w1 wr) (fun i _ => rs.length - (intOf i).toNat)
    case atStart => exact ⟨0, by omega, rfl, by simpa [bAll, ints] using hown, hb⟩
    case round =>
      obtain ⟨k, hk, rfl, hown, hb⟩ := hrel
      have hfin := hb1.trans (hb.mono hb1.size)
      by_cases hlt : k < rs.length
      · obtain ⟨b, off, u0, rfl, h4, h5, c0, c1⟩ := h.get hlt
        obtain ⟨hol, hom, hw⟩ := HRS.out _ (List.getElem_mem hlt)
        have hacc := bAll_bd HWT.out hN5 k
        have hall := bAll_at (N := N) hlt
        have hal := bAll_len N rs k
        generalize hr : rs[k] = r at *
        have HALL := Lib.hid hall; have HACC := Lib.hid hacc; have HOL := Lib.hid hol; have HOM := Lib.hid hom; have HAL := Lib.hid hal
        clear hall hacc hol hom hr hal
        generalize bAll N rs k = acc at *
        obtain ⟨_, uo, uc, rfl, p1, p2, p3⟩ := h5
        rw [HOL.out] at c0 p1 p3
        have d0 := (hfin.cell (p := ⟨b, off + k * 2, none⟩) h4).trans c0
        have d1 := (hfin.cell (p := ⟨b, off + k * 2 + 1, none⟩) h4).trans c1
        obtain ⟨W1, hW1⟩ : ∃ W1, W1 = wr.alloc (.cells #[.slice uo N uc, .int .i64 r.weight] 44) := ⟨_, rfl⟩
        have bP : BoxAt W1 wr.heap.size #[.slice uo N uc, .int .i64 r.weight] := by rw [hW1]; exact BoxAt.new _ _ _
        have hWn : Below wr.heap.size wr W1 := by rw [hW1]; go_grown
        have hownW := own_below hown hWn
        have hbW := below_step hb hWn
        have hgr := (hown.lt w1.heap.size rfl).2
        have HW1 := Lib.hid hW1; clear hW1 c0 c1
        have e0 := bP.cells
        go_wp2_with fail
        rw [← HW1.out]
        go_wp2_with fail
        go_loopw [26] (fun i wr' => ∃ q : Nat, q ≤ N ∧ i = .int .i64 q ∧ wr'.ownsRow w1.heap.size 3 1 (.slice (some ⟨w1.heap.size, 0, none⟩) N N) N (ints (bRow N r acc q)) ∧ OutOf w1.heap.size (w1.heap.size + 1) W1 wr') (fun i _ => N - (intOf i).toNat)
        case atStart => exact ⟨0, by omega, rfl, by simpa [bRow] using hownW, OutOf.refl _ _ _⟩
        case round =>
          obtain ⟨q, hq, rfl, hown, hot⟩ := hrel
          have hsz := hot.size
          have hfinW : Below w.heap.size w W1 := hb1.trans (hbW.mono hb1.size)
          have hszW := hfinW.size
          have hfin := hfinW.trans (hot.below hb1.size hszW)
          have hbE := hbW.trans (hot.below (Nat.le_refl _) hbW.size)
          have e2 := (OutOf.box hot bP (.inr (by omega))).cells
          by_cases hqt : q < N
          · have hqo : q < r.order.length := by rw [HOL.out]; exact hqt
            obtain ⟨bu, ou, rfl, q4, q5⟩ := p3 (by omega)
            have hx := HOM.out _ (List.getElem_mem hqo)
            obtain ⟨m, hm⟩ : ∃ m : Nat, r.order[q] = (m : Int) := ⟨r.order[q].toNat, by omega⟩
            have hst0 := bRow_at (N := N) (acc := acc) hqo hm
            have hc := q5.int hqo
            rw [hm] at hc hx
            have hmN : m < N := by omega
            have hm0 : (0 : Int) ≤ (m : Int) := by omega
            have hm1 : (m : Int) < (N : Int) := by omega
            have d2 := (hfin.cell (p := ⟨bu, ou + q, none⟩) q4).trans hc
            have hbl : (bRow N r acc q).length = N := by rw [bRow_len]; exact HAL.out
            have hbd := bRow_bd (B := 2000 * k) (by omega) HACC.out hw hN5 q (by omega) _ (getD_memy (xs := bRow N r acc q) (k := m) (by omega))
            have hsb := step_bd (k := q) hw hN5 hqt
            have q1 : wr.cell? ⟨w1.heap.size, m, none⟩ = some (.int .i64 ((bRow N r acc q).getD m 0)) := by rw [hown.cellAt m (by omega)]; exact ints_gety (by omega)
            have q2 := hown.frozenAt m
            have q3' : (wr.setCell ⟨w1.heap.size, m, none⟩ (.int .i64 ((bRow N r acc q).getD m 0 + r.weight * ((N : Int) - 1 - q)))).ownsRow w1.heap.size 3 1 (.slice (some ⟨w1.heap.size, 0, none⟩) N N) N (ints (bRow N r acc (q + 1))) := by rw [hst0, ← ints_sety]; exact (hown.stored m _).1
            have q6 := (hown.lt w1.heap.size rfl).2
            have hot' := hot.set (i := m) (.int .i64 ((bRow N r acc q).getD m 0 + r.weight * ((N : Int) - 1 - q)))
            have hw2 : IntKind.i64.wrap ((N : Int) - 1 - q) = (N : Int) - 1 - q := IntWalk.i64_in _ (by omega)
            have hw3 : IntKind.i64.wrap (r.weight * ((N : Int) - 1 - q)) = r.weight * ((N : Int) - 1 - q) := IntWalk.i64_in _ (by omega)
            generalize (bRow N r acc q).getD m 0 = y at *
            have hw4 : IntKind.i64.wrap (y + r.weight * ((N : Int) - 1 - q)) = y + r.weight * ((N : Int) - 1 - q) := IntWalk.i64_in _ (by omega)
            clear hm hst0 hbl hsb hc d0 d1
            generalize r.weight = wt at *
            go_wp2_with fail
            go_region
            all_goals go_wp2_with fail
            all_goals go_roundw
            all_goals first | (case rel => exact ⟨q + 1, by omega, by go_num, q3', by first | exact hot' | exact hot'.drew'⟩) | (case measure => simp [intOf]; omega)
          · obtain rfl : q = N := by omega
            rw [← HALL.out] at hown
            go_wp2_with fail
            go_roundw
            case rel => exact ⟨k + 1, by omega, by go_num, hown, hbE⟩
            case measure => simp [intOf]; omega
      · obtain rfl : k = rs.length := by omega
        have hown' : OwnInts wr w1.heap.size (.slice (some ⟨w1.heap.size, 0, none⟩) N N) (bAll N rs rs.length) := by simpa [OwnI] using hown
        go_wp2_with fail
        go_ret2
        rw [HR.out]
        exact ⟨_, rfl, own_base hown' hb1.size, hfin⟩

end Go.Proofs.Ytfonpkegaeebaaa
