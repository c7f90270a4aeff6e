/- Contracts: CastVotes, the reference's and the program's. No conditions beyond sizes. -/
import Derived.Test.YtapkicfbknoioaaVoteC
namespace Go.Proofs.Ytapkicfbknoioaa
open Go.RowKit
set_option linter.unusedVariables false
set_option linter.unusedSimpArgs false

def okC (xs : List Int) : Bool := !xs.any (fun x => !inB x 0 3)
theorem okC_at {xs : List Int} {k : Nat} (h : k < xs.length) : okC (xs.drop k) = (inB xs[k] 0 3 && okC (xs.drop (k + 1))) := by rw [drop_at h]; simp only [okC, List.any_cons, Bool.not_or, Bool.not_not]
theorem okC_mem {xs : List Int} (h : okC xs = true) : ∀ x ∈ xs, 0 ≤ x ∧ x ≤ 3 := by
  intro x hx
  simp only [okC, Bool.not_eq_true', List.any_eq_false] at h
  exact inB_iff.1 (by simpa using h x hx)
/-- The weights of the first k votes, by what they are for. -/
def castK (L vs : List Int) : Nat → List Int
  | 0 => List.replicate 4 0
  | k + 1 => (castK L vs k).set (vs.getD k 0).toNat ((castK L vs k).getD (vs.getD k 0).toNat 0 + L.getD k 0)
@[simp] theorem castK_len (L vs : List Int) (k : Nat) : (castK L vs k).length = 4 := by
  induction k with
  | zero => simp [castK]
  | succ k ih => simp [castK, ih]
theorem castK_bd {L vs : List Int} (hL : ∀ e ∈ L, 0 ≤ e ∧ e ≤ 1200) (k : Nat) (hk : k ≤ L.length) : ∀ e ∈ castK L vs k, 0 ≤ e ∧ e ≤ 1200 * k := by
  induction k with
  | zero => intro e he; simp [castK] at he; omega
  | succ k ih =>
    intro e he
    have ih := ih (by omega)
    simp only [castK] at he
    rcases List.mem_or_eq_of_mem_set he with h1 | h1
    · have := ih e h1; omega
    · have h3 := hL _ (getD_mem (xs := L) (k := k) (by omega))
      by_cases hm : (vs.getD k 0).toNat < (castK L vs k).length
      · have h2 := ih _ (getD_mem hm)
        omega
      · have : (castK L vs k).getD (vs.getD k 0).toNat 0 = 0 := by
          rw [List.getD_eq_getElem?_getD, List.getElem?_eq_none (by omega)]; rfl
        omega
theorem castK_succ {L vs : List Int} {k m : Nat} (hv : k < vs.length) (hm : vs[k] = (m : Int)) (hk : k < L.length) : castK L vs (k + 1) = (castK L vs k).set m ((castK L vs k).getD m 0 + L[k]) := by
  simp only [castK]
  rw [getD_eqx hv, hm, Int.toNat_natCast, getD_eqx hk]
def castV (d : DVoters) (vs : List Int) : List Int × Bool :=
  if votersOk d && (vs.length == d.weights.length) && okC vs then (castK (heldQ d d.weights.length) vs vs.length, true) else ([], false)
theorem castV_len (d : DVoters) (vs : List Int) : (castV d vs).1.length ≤ 4000000 := by
  unfold castV
  split <;> simp

set_option maxHeartbeats 2000000 in
theorem s_CastVotes (v u : Value) (d : DVoters) (q : Value) (vs : List Int) (w : World) (h : VotersAt w v u d) (g : IntsAt w q vs) (hn : d.weights.length ≤ 1048576 ∧ d.proxies.length ≤ 1048576) (hn1 : vs.length ≤ 1048576) :
    Calls Try.prog 16 #[vVoters v u, q] w fun e w' => ∃ p, e = .returned (.tuple #[p, .bool (castV d vs).2]) ∧ OwnInts w' w.heap.size p (castV d vs).1 ∧ Below w.heap.size w w' := by
  obtain ⟨i0, hi, hz0, hz1, hz2⟩ := info_parts int_info
  have hnn := hn.1
  obtain ⟨ao, cap, ao', cap', rfl, rfl⟩ := h.form
  obtain ⟨qo, qc, rfl⟩ := g.form
  obtain ⟨W, hW⟩ : ∃ W, W = w.alloc (.cells #[.slice ao d.weights.length cap, .slice ao' d.proxies.length cap'] 29) := ⟨_, rfl⟩
  have bA : BoxAt W w.heap.size #[.slice ao d.weights.length cap, .slice ao' d.proxies.length cap'] := by rw [hW]; exact BoxAt.new _ _ _
  have hWb : Below w.heap.size w W := by rw [hW]; go_grown
  have HQ := s_l12Good _ _ d W (h.below hWb) hn
  have HW := Lib.hid hW; clear hW
  have a0 := bA.cells
  have fin0 : ∀ w1, Below w.heap.size w w1 → OwnInts (w1.alloc (.cells #[] 3)) w.heap.size (.slice (some ⟨w1.heap.size, 0, none⟩) 0 0) [] ∧ Below w.heap.size w (w1.alloc (.cells #[] 3)) := fun w1 hb => ⟨own_base (own_lit0 w1 3) hb.size, hb.alloc hb.size _⟩
  cases hok : votersOk d with
  | false =>
    have HR : castV d vs = ([], false) := by simp [castV, hok]
    rw [HR]
    rw [hok] at HQ
    have HQ' := Lib.hid HQ; clear HQ hok HR
    go_enter Try.func16, Try.ntmps16
    go_wp2_with fail
    rw [← HW.out]
    go_wp2_with (go_at_call 44; refine HQ'.out.mono ?_; rintro e w1 ⟨rfl, hb1⟩; have hb1' := hWb.trans (hb1.mono hWb.size))
    go_ret2
    exact ⟨_, rfl, fin0 _ hb1'⟩
  | true =>
    have HOK := Lib.hid hok
    have h12 := (votersOk_parts hok).1
    rw [hok] at HQ
    have HQ' := Lib.hid HQ; clear HQ
    by_cases hl : vs.length = d.weights.length
    case neg =>
      have HR : castV d vs = ([], false) := by simp [castV, hl]
      have hlb : (((vs.length : Nat) : Int) != ((d.weights.length : Nat) : Int)) = true := by rw [bne_iff_ne]; omega
      rw [HR]
      clear hok HR hl
      go_enter Try.func16, Try.ntmps16
      go_wp2_with fail
      rw [← HW.out]
      go_wp2_with (go_at_call 44; refine HQ'.out.mono ?_; rintro e w1 ⟨rfl, hb1⟩; have hb1' := hWb.trans (hb1.mono hWb.size); have a1 := (bA.below hb1).cells)
      go_ret2
      exact ⟨_, rfl, fin0 _ hb1'⟩
    case pos =>
      have hlb : (((vs.length : Nat) : Int) != ((d.weights.length : Nat) : Int)) = false := by simp [hl]
      have HR : Hid (castV d vs = if okC vs then (castK (heldQ d d.weights.length) vs vs.length, true) else ([], false)) := by simp [Hid, castV, hok, hl]
      have HL := Lib.hid hl; clear hl hok
      go_enter Try.func16, Try.ntmps16
      go_wp2_with fail
      rw [← HW.out]
      go_wp2_with (first | (go_at_call 44; refine HQ'.out.mono ?_; rintro e w1 ⟨rfl, hb1⟩; have hb1' := hWb.trans (hb1.mono hWb.size); have a1 := (bA.below hb1).cells) | (go_at_call 63; refine (s_l12Held _ _ d _ (h.below hb1') hn HOK.out).mono ?_; rintro e w3 ⟨p, rfl, ho, hb3⟩; have hb3' := hb1'.trans (hb3.mono hb1'.size); obtain ⟨_, po, pc, rfl, p1, p2, p3⟩ := ho.at_) | (at_make; refine wpList_make_full _ rfl _ _ 22 rfl w3.heap.size 3 i0 (.int .i64 0) 1 Try.underlying22 hi hz0 hz1 _ _ _ _ 4 rfl rfl rfl rfl ?c1 ?c2 ?c3 ?_))
      case c1 => rw [hz2]; omega
      case c2 => unfold maxLen; omega
      case c3 => omega
      intro w4 hown hg
      simp only [toList_madeCells_one, Nat.mul_one] at hown
      have hb : Below w3.heap.size w3 w4 := (Below.refl _ _).grown hg (Nat.le_refl _) (by simp)
      have hg3 := g.below hb3'
      obtain ⟨_, qo', qc', hsl, q1, q2, q3⟩ := hg3
      simp only [Value.slice.injEq, true_and] at hsl
      obtain ⟨rfl, rfl⟩ := hsl
      have hbd := Lib.hid (heldQ_1200 HOK.out)
      have HLl := Lib.hid (heldQ_len d d.weights.length)
      clear ho p1
      generalize heldQ d d.weights.length = L at *
      go_wp2_with fail
      go_loopw [8] (fun i wr => ∃ k : Nat, k ≤ vs.length ∧ i = .int .i64 k ∧ Hid (okC vs = okC (vs.drop k)) ∧ wr.ownsRow w3.heap.size 3 1 (.slice (some ⟨w3.heap.size, 0, none⟩) 4 4) 4 (ints (castK L vs k)) ∧ Below w3.heap.size w3 wr) (fun i _ => vs.length - (intOf i).toNat)
      case atStart => exact ⟨0, by omega, rfl, by simp [Hid], by simpa [castK, ints] using hown, hb⟩
      case round =>
        obtain ⟨k, hk, rfl, hd, hown, hb⟩ := hrel
        have hd' := hd.out
        clear hd
        have hfin := hb3'.trans (hb.mono hb3'.size)
        by_cases hlt : k < vs.length
        · obtain ⟨b, off, rfl, h4, h5⟩ := q3 (by omega)
          have hc : wr.cell? ⟨b, off + k, none⟩ = some (.int .i64 vs[k]) := by rw [hb.cell (p := ⟨b, off + k, none⟩) h4]; exact h5.int hlt
          rw [okC_at hlt] at hd'
          cases hx : inB vs[k] 0 3 with
          | false =>
            have HD : Hid (castV d vs = ([], false)) := by simp only [Hid]; rw [HR.out, hd', hx]; rfl
            have HX := Lib.hid hx; clear hx hd'
            generalize vs[k] = x at *
            go_wp2_with (go_at_call 64; refine (s_l1In _ _ _ _).mono ?_; rw [HX.out]; rintro e w' ⟨rfl, rfl⟩)
            go_ret2
            rw [HD.out]
            exact ⟨_, rfl, fin0 _ hfin⟩
          | true =>
            have HD : Hid (okC vs = okC (vs.drop (k + 1))) := by simpa [Hid, hx] using hd'
            have hx2 := inB_iff.1 hx
            have hLn := HLl.out
            have hvn := HL.out
            have hkl : k < L.length := by omega
            obtain ⟨m, hm⟩ : ∃ m : Nat, vs[k] = (m : Int) := ⟨vs[k].toNat, by omega⟩
            have hsu := castK_succ hlt hm hkl
            rw [hm] at hc hx hx2
            have hml : m < 4 := by omega
            have hm0 : (0 : Int) ≤ (m : Int) := by omega
            have hm4 : (m : Int) < 4 := by omega
            have hkd : (k : Int) < (d.weights.length : Int) := by have := HL.out; omega
            obtain ⟨b', off', rfl, h4', h5'⟩ := p3 (by omega)
            have hc' : wr.cell? ⟨b', off' + k, none⟩ = some (.int .i64 L[k]) := by rw [hb.cell (p := ⟨b', off' + k, none⟩) h4']; exact h5'.int hkl
            have hbx := hbd.out _ (List.getElem_mem hkl)
            have hby := castK_bd (vs := vs) hbd.out k (by omega) _ (getD_mem (xs := castK L vs k) (k := m) (by simpa using hml))
            have q1 : wr.cell? ⟨w3.heap.size, m, none⟩ = some (.int .i64 ((castK L vs k).getD m 0)) := by rw [hown.cellAt m (by omega)]; exact ints_getx (by simpa using hml)
            have q2 := hown.frozenAt m
            have q3' : (wr.setCell ⟨w3.heap.size, m, none⟩ (.int .i64 ((castK L vs k).getD m 0 + L[k]))).ownsRow w3.heap.size 3 1 (.slice (some ⟨w3.heap.size, 0, none⟩) 4 4) 4 (ints (castK L vs (k + 1))) := by rw [hsu, ← ints_setx]; exact (hown.stored m _).1
            have q4 := (hown.lt w3.heap.size rfl).2
            have HX := Lib.hid hx; clear hx hd' hm hsu hLn hvn
            generalize (castK L vs k).getD m 0 = y at *
            generalize L[k] = x at *
            go_wp2_with (go_at_call 64; refine (s_l1In _ _ _ _).mono ?_; rw [HX.out]; rintro e w' ⟨rfl, rfl⟩)
            go_region
            all_goals go_wp2_with fail
            all_goals go_roundw
            all_goals first | (case rel => exact ⟨k + 1, by omega, by go_num, HD, q3', by go_grown⟩) | (case measure => simp [intOf]; omega)
        · obtain rfl : k = vs.length := by omega
          have HD : Hid (castV d vs = (castK L vs vs.length, true)) := by
            rw [List.drop_of_length_le (by omega)] at hd'
            simp only [Hid]
            rw [HR.out, hd']; rfl
          clear hd'
          have hown' : OwnInts wr w3.heap.size (.slice (some ⟨w3.heap.size, 0, none⟩) 4 4) (castK L vs vs.length) := by simpa [OwnI] using hown
          go_wp2_with fail
          go_ret2
          rw [HD.out]
          exact ⟨_, rfl, own_base hown' hb3'.size, hfin⟩

theorem i_CastVotes1 (x : Int) (w : World) :
    Calls Try.prog 60 #[.int .i64 x] w fun e w' => e = .returned (.bool (!inB x 0 3)) ∧ w = w' := by
  go_enter Try.func60, Try.ntmps60
  go_wp2_with (go_at_call 61; refine (i_inside _ _ _ _).mono ?_; rintro e w' ⟨rfl, rfl⟩)
  go_ret
  exact ⟨rfl, rfl⟩

set_option maxHeartbeats 2000000 in
theorem i_CastVotes (v u : Value) (d : DVoters) (q : Value) (vs : List Int) (w : World) (h : VotersAt w v u d) (g : IntsAt w q vs) (hn : d.weights.length ≤ 1048576 ∧ d.proxies.length ≤ 1048576) (hn1 : vs.length ≤ 1048576) :
    Calls Try.prog 15 #[vVoters v u, q] w fun e w' => ∃ p, e = .returned (.tuple #[p, .bool (castV d vs).2]) ∧ OwnInts w' w.heap.size p (castV d vs).1 ∧ Below w.heap.size w w' := by
  obtain ⟨i0, hi, hz0, hz1, hz2⟩ := info_parts int_info
  have hnn := hn.1
  obtain ⟨ao, cap, ao', cap', rfl, rfl⟩ := h.form
  obtain ⟨qo, qc, rfl⟩ := g.form
  obtain ⟨W, hW⟩ : ∃ W, W = w.alloc (.cells #[.slice ao d.weights.length cap, .slice ao' d.proxies.length cap'] 29) := ⟨_, rfl⟩
  have bA : BoxAt W w.heap.size #[.slice ao d.weights.length cap, .slice ao' d.proxies.length cap'] := by rw [hW]; exact BoxAt.new _ _ _
  have hWb : Below w.heap.size w W := by rw [hW]; go_grown
  have HQ := i_AreVoters _ _ d W (h.below hWb) hn
  have HW := Lib.hid hW; clear hW
  have a0 := bA.cells
  have fin0 : ∀ w1, Below w.heap.size w w1 → OwnInts w1 w.heap.size (.slice none 0 0) [] ∧ Below w.heap.size w w1 := fun w1 hb => ⟨World.ownsRow_nil _ _ 3 1, hb⟩
  cases hok : votersOk d with
  | false =>
    have HR : castV d vs = ([], false) := by simp [castV, hok]
    rw [HR]
    rw [hok] at HQ
    have HQ' := Lib.hid HQ; clear HQ hok HR
    go_enter Try.func15, Try.ntmps15
    go_wp2_with fail
    rw [← HW.out]
    go_wp2_with (go_at_call 32; refine HQ'.out.mono ?_; rintro e w1 ⟨rfl, hb1⟩; have hb1' := hWb.trans (hb1.mono hWb.size))
    go_ret2
    exact ⟨_, rfl, fin0 _ hb1'⟩
  | true =>
    have HOK := Lib.hid hok
    have h12 := (votersOk_parts hok).1
    rw [hok] at HQ
    have HQ' := Lib.hid HQ; clear HQ
    by_cases hl : vs.length = d.weights.length
    case neg =>
      have HR : castV d vs = ([], false) := by simp [castV, hl]
      have hlb : (((vs.length : Nat) : Int) != ((d.weights.length : Nat) : Int)) = true := by rw [bne_iff_ne]; omega
      rw [HR]
      clear hok HR hl
      go_enter Try.func15, Try.ntmps15
      go_wp2_with fail
      rw [← HW.out]
      go_wp2_with (go_at_call 32; refine HQ'.out.mono ?_; rintro e w1 ⟨rfl, hb1⟩; have hb1' := hWb.trans (hb1.mono hWb.size); have a1 := (bA.below hb1).cells)
      go_ret2
      exact ⟨_, rfl, fin0 _ hb1'⟩
    case pos =>
      have hlb : (((vs.length : Nat) : Int) != ((d.weights.length : Nat) : Int)) = false := by simp [hl]
      have hcl : ∀ w1, Below w.heap.size w w1 → Calls Try.prog 59 #[.slice qo vs.length qc, .func (.func 60) #[] #[]] w1 fun e w' => e = .returned (.bool (!okC vs)) ∧ Below w1.heap.size w1 w' := fun w1 hb => by
        have := ContainsFunc_int 60 (enters_of Try.func60 (by kernel_rfl) (by kernel_rfl)) [] (fun x => !inB x 0 3) _ vs w1 (g.below hb) (fun x w' hb => (i_CastVotes1 x w').mono fun e w'' ⟨he, hw⟩ => ⟨he, hw ▸ Below.refl _ _⟩)
        simpa [okC] using this
      have HC := Lib.hid hcl; clear hcl
      cases hoc : okC vs with
      | false =>
        have HR : castV d vs = ([], false) := by simp [castV, hoc]
        rw [HR]
        rw [hoc] at HC
        have HL := Lib.hid hl; clear hl hok HR hoc
        go_enter Try.func15, Try.ntmps15
        go_wp2_with fail
        rw [← HW.out]
        go_wp2_with (first | (go_at_call 32; refine HQ'.out.mono ?_; rintro e w1 ⟨rfl, hb1⟩; have hb1' := hWb.trans (hb1.mono hWb.size); have a1 := (bA.below hb1).cells) | (go_at_call 59; refine (HC.out _ hb1').mono ?_; rintro e w2 ⟨rfl, hb2⟩))
        go_ret2
        exact ⟨_, rfl, fin0 _ (hb1'.trans (hb2.mono hb1'.size))⟩
      | true =>
        have HR : Hid (castV d vs = (castK (heldQ d d.weights.length) vs vs.length, true)) := by simp [Hid, castV, hok, hl, hoc]
        rw [hoc] at HC
        have HM := Lib.hid (okC_mem hoc)
        have HL := Lib.hid hl; clear hl hok hoc
        go_enter Try.func15, Try.ntmps15
        go_wp2_with fail
        rw [← HW.out]
        go_wp2_with (first | (go_at_call 32; refine HQ'.out.mono ?_; rintro e w1 ⟨rfl, hb1⟩; have hb1' := hWb.trans (hb1.mono hWb.size); have a1 := (bA.below hb1).cells) | (go_at_call 59; refine (HC.out _ hb1').mono ?_; rintro e w2 ⟨rfl, hb2⟩; have hb2' := hb1'.trans (hb2.mono hb1'.size); have bA2 := bA.below (below_step hb1 hb2)) | (at_make; refine wpList_make_full _ rfl _ _ 22 rfl w2.heap.size 3 i0 (.int .i64 0) 1 Try.underlying22 hi hz0 hz1 _ _ _ _ 4 rfl rfl rfl rfl ?c1 ?c2 ?c3 ?_))
        case c1 => rw [hz2]; omega
        case c2 => unfold maxLen; omega
        case c3 => omega
        intro w4 hown hg
        simp only [toList_madeCells_one, Nat.mul_one] at hown
        have hb : Below w2.heap.size w2 w4 := (Below.refl _ _).grown hg (Nat.le_refl _) (by simp)
        have hb4' := hb2'.trans (hb.mono hb2'.size)
        have a4 := (bA2.below hb).cells
        have hlt4 := (hown.lt w2.heap.size rfl).2
        go_wp2_with (go_at_call 62; refine (i_heldWeights _ _ d _ (h.below hb4') hn HOK.out).mono ?_; rintro e w3 ⟨p, rfl, ho, hb3⟩; obtain ⟨po, pc, rfl⟩ := ho.at_.form)
        have hb3' := hb4'.trans (hb3.mono hb4'.size)
        have hown3 := own_below hown hb3
        have hlt3 := hb3.size
        have hr := ho.toR
        have hbd := Lib.hid (heldQ_1200 HOK.out)
        have hLl := heldQ_len d d.weights.length
        clear ho
        generalize heldQ d d.weights.length = L at *
        have HLl := Lib.hid hLl
        clear hLl
        go_loopw [28] (fun i wr => ∃ k : Nat, k ≤ d.weights.length ∧ i = .int .i64 k ∧ wr.ownsRow w2.heap.size 3 1 (.slice (some ⟨w2.heap.size, 0, none⟩) 4 4) 4 (ints (castK L vs k)) ∧ OutOf w2.heap.size (w2.heap.size + 1) w3 wr) (fun i _ => d.weights.length - (intOf i).toNat)
        case atStart => exact ⟨0, by omega, rfl, by simpa [castK, ints] using hown3, OutOf.refl _ _ _⟩
        case round =>
          obtain ⟨k, hk, rfl, hown, hot⟩ := hrel
          have hsz := hot.size
          have hfin : Below w.heap.size w wr := hb3'.trans (hot.below hb2'.size hb3'.size)
          have hrr := hr.keep (hot.same (.inr (by omega)) (Nat.le_refl _))
          obtain ⟨_, po', pc', hsl', p1, p2, p3⟩ := hrr.at_
          simp only [Value.slice.injEq, true_and] at hsl'
          obtain ⟨rfl, rfl⟩ := hsl'
          by_cases hkd : k < d.weights.length
          · have hkl : k < L.length := by have := HLl.out; omega
            have hlt : k < vs.length := by have := HL.out; omega
            obtain ⟨_, qo', qc', hsl, _, _, q3⟩ := g.below hfin
            simp only [Value.slice.injEq, true_and] at hsl
            obtain ⟨rfl, rfl⟩ := hsl
            obtain ⟨b, off, rfl, h4, h5⟩ := q3 (by omega)
            have hc := h5.int hlt
            have hx2 := HM.out _ (List.getElem_mem hlt)
            obtain ⟨m, hm⟩ : ∃ m : Nat, vs[k] = (m : Int) := ⟨vs[k].toNat, by omega⟩
            have hsu := castK_succ hlt hm hkl
            rw [hm] at hc hx2
            have hml : m < 4 := by omega
            have hm0 : (0 : Int) ≤ (m : Int) := by omega
            have hm4 : (m : Int) < 4 := by omega
            obtain ⟨b', off', rfl, h4', h5'⟩ := p3 (by omega)
            have hc' := h5'.int hkl
            have hbx := hbd.out _ (List.getElem_mem hkl)
            have hby := castK_bd (vs := vs) hbd.out k (by omega) _ (getD_mem (xs := castK L vs k) (k := m) (by simpa using hml))
            have q1 : wr.cell? ⟨w2.heap.size, m, none⟩ = some (.int .i64 ((castK L vs k).getD m 0)) := by rw [hown.cellAt m (by omega)]; exact ints_getx (by simpa using hml)
            have q2 := hown.frozenAt m
            have q3' : (wr.setCell ⟨w2.heap.size, m, none⟩ (.int .i64 ((castK L vs k).getD m 0 + L[k]))).ownsRow w2.heap.size 3 1 (.slice (some ⟨w2.heap.size, 0, none⟩) 4 4) 4 (ints (castK L vs (k + 1))) := by rw [hsu, ← ints_setx]; exact (hown.stored m _).1
            have q4 := hot.set (i := m) (.int .i64 ((castK L vs k).getD m 0 + L[k]))
            clear hm hsu
            generalize (castK L vs k).getD m 0 = y at *
            generalize L[k] = x at *
            go_wp2_with fail
            go_roundw
            case rel => exact ⟨k + 1, by omega, by go_num, q3', q4⟩
            case measure => simp [intOf]; omega
          · obtain rfl : k = d.weights.length := by omega
            have hown' : OwnInts wr w2.heap.size (.slice (some ⟨w2.heap.size, 0, none⟩) 4 4) (castK L vs vs.length) := by rw [HL.out]; simpa [OwnI] using hown
            go_wp2_with fail
            go_ret2
            rw [HR.out]
            exact ⟨_, rfl, own_base hown' hb2'.size, hfin⟩

end Go.Proofs.Ytapkicfbknoioaa
