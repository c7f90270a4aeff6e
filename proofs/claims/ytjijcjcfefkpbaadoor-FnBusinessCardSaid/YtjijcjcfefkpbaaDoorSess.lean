/- Contracts on sessions: reading, copying, comparing, validity, quorum. No conditions beyond sizes. -/
import Derived.Test.YtjijcjcfefkpbaaDoorIntS
import Derived.Test.YtjijcjcfefkpbaaDoorSmall
namespace Go.Proofs.YtjijcjcfefkpbaaDoor
open Go.RowKit
set_option linter.unusedVariables false
set_option linter.unusedSimpArgs false

abbrev vSess (en nu de : Int) (v : Value) (re : Int) : Value := .agg #[.int .i64 en, .int .i64 nu, .int .i64 de, v, .int .i64 re]
/-- A session is valid. -/
def sessOk (en nu de : Int) (pr : List Int) (re : Int) : Bool := inB en 1 30 && inB de 1 10 && inB nu 1 de && rising 1 en pr && inB re 0 1439
theorem sessOk_iff {en nu de : Int} {pr : List Int} {re : Int} : sessOk en nu de pr re = true ↔ (1 ≤ en ∧ en ≤ 30) ∧ (1 ≤ de ∧ de ≤ 10) ∧ (1 ≤ nu ∧ nu ≤ de) ∧ rising 1 en pr = true ∧ (0 ≤ re ∧ re ≤ 1439) := by
  simp [sessOk, inB, and_assoc]

theorem szSession_e (en nu de : Int) (v : Value) (pr : List Int) (re left : Int) (w : World) (h : IntsAt w v pr) (hl : 0 ≤ left) (hl2 : left ≤ 1048576) :
    Calls Tryd.prog 5 #[vSess en nu de v re, .int .i64 left] w fun e w' => e = .returned (.int .i64 (szSub left pr.length)) ∧ Below w.heap.size w w' := by
  have hs : szSub left pr.length = -1 ∨ 0 ≤ szSub left pr.length := by unfold szSub; split <;> omega
  have hs2 : szSub left pr.length ≤ 1048576 := by unfold szSub; split <;> omega
  obtain ⟨ao, cap, rfl⟩ := h.form
  generalize hz : szSub left pr.length = z at *
  have HZ := Lib.hid hz; clear hz
  rcases hs with rfl | hs
  · go_enter Tryd.func5, Tryd.ntmps5
    go_wp2_with (go_at_call 19; refine (szIntS_c _ pr _ _ (h.alloc _) hl hl2).mono ?_; rw [HZ.out]; rintro e w' ⟨rfl, hb⟩)
    go_ret
    exact ⟨rfl, below_al hb (by simp)⟩
  · go_enter Tryd.func5, Tryd.ntmps5
    go_wp2_with (go_at_call 19; refine (szIntS_c _ pr _ _ (h.alloc _) hl hl2).mono ?_; rw [HZ.out]; rintro e w' ⟨rfl, hb⟩)
    go_ret
    exact ⟨rfl, below_al hb (by simp)⟩

theorem szSession_c (en nu de : Int) (v : Value) (pr : List Int) (re left : Int) (w : World) (h : IntsAt w v pr) (hl : 0 ≤ left) (hl2 : left ≤ 1048576) :
    Calls Tryd.prog 5 #[vSess en nu de v re, .int .i64 left] w fun e w' => ∃ r : Int, e = .returned (.int .i64 r) ∧ (r < 0 ∨ (0 ≤ r ∧ r ≤ 1048576 ∧ pr.length ≤ 1048576)) ∧ Below w.heap.size w w' :=
  (szSession_e en nu de v pr re left w h hl hl2).mono fun e w' ⟨he, hb⟩ => ⟨_, he, by unfold szSub; split <;> omega, hb⟩

theorem toSession_c (en nu de : Int) (v : Value) (pr : List Int) (re : Int) (w : World) (h : IntsAt w v pr) (hn : pr.length ≤ 1048576) :
    Calls Tryd.prog 7 #[vSess en nu de v re] w fun e w' => ∃ u, e = .returned (vSess en nu de u re) ∧ OwnInts w' w.heap.size u pr ∧ Below w.heap.size w w' := by
  obtain ⟨ao, cap, rfl⟩ := h.form
  go_enter Tryd.func7, Tryd.ntmps7
  go_wp2_with (go_at_call 23; refine (toIntS_c _ pr _ (((h.alloc _).alloc _).alloc _) hn).mono ?_; rintro e w1 ⟨u, rfl, hown, hb⟩; obtain ⟨hbc, hbf⟩ := bcell hb; obtain ⟨au, cu, rfl⟩ := hown.at_.form; have hz := hb.size; simp only [World.size_alloc] at hz)
  have n1 : ∀ i, w1.cell? ⟨w.heap.size + 1, i, none⟩ = (#[.int .i64 0, .int .i64 0, .int .i64 0, .slice none 0 0, .int .i64 0] : Array Value)[i]? := fun i => (hbc _ _ (by simp)).trans (by simp [go_sem])
  refine bodyPost_ret (v := vSess en nu de (.slice au pr.length cu) re) (by simp [results, Tryd.results7, go_sem, n1]) rfl ⟨_, rfl, ?_, ?_⟩
  · have h4 : World.ownsRow w1 (w.heap.size + 3) 3 1 (.slice au pr.length cu) pr.length (ints pr) := own_base hown (by simp)
    refine own_base (base := w.heap.size + 3) ?_ (by omega)
    repeat (first | with_reducible exact h4 | (with_reducible refine ownsRow_setCell_below ?_ ?_ _; rotate_left; focus (simp)))
  · have h4 : Below w.heap.size w w1 := below_al3 hb (by simp only [World.size_alloc]; omega)
    repeat (first | with_reducible exact h4 | with_reducible refine Below.setCell ?_ (by simp; try omega) _)

theorem eqSession_c (en nu de : Int) (v : Value) (pr : List Int) (re : Int) (en' nu' de' : Int) (v' : Value) (pr' : List Int) (re' : Int) (w : World) (h : IntsAt w v pr) (h' : IntsAt w v' pr') :
    Calls Tryd.prog 9 #[vSess en nu de v re, vSess en' nu' de' v' re'] w fun e w' => e = .returned (.bool (decide (en = en') && decide (nu = nu') && decide (de = de') && decide (pr = pr') && decide (re = re'))) ∧ Below w.heap.size w w' := by
  obtain ⟨ao, cap, rfl⟩ := h.form
  obtain ⟨ao', cap', rfl⟩ := h'.form
  go_enter Tryd.func9, Tryd.ntmps9
  go_wp2_with (go_at_call 27; refine (eqIntS_c _ _ pr pr' _ ((h.alloc _).alloc _) ((h'.alloc _).alloc _)).mono ?_; rintro e w' ⟨rfl, hb⟩; obtain ⟨hbc, hbf⟩ := bcell hb)
  all_goals go_ret
  all_goals refine ⟨?_, ?_⟩
  all_goals first | (apply ret_bool; simp_all; done) | exact below_al2 (by assumption) (by simp only [World.size_alloc]; omega) | (go_grown; done)

theorem s_l16Good (en nu de : Int) (v : Value) (pr : List Int) (re : Int) (w : World) (h : IntsAt w v pr) :
    Calls Tryd.prog 20 #[vSess en nu de v re] w fun e w' => e = .returned (.bool (sessOk en nu de pr re)) ∧ Below w.heap.size w w' := by
  obtain ⟨ao, cap, rfl⟩ := h.form
  go_enter Tryd.func20, Tryd.ntmps20
  go_wp2_with (first | (go_at_call 45; refine (s_l1In _ _ _ _).mono ?_; rintro e w' ⟨rfl, rfl⟩) | (go_at_call 46; refine (s_l1Rising _ pr _ _ _ (h.alloc _)).mono ?_; rintro e w' ⟨rfl, hb⟩; obtain ⟨hbc, hbf⟩ := bcell hb))
  all_goals go_ret
  all_goals refine ⟨?_, ?_⟩
  all_goals first | exact below_al (by assumption) (by simp) | (go_grown; done) | (apply ret_bool; simp_all [sessOk, inB]; done) | (apply ret_bool; simp_all [sessOk, inB]; omega)

theorem i_IsValidSession (en nu de : Int) (v : Value) (pr : List Int) (re : Int) (w : World) (h : IntsAt w v pr) :
    Calls Tryd.prog 24 #[vSess en nu de v re] w fun e w' => e = .returned (.bool (sessOk en nu de pr re)) ∧ Below w.heap.size w w' := by
  obtain ⟨ao, cap, rfl⟩ := h.form
  go_enter Tryd.func24, Tryd.ntmps24
  go_wp2_with (first | (go_at_call 39; refine (i_inside _ _ _ _).mono ?_; rintro e w' ⟨rfl, rfl⟩) | (go_at_call 48; refine (i_ascending _ pr _ _ _ (h.alloc _)).mono ?_; rintro e w' ⟨rfl, hb⟩; obtain ⟨hbc, hbf⟩ := bcell hb))
  all_goals go_ret
  all_goals refine ⟨?_, ?_⟩
  all_goals first | exact below_al (by assumption) (by simp) | (go_grown; done) | (apply ret_bool; simp_all [sessOk]; done)

def leastQ (en nu de : Int) : Int := (en * nu + de - 1) / de
/-- What SmallestQuorum returns. -/
def leastV (en nu de : Int) (pr : List Int) (re : Int) : Int := if sessOk en nu de pr re then leastQ en nu de else 0
theorem leastQ_bd {en nu de : Int} (h1 : 1 ≤ en ∧ en ≤ 30) (h2 : 1 ≤ de ∧ de ≤ 10) (h3 : 1 ≤ nu ∧ nu ≤ de) : 1 ≤ leastQ en nu de ∧ leastQ en nu de ≤ en := by
  unfold leastQ
  have ha : 1 ≤ en * nu := Int.mul_pos (by omega) (by omega)
  have hb : en * nu ≤ en * de := Int.mul_le_mul_of_nonneg_left (by omega) (by omega)
  constructor
  · exact Int.le_ediv_of_mul_le (by omega) (by omega)
  · have : en * nu + de - 1 < (en + 1) * de := by rw [Int.add_mul]; omega
    have := Int.ediv_lt_of_lt_mul (by omega) this
    omega

theorem s_l16Least (en nu de : Int) (v : Value) (pr : List Int) (re : Int) (w : World) (h : IntsAt w v pr) (hok : sessOk en nu de pr re = true) :
    Calls Tryd.prog 47 #[vSess en nu de v re] w fun e w' => e = .returned (.int .i64 (leastQ en nu de)) ∧ Below w.heap.size w w' := by
  obtain ⟨ao, cap, rfl⟩ := h.form
  obtain ⟨⟨a1, a2⟩, ⟨a3, a4⟩, ⟨a5, a6⟩, _, _⟩ := sessOk_iff.1 hok
  have ha : 1 ≤ en * nu := Int.mul_pos (by omega) (by omega)
  have hb : en * nu ≤ 300 := Int.le_trans (Int.mul_le_mul_of_nonneg_left (show nu ≤ 10 by omega) (by omega)) (by omega)
  clear hok h
  go_enter Tryd.func47, Tryd.ntmps47
  go_wp2
  go_ret
  exact ⟨rfl, by go_grown⟩

theorem i_smallestQuorum (en nu de : Int) (v : Value) (pr : List Int) (re : Int) (w : World) (h : IntsAt w v pr) (hok : sessOk en nu de pr re = true) :
    Calls Tryd.prog 50 #[vSess en nu de v re] w fun e w' => e = .returned (.int .i64 (leastQ en nu de)) ∧ Below w.heap.size w w' := by
  obtain ⟨ao, cap, rfl⟩ := h.form
  obtain ⟨⟨a1, a2⟩, ⟨a3, a4⟩, ⟨a5, a6⟩, _, _⟩ := sessOk_iff.1 hok
  have ha : 1 ≤ en * nu := Int.mul_pos (by omega) (by omega)
  have hb : en * nu ≤ 300 := Int.le_trans (Int.mul_le_mul_of_nonneg_left (show nu ≤ 10 by omega) (by omega)) (by omega)
  clear hok h
  go_enter Tryd.func50, Tryd.ntmps50
  go_wp2
  go_ret
  exact ⟨rfl, by go_grown⟩

/-- There is a quorum. -/
def quorumB (en nu de : Int) (pr : List Int) : Bool := decide (leastQ en nu de ≤ pr.length)

theorem s_l16Quorum (en nu de : Int) (v : Value) (pr : List Int) (re : Int) (w : World) (h : IntsAt w v pr) (hok : sessOk en nu de pr re = true) :
    Calls Tryd.prog 22 #[vSess en nu de v re] w fun e w' => e = .returned (.bool (quorumB en nu de pr)) ∧ Below w.heap.size w w' := by
  obtain ⟨ao, cap, rfl⟩ := h.form
  have HO := Lib.hid hok; clear hok
  obtain ⟨W, hW⟩ : ∃ W, W = w.alloc (.cells #[.int .i64 en, .int .i64 nu, .int .i64 de, .slice ao pr.length cap, .int .i64 re] 28) := ⟨_, rfl⟩
  have hz : w.heap.size < W.heap.size := by rw [hW]; simp
  have hWb : Below w.heap.size w W := by rw [hW]; exact (Below.refl _ _).alloc (Nat.le_refl _) _
  have hIW : IntsAt W (.slice ao pr.length cap) pr := h.below hWb
  have c0 := below_cell (W := W) (b := w.heap.size) (o := 0) (v := .int .i64 en) hz (by rw [hW]; simp)
  have c1 := below_cell (W := W) (b := w.heap.size) (o := 1) (v := .int .i64 nu) hz (by rw [hW]; simp)
  have c2 := below_cell (W := W) (b := w.heap.size) (o := 2) (v := .int .i64 de) hz (by rw [hW]; simp)
  have c3 := below_cell (W := W) (b := w.heap.size) (o := 3) (v := .slice ao pr.length cap) hz (by rw [hW]; simp)
  have c4 := below_cell (W := W) (b := w.heap.size) (o := 4) (v := .int .i64 re) hz (by rw [hW]; simp)
  have HW := Lib.hid hW; clear hW
  go_enter Tryd.func22, Tryd.ntmps22
  go_wp2
  rw [← HW.out]
  go_region_held3 (fun w' => Below W.heap.size W w') (first | assumption | (exact Below.drew (Below.refl _ _)))
    (first | (go_at_call 47; refine (s_l16Least _ _ _ _ pr _ _ (hIW.below (by assumption)) HO.out).mono ?_; rintro e w1 ⟨rfl, hb1⟩; have hbn := below_step (W := W) (by assumption) hb1))
  go_wp2
  go_ret
  exact ⟨rfl, hWb.trans (hbn.mono (by omega))⟩

theorem i_hasQuorum (en nu de : Int) (v : Value) (pr : List Int) (re : Int) (w : World) (h : IntsAt w v pr) (hok : sessOk en nu de pr re = true) :
    Calls Tryd.prog 26 #[vSess en nu de v re] w fun e w' => e = .returned (.bool (quorumB en nu de pr)) ∧ Below w.heap.size w w' := by
  obtain ⟨ao, cap, rfl⟩ := h.form
  have HO := Lib.hid hok; clear hok
  obtain ⟨W, hW⟩ : ∃ W, W = w.alloc (.cells #[.int .i64 en, .int .i64 nu, .int .i64 de, .slice ao pr.length cap, .int .i64 re] 28) := ⟨_, rfl⟩
  have hz : w.heap.size < W.heap.size := by rw [hW]; simp
  have hWb : Below w.heap.size w W := by rw [hW]; exact (Below.refl _ _).alloc (Nat.le_refl _) _
  have hIW : IntsAt W (.slice ao pr.length cap) pr := h.below hWb
  have c0 := below_cell (W := W) (b := w.heap.size) (o := 0) (v := .int .i64 en) hz (by rw [hW]; simp)
  have c1 := below_cell (W := W) (b := w.heap.size) (o := 1) (v := .int .i64 nu) hz (by rw [hW]; simp)
  have c2 := below_cell (W := W) (b := w.heap.size) (o := 2) (v := .int .i64 de) hz (by rw [hW]; simp)
  have c3 := below_cell (W := W) (b := w.heap.size) (o := 3) (v := .slice ao pr.length cap) hz (by rw [hW]; simp)
  have c4 := below_cell (W := W) (b := w.heap.size) (o := 4) (v := .int .i64 re) hz (by rw [hW]; simp)
  have HW := Lib.hid hW; clear hW
  go_enter Tryd.func26, Tryd.ntmps26
  go_wp2
  rw [← HW.out]
  go_region_held3 (fun w' => Below W.heap.size W w') (first | assumption | (exact Below.drew (Below.refl _ _)))
    (first | (go_at_call 50; refine (i_smallestQuorum _ _ _ _ pr _ _ (hIW.below (by assumption)) HO.out).mono ?_; rintro e w1 ⟨rfl, hb1⟩; have hbn := below_step (W := W) (by assumption) hb1))
  go_wp2
  go_ret
  exact ⟨rfl, hWb.trans (hbn.mono (by omega))⟩

theorem i_HasQuorum (en nu de : Int) (v : Value) (pr : List Int) (re : Int) (w : World) (h : IntsAt w v pr) :
    Calls Tryd.prog 17 #[vSess en nu de v re] w fun e w' => e = .returned (.tuple #[.bool (sessOk en nu de pr re && quorumB en nu de pr), .bool (sessOk en nu de pr re)]) ∧ Below w.heap.size w w' := by
  obtain ⟨ao, cap, rfl⟩ := h.form
  cases hok : sessOk en nu de pr re with
  | true =>
    have HO := Lib.hid hok
    go_enter Tryd.func17, Tryd.ntmps17
    go_wp2_with (first | (go_at_call 24; refine (i_IsValidSession _ _ _ _ pr _ _ (h.alloc _)).mono ?_; rw [HO.out]; rintro e w1 ⟨rfl, hb1⟩; obtain ⟨hbc, hbf⟩ := bcell hb1) | (go_at_call 26; refine (i_hasQuorum _ _ _ _ pr _ _ ((h.alloc _).below hb1) HO.out).mono ?_; rintro e w2 ⟨rfl, hb2⟩))
    go_ret2
    exact ⟨rfl, below_al (hb1.trans (hb2.mono hb1.size)) (by simp)⟩
  | false =>
    have HO := Lib.hid hok
    go_enter Tryd.func17, Tryd.ntmps17
    go_wp2_with (go_at_call 24; refine (i_IsValidSession _ _ _ _ pr _ _ (h.alloc _)).mono ?_; rw [HO.out]; rintro e w1 ⟨rfl, hb1⟩)
    go_ret2
    exact ⟨rfl, below_al hb1 (by simp)⟩

end Go.Proofs.YtjijcjcfefkpbaaDoor
