/- Contracts on points: whether they are valid, open, reversed. No conditions. -/
import Derived.Test.YtbphodmcajlpmaaPointS
namespace Go.Proofs.Ytbphodmcajlpmaa
open Go.RowKit
set_option linter.unusedVariables false
set_option linter.unusedSimpArgs false

def memB (x : Int) : Bool := inB x 1 99
def opened (p : DPoint) : Bool := (p.st == 1) || (p.st == 3)
def revd (p : DPoint) : Bool := (p.st == 4) && decide (p.ye < p.no)
def vote0 (p : DPoint) : Bool := (p.ye == 0) && (p.no == 0) && (p.ab == 0)
def pointOk (p : DPoint) : Bool :=
  memB p.ra && tallyOk p.ye p.no p.ab && inB p.st 1 4 && ((p.st == 4) || vote0 p) &&
    (if p.st == 1 then !p.tk && (p.ap == 0) else if p.st == 2 then p.ap == 0 else memB p.ap && ((p.ap != p.ra) || !p.tk))

theorem s_l7Member (x : Int) (w : World) :
    Calls Try.prog 115 #[.int .i64 x] w fun e w' => e = .returned (.bool (memB x)) ∧ w = w' := by
  go_enter Try.func115, Try.ntmps115
  go_wp2_with (go_at_call 83; refine (s_l1In _ _ _ _).mono ?_; rintro e w' ⟨rfl, rfl⟩)
  go_ret
  exact ⟨rfl, rfl⟩

theorem i_isMember (x : Int) (w : World) :
    Calls Try.prog 116 #[.int .i64 x] w fun e w' => e = .returned (.bool (memB x)) ∧ w = w' := by
  go_enter Try.func116, Try.ntmps116
  go_wp2_with (go_at_call 79; refine (i_inside _ _ _ _).mono ?_; rintro e w' ⟨rfl, rfl⟩)
  go_ret
  exact ⟨rfl, rfl⟩

theorem s_l17Open (p : DPoint) (w : World) :
    Calls Try.prog 111 #[vPoint p] w fun e w' => e = .returned (.bool (opened p)) ∧ Below w.heap.size w w' := by
  obtain ⟨ra, st, tk, ap, ye, no, ab⟩ := p
  go_enter Try.func111, Try.ntmps111
  go_wp2
  all_goals go_ret
  all_goals exact ⟨ret_bool (by simp_all [opened]), by go_grown⟩

theorem i_isOpenPoint (p : DPoint) (w : World) :
    Calls Try.prog 113 #[vPoint p] w fun e w' => e = .returned (.bool (opened p)) ∧ Below w.heap.size w w' := by
  obtain ⟨ra, st, tk, ap, ye, no, ab⟩ := p
  go_enter Try.func113, Try.ntmps113
  go_wp2
  all_goals go_ret
  all_goals exact ⟨ret_bool (by simp_all [opened]), by go_grown⟩

set_option maxHeartbeats 1000000 in
theorem s_l17Single (p : DPoint) (w : World) :
    Calls Try.prog 110 #[vPoint p] w fun e w' => e = .returned (.bool (pointOk p)) ∧ Below w.heap.size w w' := by
  obtain ⟨ra, st, tk, ap, ye, no, ab⟩ := p
  obtain ⟨W, hW⟩ : ∃ W, W = w.alloc (.cells #[.int .i64 ra, .int .i64 st, .bool tk, .int .i64 ap, .int .i64 ye, .int .i64 no, .int .i64 ab] 73) := ⟨_, rfl⟩
  have bP : BoxAt W w.heap.size #[.int .i64 ra, .int .i64 st, .bool tk, .int .i64 ap, .int .i64 ye, .int .i64 no, .int .i64 ab] := by rw [hW]; exact BoxAt.new _ _ _
  have hWb : Below w.heap.size w W := by rw [hW]; go_grown
  have HW := Lib.hid hW; clear hW
  have p0 := bP.cells
  cases hm : memB ra with
  | false =>
    have HR : Hid (pointOk ⟨ra, st, tk, ap, ye, no, ab⟩ = false) := by simp [Hid, pointOk, hm]
    have HM := Lib.hid hm; clear hm
    go_enter Try.func110, Try.ntmps110
    go_wp2_with (go_at_call 115; refine (s_l7Member _ _).mono ?_; rw [HM.out, ← HW.out]; rintro e w' ⟨rfl, rfl⟩)
    go_ret
    exact ⟨ret_bool HR.out.symm, hWb⟩
  | true =>
    cases hi : inB st 1 4 with
    | false =>
      have HR : Hid (pointOk ⟨ra, st, tk, ap, ye, no, ab⟩ = false) := by simp [Hid, pointOk, hi]
      have HM := Lib.hid hm; clear hm
      have HI := Lib.hid hi; clear hi
      go_enter Try.func110, Try.ntmps110
      go_wp2_with (first | (go_at_call 115; refine (s_l7Member _ _).mono ?_; rw [HM.out, ← HW.out]; rintro e w' ⟨rfl, rfl⟩) | (go_at_call 83; refine (s_l1In _ _ _ _).mono ?_; rw [HI.out]; rintro e w' ⟨rfl, rfl⟩))
      go_ret
      exact ⟨ret_bool HR.out.symm, hWb⟩
    | true =>
      cases ht : tallyOk ye no ab with
      | false =>
        have HR : Hid (pointOk ⟨ra, st, tk, ap, ye, no, ab⟩ = false) := by simp [Hid, pointOk, ht]
        have HM := Lib.hid hm; clear hm
        have HI := Lib.hid hi; clear hi
        have HT := Lib.hid ht; clear ht
        go_enter Try.func110, Try.ntmps110
        go_wp2_with (first | (go_at_call 115; refine (s_l7Member _ _).mono ?_; rw [HM.out, ← HW.out]; rintro e w' ⟨rfl, rfl⟩) | (go_at_call 83; refine (s_l1In _ _ _ _).mono ?_; rw [HI.out]; rintro e w' ⟨rfl, rfl⟩) | (go_at_call 51; refine (s_l11Good _ _ _ _).mono ?_; rw [HT.out]; rintro e w1 ⟨rfl, hb1⟩))
        go_ret
        exact ⟨ret_bool HR.out.symm, hWb.trans (hb1.mono hWb.size)⟩
      | true =>
        have HR : Hid (pointOk ⟨ra, st, tk, ap, ye, no, ab⟩ = (((st == 4) || (ye == 0) && (no == 0) && (ab == 0)) && (if st == 1 then !tk && (ap == 0) else if st == 2 then ap == 0 else memB ap && ((ap != ra) || !tk)))) := by simp [Hid, pointOk, vote0, ht, hi, hm]
        have HM := Lib.hid hm; clear hm
        have HI := Lib.hid hi; clear hi
        have HT := Lib.hid ht; clear ht
        go_enter Try.func110, Try.ntmps110
        go_wp2_with (first | (go_at_call 115; refine (s_l7Member _ _).mono ?_; (try rw [HM.out, ← HW.out]); rintro e w' ⟨rfl, rfl⟩) | (go_at_call 83; refine (s_l1In _ _ _ _).mono ?_; rw [HI.out]; rintro e w' ⟨rfl, rfl⟩) | (go_at_call 51; refine (s_l11Good _ _ _ _).mono ?_; rw [HT.out]; rintro e w1 ⟨rfl, hb1⟩; have p1 := (bP.below hb1).cells))
        all_goals go_ret
        all_goals refine ⟨ret_bool ?_, hWb.trans (hb1.mono hWb.size)⟩
        all_goals rw [HR.out]
        all_goals simp_all

theorem pointOk_alt (p : DPoint) : pointOk p = (memB p.ra && ((p.st == 4) || vote0 p) && (if p.st == 1 then !p.tk && (p.ap == 0) else if p.st == 2 then p.ap == 0 else if p.st == 3 || p.st == 4 then memB p.ap && !(p.tk && (p.ap == p.ra)) && tallyOk p.ye p.no p.ab else false)) := by
  obtain ⟨ra, st, tk, ap, ye, no, ab⟩ := p
  have t0 : tallyOk 0 0 0 = true := by decide
  by_cases hv : vote0 ⟨ra, st, tk, ap, ye, no, ab⟩ = true
  · have hz : ye = 0 ∧ no = 0 ∧ ab = 0 := by simpa [vote0, and_assoc] using hv
    obtain ⟨rfl, rfl, rfl⟩ := hz
    by_cases h1 : st = 1
    · simp [pointOk, vote0, t0, h1, inB]
    · by_cases h2 : st = 2
      · simp [pointOk, vote0, t0, h2, inB]
      · by_cases h3 : st = 3
        · subst h3; cases tk <;> simp [pointOk, vote0, t0, inB, bne]
        · by_cases h4 : st = 4
          · subst h4; cases tk <;> simp [pointOk, vote0, t0, inB, bne]
          · have : inB st 1 4 = false := by simp [inB]; omega
            simp [pointOk, vote0, h1, h2, h3, h4, this]
  · have hv' : vote0 ⟨ra, st, tk, ap, ye, no, ab⟩ = false := by simpa using hv
    by_cases h4 : st = 4
    · subst h4
      simp only [pointOk, hv']
      cases tk <;> cases memB ra <;> cases memB ap <;> cases tallyOk ye no ab <;> simp [inB, bne]
    · have h4b : (st == 4) = false := by simpa using h4
      simp [pointOk, hv', h4b]

set_option maxHeartbeats 1000000 in
theorem i_isPoint (p : DPoint) (w : World) :
    Calls Try.prog 112 #[vPoint p] w fun e w' => e = .returned (.bool (pointOk p)) ∧ Below w.heap.size w w' := by
  have ha := pointOk_alt p
  obtain ⟨ra, st, tk, ap, ye, no, ab⟩ := p
  simp only [vote0] at ha
  have HR := Lib.hid ha; clear ha
  obtain ⟨W, hW⟩ : ∃ W, W = w.alloc (.cells #[.int .i64 ra, .int .i64 st, .bool tk, .int .i64 ap, .int .i64 ye, .int .i64 no, .int .i64 ab] 73) := ⟨_, rfl⟩
  have bP : BoxAt W w.heap.size #[.int .i64 ra, .int .i64 st, .bool tk, .int .i64 ap, .int .i64 ye, .int .i64 no, .int .i64 ab] := by rw [hW]; exact BoxAt.new _ _ _
  have hWb : Below w.heap.size w W := by rw [hW]; go_grown
  have HW := Lib.hid hW; clear hW
  have p0 := bP.cells
  have hbW := Below.refl w.heap.size W
  go_enter Try.func112, Try.ntmps112
  go_wp2_with (first | (go_at_call 116; refine (i_isMember _ _).mono ?_; (try rw [← HW.out]); rintro e w' ⟨rfl, rfl⟩) | (go_at_call 55; refine (i_IsValidTally _ _ _ _).mono ?_; rintro e w1 ⟨rfl, hb1⟩))
  all_goals go_ret
  all_goals refine ⟨ret_bool ?_, by first | exact hWb | exact hWb.trans (hb1.mono hWb.size)⟩
  all_goals rw [HR.out]
  all_goals simp_all

end Go.Proofs.Ytbphodmcajlpmaa
