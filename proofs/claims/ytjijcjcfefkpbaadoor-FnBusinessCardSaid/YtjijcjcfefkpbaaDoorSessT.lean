/- Contracts: the text of a session. Condition (of the program's): the library's table reads as it is laid. -/
import Derived.Test.YtjijcjcfefkpbaaDoorItoaI
import Derived.Test.YtjijcjcfefkpbaaDoorSess
import Derived.Test.YtjijcjcfefkpbaaDoorSpanL
import Derived.Test.YtjijcjcfefkpbaaDoorBw
namespace Go.Proofs.YtjijcjcfefkpbaaDoor
open Go.RowKit
set_option linter.unusedVariables false
set_option linter.unusedSimpArgs false

def cOf : ByteArray := ⟨#[32, 111, 102, 32]⟩
theorem cOf_sz : cOf.size = 4 := rfl
def cPres : ByteArray := ⟨#[32, 112, 114, 101, 115, 101, 110, 116, 44, 32]⟩
theorem cPres_sz : cPres.size = 10 := rfl
def cNo : ByteArray := ⟨#[110, 111, 32]⟩
theorem cNo_sz : cNo.size = 3 := rfl
def cQuo : ByteArray := ⟨#[113, 117, 111, 114, 117, 109]⟩
theorem cQuo_sz : cQuo.size = 6 := rfl
def cRec : ByteArray := ⟨#[44, 32, 114, 101, 99, 101, 115, 115, 32, 117, 110, 116, 105, 108, 32, 109, 105, 110, 117, 116, 101, 32]⟩
theorem cRec_sz : cRec.size = 22 := rfl
def text1 (en : Int) (pr : List Int) : ByteArray := numT pr.length ++ cOf ++ numT en.toNat ++ cPres
def text2 (en nu de : Int) (pr : List Int) : ByteArray := (if quorumB en nu de pr then text1 en pr else text1 en pr ++ cNo) ++ cQuo
def text3 (en nu de : Int) (pr : List Int) (re : Int) : ByteArray := if 0 < re then text2 en nu de pr ++ (cRec ++ numT re.toNat) else text2 en nu de pr
/-- What SessionText returns. -/
def textV (en nu de : Int) (pr : List Int) (re : Int) : ByteArray × Bool := if sessOk en nu de pr re then (text3 en nu de pr re, true) else (⟨#[]⟩, false)
theorem textV_no {en nu de : Int} {pr : List Int} {re : Int} (h : sessOk en nu de pr re = false) : textV en nu de pr re = (⟨#[]⟩, false) := by unfold textV; rw [if_neg (by rw [h]; simp)]
theorem textV_ok {en nu de : Int} {pr : List Int} {re : Int} (h : sessOk en nu de pr re = true) : textV en nu de pr re = (text3 en nu de pr re, true) := by unfold textV; rw [if_pos h]
theorem ris_lenT {en : Int} {pr : List Int} (h : rising 1 en pr = true) (h0 : 0 ≤ en) : (pr.length : Int) ≤ en := by
  have := ris_len pr none 0 h (fun y hy => by cases hy) (fun _ => rfl) h0
  omega

set_option maxRecDepth 100000 in
set_option maxHeartbeats 4000000 in
theorem s_SessionText (en nu de : Int) (v : Value) (pr : List Int) (re : Int) (w : World) (h : IntsAt w v pr) :
    Calls Tryd.prog 6 #[vSess en nu de v re] w fun e w' => e = .returned (.tuple #[.string (textV en nu de pr re).1, .bool (textV en nu de pr re).2]) ∧ Below w.heap.size w w' := by
  obtain ⟨ao, cap, rfl⟩ := h.form
  obtain ⟨W, hW⟩ : ∃ W, W = w.alloc (.cells #[.int .i64 en, .int .i64 nu, .int .i64 de, .slice ao pr.length cap, .int .i64 re] 28) := ⟨_, rfl⟩
  have bx : BoxAt W w.heap.size #[.int .i64 en, .int .i64 nu, .int .i64 de, .slice ao pr.length cap, .int .i64 re] := by rw [hW]; exact BoxAt.new _ _ _
  have hWb : Below w.heap.size w W := by rw [hW]; exact (Below.refl _ _).alloc (Nat.le_refl _) _
  have hI := h.below hWb
  skip
  have HW := Lib.hid hW; clear hW
  cases hok : sessOk en nu de pr re with
  | false =>
    rw [textV_no hok]
    have HO := Lib.hid hok
    clear hok
    go_enter Tryd.func6, Tryd.ntmps6
    go_wp2_with fail
    rw [← HW.out]
    refine (s_l16Good _ _ _ _ pr _ _ hI).mono ?_
    rw [HO.out]
    rintro e w1 ⟨rfl, hb1⟩
    go_wp2_with fail
    go_ret2
    exact ⟨rfl, hWb.trans (hb1.mono hWb.size)⟩
  | true =>
    obtain ⟨⟨en1, en2⟩, _, _, hri, re1, re2⟩ := sessOk_iff.1 hok
    have hpl := ris_lenT hri (by omega)
    rw [textV_ok hok]
    have HO := Lib.hid hok
    clear hok
    obtain ⟨E, rfl⟩ : ∃ E : Nat, en = E := ⟨en.toNat, by omega⟩
    obtain ⟨R, rfl⟩ : ∃ R : Nat, re = R := ⟨re.toNat, by omega⟩
    obtain ⟨T, hT3⟩ : ∃ T, T = text3 E nu de pr R := ⟨_, rfl⟩
    rw [← hT3]
    have HT3 := Lib.hid hT3; clear hT3
    go_enter Tryd.func6, Tryd.ntmps6
    go_wp2_with fail
    rw [← HW.out]
    refine (s_l16Good _ _ _ _ pr _ _ hI).mono ?_
    rw [HO.out]
    rintro e w1 ⟨rfl, hb1⟩
    have bx1 := bx.below hb1
    have hI1 := hI.below hb1
    skip
    have c1 := bx1.cells
    have bw1 := BW.box bx1
    have q1 := fun x : BW w1 => s_l1Num pr.length (by omega) x.w
    have q2 := fun x : BW w1 => s_l1Num E (by omega) x.w
    have Q1 := Lib.hid q1; have Q2 := Lib.hid q2
    clear q1 q2
    have zA := numT_size pr.length (by omega)
    have zB := numT_size E (by omega)
    have zC := numT_size R (by omega)
    obtain ⟨A, hA⟩ : ∃ A, A = numT pr.length := ⟨_, rfl⟩
    obtain ⟨B, hB⟩ : ∃ B, B = numT E := ⟨_, rfl⟩
    obtain ⟨C, hC⟩ : ∃ C, C = numT R := ⟨_, rfl⟩
    rw [← hA] at zA Q1; rw [← hB] at zB Q2; rw [← hC] at zC
    obtain ⟨D1, e1⟩ : ∃ D, A ++ cOf = D := ⟨_, rfl⟩
    obtain ⟨D2, e2⟩ : ∃ D, D1 ++ B = D := ⟨_, rfl⟩
    obtain ⟨D3, e3⟩ : ∃ D, D2 ++ cPres = D := ⟨_, rfl⟩
    have z1 : D1.size = A.size + 4 := by rw [← e1, ByteArray.size_append]; rfl
    have z2 : D2.size = D1.size + B.size := by rw [← e2, ByteArray.size_append]
    have z3 : D3.size = D2.size + 10 := by rw [← e3, ByteArray.size_append]; rfl
    have hD : Hid (D3 = text1 E pr) := by rw [Hid, ← e3, ← e2, ← e1, hA, hB]; unfold text1; rw [Int.toNat_natCast]
    have s1 : ¬ 9223372036854775807 < A.size + 4 := by omega
    have s2 : ¬ 9223372036854775807 < D1.size + B.size := by omega
    have s3 : ¬ 9223372036854775807 < D2.size + 10 := by omega
    have Z3 : Hid (D3.size ≤ 200) := by rw [Hid]; omega
    have ZC : Hid (C.size ≤ 1500) := by rw [Hid]; omega
    unfold cOf at e1
    unfold cPres at e3
    have HC := Lib.hid hC
    clear zA zB zC z1 z2 z3 hA hB hC hri
    go_wp2_with fail
    refine wp_region_bw (by kernel_rfl) (by kernel_rfl) ?_
    repeat (first
      | go_big_quiet_skip
      | (go_big_quiet_want; go_big_quiet_op; first | go_big_quiet_on | (apply Exists.intro; refine ⟨fun _ => ?_, ?_⟩; ((first | (go_at_call_of 21 (Value.int IntKind.i64 ((pr.length : Nat) : Int)); exact BW.call (Q1.out _)) | (go_at_call_of 21 (Value.int IntKind.i64 ((E : Nat) : Int)); exact BW.call (Q2.out _)))); go_big_quiet_on)))
    refine wpQuiet_nil ?_
    rintro _ ⟨xq, rfl⟩
    clear e1 e2 e3 s1 s2 s3 bw1 c1 Q1 Q2
    rename BW w1 => xq
    have bx2 := bx1.below xq.h
    have hI2 := hI1.below xq.h
    skip
    have hWx : Below w.heap.size w xq.w := hWb.trans ((hb1.trans (xq.h.mono hb1.size)).mono hWb.size)
    have c2 := bx2.cells
    generalize hxw : xq.w = w2 at *
    clear hxw
    go_wp2_with fail
    refine (s_l16Quorum _ _ _ _ pr _ _ hI2 HO.out).mono ?_
    rintro e w3 ⟨rfl, hb3⟩
    have bx3 := bx2.below hb3
    skip
    have hW3 := below_step hWx hb3
    have c3 := bx3.cells
    clear c2
    have ht2 : Hid (text2 E nu de pr = (if quorumB E nu de pr then D3 else D3 ++ cNo) ++ cQuo) := by rw [Hid, hD.out]; rfl
    cases hqb : quorumB E nu de pr with
    | true =>
      have s4 : ¬ 9223372036854775807 < D3.size + 6 := by have := Z3.out; omega
      obtain ⟨D5, e5⟩ : ∃ D, D3 ++ cQuo = D := ⟨_, rfl⟩
      have ht5 : Hid (text2 E nu de pr = D5) := by rw [Hid, ht2.out, if_pos hqb, e5]
      have Z5 : Hid (D5.size ≤ 300) := by have := Z3.out; rw [Hid, ← e5, ByteArray.size_append]; have : cQuo.size = 6 := rfl; omega
      unfold cQuo at e5
      clear ht2 hD hqb
      by_cases hr0 : 0 < R
      · have hrI : (0 : Int) < (R : Int) := by omega
        have ht3 : Hid (T = D5 ++ (cRec ++ C)) := by
          rw [Hid, HT3.out, HC.out]; unfold text3; rw [if_pos hrI, Int.toNat_natCast, ht5.out]
        obtain ⟨D6, e6⟩ : ∃ D, D5 ++ cRec = D := ⟨_, rfl⟩
        obtain ⟨D7, e7⟩ : ∃ D, D6 ++ C = D := ⟨_, rfl⟩
        have ht7 : Hid (T = D7) := by rw [Hid, ht3.out, ← ByteArray.append_assoc, e6, e7]
        have z6 : D6.size = D5.size + 22 := by rw [← e6, ByteArray.size_append]; rfl
        have s6 : ¬ 9223372036854775807 < D5.size + 22 := by have := Z5.out; omega
        have s7 : ¬ 9223372036854775807 < D6.size + C.size := by have := ZC.out; have := Z5.out; omega
        unfold cRec at e6
        clear z6 ht3
        go_wp2_with fail
        refine (s_l1Num R (by omega) _).mono ?_
        rw [← HC.out]
        rintro e w4 ⟨rfl, hb4⟩
        go_wp2_with fail
        go_ret2
        exact ⟨by rw [ht7.out]; try rfl, below_step hW3 hb4⟩
      · have hrI : ¬ (0 : Int) < (R : Int) := by omega
        have ht3 : Hid (T = D5) := by
          rw [Hid, HT3.out]; unfold text3; rw [if_neg hrI, ht5.out]
        go_wp2_with fail
        go_ret2
        exact ⟨by rw [ht3.out]; try rfl, hW3⟩
    | false =>
      have s4 : ¬ 9223372036854775807 < D3.size + 3 := by have := Z3.out; omega
      obtain ⟨D4, e4⟩ : ∃ D, D3 ++ cNo = D := ⟨_, rfl⟩
      have z4 : D4.size = D3.size + 3 := by rw [← e4, ByteArray.size_append]; rfl
      have s5 : ¬ 9223372036854775807 < D4.size + 6 := by have := Z3.out; omega
      obtain ⟨D5, e5⟩ : ∃ D, D4 ++ cQuo = D := ⟨_, rfl⟩
      have ht5 : Hid (text2 E nu de pr = D5) := by rw [Hid, ht2.out, if_neg (by rw [hqb]; simp), e4, e5]
      have Z5 : Hid (D5.size ≤ 300) := by have := Z3.out; rw [Hid, ← e5, ByteArray.size_append]; have : cQuo.size = 6 := rfl; omega
      unfold cNo at e4
      unfold cQuo at e5
      clear ht2 hD hqb z4
      by_cases hr0 : 0 < R
      · have hrI : (0 : Int) < (R : Int) := by omega
        have ht3 : Hid (T = D5 ++ (cRec ++ C)) := by
          rw [Hid, HT3.out, HC.out]; unfold text3; rw [if_pos hrI, Int.toNat_natCast, ht5.out]
        obtain ⟨D6, e6⟩ : ∃ D, D5 ++ cRec = D := ⟨_, rfl⟩
        obtain ⟨D7, e7⟩ : ∃ D, D6 ++ C = D := ⟨_, rfl⟩
        have ht7 : Hid (T = D7) := by rw [Hid, ht3.out, ← ByteArray.append_assoc, e6, e7]
        have z6 : D6.size = D5.size + 22 := by rw [← e6, ByteArray.size_append]; rfl
        have s6 : ¬ 9223372036854775807 < D5.size + 22 := by have := Z5.out; omega
        have s7 : ¬ 9223372036854775807 < D6.size + C.size := by have := ZC.out; have := Z5.out; omega
        unfold cRec at e6
        clear z6 ht3
        go_wp2_with fail
        refine (s_l1Num R (by omega) _).mono ?_
        rw [← HC.out]
        rintro e w4 ⟨rfl, hb4⟩
        go_wp2_with fail
        go_ret2
        exact ⟨by rw [ht7.out]; try rfl, below_step hW3 hb4⟩
      · have hrI : ¬ (0 : Int) < (R : Int) := by omega
        have ht3 : Hid (T = D5) := by
          rw [Hid, HT3.out]; unfold text3; rw [if_neg hrI, ht5.out]
        go_wp2_with fail
        go_ret2
        exact ⟨by rw [ht3.out]; try rfl, hW3⟩

set_option maxRecDepth 100000 in
set_option maxHeartbeats 4000000 in
theorem i_SessionText (en nu de : Int) (v : Value) (pr : List Int) (re : Int) (w : World) (h : IntsAt w v pr) (hT : TabAt w) :
    Calls Tryd.prog 8 #[vSess en nu de v re] w fun e w' => e = .returned (.tuple #[.string (textV en nu de pr re).1, .bool (textV en nu de pr re).2]) ∧ Below w.heap.size w w' := by
  obtain ⟨ao, cap, rfl⟩ := h.form
  obtain ⟨W, hW⟩ : ∃ W, W = w.alloc (.cells #[.int .i64 en, .int .i64 nu, .int .i64 de, .slice ao pr.length cap, .int .i64 re] 28) := ⟨_, rfl⟩
  have bx : BoxAt W w.heap.size #[.int .i64 en, .int .i64 nu, .int .i64 de, .slice ao pr.length cap, .int .i64 re] := by rw [hW]; exact BoxAt.new _ _ _
  have hWb : Below w.heap.size w W := by rw [hW]; exact (Below.refl _ _).alloc (Nat.le_refl _) _
  have hI := h.below hWb
  have hT0 := hT.below hWb
  have HW := Lib.hid hW; clear hW
  cases hok : sessOk en nu de pr re with
  | false =>
    rw [textV_no hok]
    have HO := Lib.hid hok
    clear hok
    go_enter Tryd.func8, Tryd.ntmps8
    go_wp2_with fail
    rw [← HW.out]
    refine (i_IsValidSession _ _ _ _ pr _ _ hI).mono ?_
    rw [HO.out]
    rintro e w1 ⟨rfl, hb1⟩
    go_wp2_with fail
    go_ret2
    exact ⟨rfl, hWb.trans (hb1.mono hWb.size)⟩
  | true =>
    obtain ⟨⟨en1, en2⟩, _, _, hri, re1, re2⟩ := sessOk_iff.1 hok
    have hpl := ris_lenT hri (by omega)
    rw [textV_ok hok]
    have HO := Lib.hid hok
    clear hok
    obtain ⟨E, rfl⟩ : ∃ E : Nat, en = E := ⟨en.toNat, by omega⟩
    obtain ⟨R, rfl⟩ : ∃ R : Nat, re = R := ⟨re.toNat, by omega⟩
    obtain ⟨T, hT3⟩ : ∃ T, T = text3 E nu de pr R := ⟨_, rfl⟩
    rw [← hT3]
    have HT3 := Lib.hid hT3; clear hT3
    go_enter Tryd.func8, Tryd.ntmps8
    go_wp2_with fail
    rw [← HW.out]
    refine (i_IsValidSession _ _ _ _ pr _ _ hI).mono ?_
    rw [HO.out]
    rintro e w1 ⟨rfl, hb1⟩
    have bx1 := bx.below hb1
    have hI1 := hI.below hb1
    have hT1 := hT0.below hb1
    have c1 := bx1.cells
    have bw1 := BW.box bx1
    have q1 := fun x : BW w1 => i_Itoa pr.length (by omega) x.w (hT1.below x.h)
    have q2 := fun x : BW w1 => i_Itoa E (by omega) x.w (hT1.below x.h)
    have Q1 := Lib.hid q1; have Q2 := Lib.hid q2
    clear q1 q2
    have zA := numT_size pr.length (by omega)
    have zB := numT_size E (by omega)
    have zC := numT_size R (by omega)
    obtain ⟨A, hA⟩ : ∃ A, A = numT pr.length := ⟨_, rfl⟩
    obtain ⟨B, hB⟩ : ∃ B, B = numT E := ⟨_, rfl⟩
    obtain ⟨C, hC⟩ : ∃ C, C = numT R := ⟨_, rfl⟩
    rw [← hA] at zA Q1; rw [← hB] at zB Q2; rw [← hC] at zC
    obtain ⟨D1, e1⟩ : ∃ D, A ++ cOf = D := ⟨_, rfl⟩
    obtain ⟨D2, e2⟩ : ∃ D, D1 ++ B = D := ⟨_, rfl⟩
    obtain ⟨D3, e3⟩ : ∃ D, D2 ++ cPres = D := ⟨_, rfl⟩
    have z1 : D1.size = A.size + 4 := by rw [← e1, ByteArray.size_append]; rfl
    have z2 : D2.size = D1.size + B.size := by rw [← e2, ByteArray.size_append]
    have z3 : D3.size = D2.size + 10 := by rw [← e3, ByteArray.size_append]; rfl
    have hD : Hid (D3 = text1 E pr) := by rw [Hid, ← e3, ← e2, ← e1, hA, hB]; unfold text1; rw [Int.toNat_natCast]
    have s1 : ¬ 9223372036854775807 < A.size + 4 := by omega
    have s2 : ¬ 9223372036854775807 < D1.size + B.size := by omega
    have s3 : ¬ 9223372036854775807 < D2.size + 10 := by omega
    have Z3 : Hid (D3.size ≤ 200) := by rw [Hid]; omega
    have ZC : Hid (C.size ≤ 1500) := by rw [Hid]; omega
    unfold cOf at e1
    unfold cPres at e3
    have HC := Lib.hid hC
    clear zA zB zC z1 z2 z3 hA hB hC hri
    go_wp2_with fail
    refine wp_region_bw (by kernel_rfl) (by kernel_rfl) ?_
    repeat (first
      | go_big_quiet_skip
      | (go_big_quiet_want; go_big_quiet_op; first | go_big_quiet_on | (apply Exists.intro; refine ⟨fun _ => ?_, ?_⟩; ((first | (go_at_call_of 25 (Value.int IntKind.i64 ((pr.length : Nat) : Int)); exact BW.call (Q1.out _)) | (go_at_call_of 25 (Value.int IntKind.i64 ((E : Nat) : Int)); exact BW.call (Q2.out _)))); go_big_quiet_on)))
    refine wpQuiet_nil ?_
    rintro _ ⟨xq, rfl⟩
    clear e1 e2 e3 s1 s2 s3 bw1 c1 Q1 Q2
    rename BW w1 => xq
    have bx2 := bx1.below xq.h
    have hI2 := hI1.below xq.h
    have hT2 := hT1.below xq.h
    have hWx : Below w.heap.size w xq.w := hWb.trans ((hb1.trans (xq.h.mono hb1.size)).mono hWb.size)
    have c2 := bx2.cells
    generalize hxw : xq.w = w2 at *
    clear hxw
    go_wp2_with fail
    refine (i_hasQuorum _ _ _ _ pr _ _ hI2 HO.out).mono ?_
    rintro e w3 ⟨rfl, hb3⟩
    have bx3 := bx2.below hb3
    have hT3 := hT2.below hb3
    have hW3 := below_step hWx hb3
    have c3 := bx3.cells
    clear c2
    have ht2 : Hid (text2 E nu de pr = (if quorumB E nu de pr then D3 else D3 ++ cNo) ++ cQuo) := by rw [Hid, hD.out]; rfl
    cases hqb : quorumB E nu de pr with
    | true =>
      have s4 : ¬ 9223372036854775807 < D3.size + 6 := by have := Z3.out; omega
      obtain ⟨D5, e5⟩ : ∃ D, D3 ++ cQuo = D := ⟨_, rfl⟩
      have ht5 : Hid (text2 E nu de pr = D5) := by rw [Hid, ht2.out, if_pos hqb, e5]
      have Z5 : Hid (D5.size ≤ 300) := by have := Z3.out; rw [Hid, ← e5, ByteArray.size_append]; have : cQuo.size = 6 := rfl; omega
      unfold cQuo at e5
      clear ht2 hD hqb
      by_cases hr0 : 0 < R
      · have hrI : (0 : Int) < (R : Int) := by omega
        have ht3 : Hid (T = D5 ++ (cRec ++ C)) := by
          rw [Hid, HT3.out, HC.out]; unfold text3; rw [if_pos hrI, Int.toNat_natCast, ht5.out]
        obtain ⟨D6, e6⟩ : ∃ D, cRec ++ C = D := ⟨_, rfl⟩
        obtain ⟨D7, e7⟩ : ∃ D, D5 ++ D6 = D := ⟨_, rfl⟩
        have ht7 : Hid (T = D7) := by rw [Hid, ht3.out, e6, e7]
        have z6 : D6.size = 22 + C.size := by rw [← e6, ByteArray.size_append]; rfl
        have s6 : ¬ 9223372036854775807 < 22 + C.size := by have := ZC.out; omega
        have s7 : ¬ 9223372036854775807 < D5.size + D6.size := by have := ZC.out; have := Z5.out; omega
        unfold cRec at e6
        clear z6 ht3
        go_wp2_with fail
        refine (i_Itoa R (by omega) _ hT3).mono ?_
        rw [← HC.out]
        rintro e w4 ⟨rfl, hb4⟩
        go_wp2_with fail
        go_ret2
        exact ⟨by rw [ht7.out]; try rfl, below_step hW3 hb4⟩
      · have hrI : ¬ (0 : Int) < (R : Int) := by omega
        have ht3 : Hid (T = D5) := by
          rw [Hid, HT3.out]; unfold text3; rw [if_neg hrI, ht5.out]
        go_wp2_with fail
        go_ret2
        exact ⟨by rw [ht3.out]; try rfl, hW3⟩
    | false =>
      have s4 : ¬ 9223372036854775807 < D3.size + 3 := by have := Z3.out; omega
      obtain ⟨D4, e4⟩ : ∃ D, D3 ++ cNo = D := ⟨_, rfl⟩
      have z4 : D4.size = D3.size + 3 := by rw [← e4, ByteArray.size_append]; rfl
      have s5 : ¬ 9223372036854775807 < D4.size + 6 := by have := Z3.out; omega
      obtain ⟨D5, e5⟩ : ∃ D, D4 ++ cQuo = D := ⟨_, rfl⟩
      have ht5 : Hid (text2 E nu de pr = D5) := by rw [Hid, ht2.out, if_neg (by rw [hqb]; simp), e4, e5]
      have Z5 : Hid (D5.size ≤ 300) := by have := Z3.out; rw [Hid, ← e5, ByteArray.size_append]; have : cQuo.size = 6 := rfl; omega
      unfold cNo at e4
      unfold cQuo at e5
      clear ht2 hD hqb z4
      by_cases hr0 : 0 < R
      · have hrI : (0 : Int) < (R : Int) := by omega
        have ht3 : Hid (T = D5 ++ (cRec ++ C)) := by
          rw [Hid, HT3.out, HC.out]; unfold text3; rw [if_pos hrI, Int.toNat_natCast, ht5.out]
        obtain ⟨D6, e6⟩ : ∃ D, cRec ++ C = D := ⟨_, rfl⟩
        obtain ⟨D7, e7⟩ : ∃ D, D5 ++ D6 = D := ⟨_, rfl⟩
        have ht7 : Hid (T = D7) := by rw [Hid, ht3.out, e6, e7]
        have z6 : D6.size = 22 + C.size := by rw [← e6, ByteArray.size_append]; rfl
        have s6 : ¬ 9223372036854775807 < 22 + C.size := by have := ZC.out; omega
        have s7 : ¬ 9223372036854775807 < D5.size + D6.size := by have := ZC.out; have := Z5.out; omega
        unfold cRec at e6
        clear z6 ht3
        go_wp2_with fail
        refine (i_Itoa R (by omega) _ hT3).mono ?_
        rw [← HC.out]
        rintro e w4 ⟨rfl, hb4⟩
        go_wp2_with fail
        go_ret2
        exact ⟨by rw [ht7.out]; try rfl, below_step hW3 hb4⟩
      · have hrI : ¬ (0 : Int) < (R : Int) := by omega
        have ht3 : Hid (T = D5) := by
          rw [Hid, HT3.out]; unfold text3; rw [if_neg hrI, ht5.out]
        go_wp2_with fail
        go_ret2
        exact ⟨by rw [ht3.out]; try rfl, hW3⟩

end Go.Proofs.YtjijcjcfefkpbaaDoor
