/- Contracts: the committees of a person, the busiest person; the reference's and the program's. No conditions beyond sizes. -/
import Derived.Test.YtpjmcjdnobihbaaCommL
import Derived.Test.YtpjmcjdnobihbaaFlat
namespace Go.Proofs.Ytpjmcjdnobihbaa
open Go.RowKit
set_option linter.unusedVariables false
set_option linter.unusedSimpArgs false

def strs (ss : List ByteArray) : List Value := ss.map Value.string
@[simp] theorem strs_length (ss : List ByteArray) : (strs ss).length = ss.length := by simp [strs]
def StrsAt (w : World) (v : Value) (ss : List ByteArray) : Prop := RowAt w v ss.length 1 (strs ss)
theorem StrsAt.below {w w' : World} {v : Value} {xs : List ByteArray} (h : StrsAt w v xs) (hb : Below w.heap.size w w') : StrsAt w' v xs := RowAt.below h hb
theorem StrsAt.form {w : World} {v : Value} {xs : List ByteArray} (h : StrsAt w v xs) : ∃ ao cap, v = .slice ao xs.length cap := RowAt.form h

theorem str_info : (Try.prog.info? 9).map (fun i => (i.zero, i.size, i.bytes)) = some (some (.string ⟨#[]⟩), 1, 16) := by kernel_rfl
def OwnStrs (w : World) (B : Nat) (v : Value) (ss : List ByteArray) : Prop := w.ownsRow B 9 1 v ss.length (strs ss)
theorem OwnStrs.at_ {w : World} {B : Nat} {v : Value} {xs : List ByteArray} (h : OwnStrs w B v xs) : StrsAt w v xs := rowAt_of_own h
theorem OwnStrs.below {w w' : World} {B : Nat} {v : Value} {xs : List ByteArray} (h : OwnStrs w B v xs) (hb : Below w.heap.size w w') : OwnStrs w' B v xs := own_below h hb
theorem OwnStrs.lit0 (w : World) : OwnStrs (w.alloc (.cells #[] 9)) w.heap.size (.slice (some ⟨w.heap.size, 0, none⟩) 0 0) [] := own_empty w 9 1
theorem OwnStrs.snoc {w : World} {B : Nat} {v : Value} {xs : List ByteArray} {s : ByteArray} (h : w.ownsRow B 9 1 v (xs.length + 1) (strs xs ++ (#[Value.string s] : Array Value).toList)) : OwnStrs w B v (xs ++ [s]) := by
  unfold OwnStrs
  have e : strs (xs ++ [s]) = strs xs ++ (#[Value.string s] : Array Value).toList := by simp [strs]
  rw [e, List.length_append]
  exact h

/-- The names of a person's committees among the first k. -/
def ofK (p : Int) (xs : List DCommittee) : Nat → List ByteArray
  | 0 => []
  | k + 1 => ofK p xs k ++ (match xs[k]? with | some c => if hasB c.members p then [c.name] else [] | none => [])
theorem ofK_len (p : Int) (xs : List DCommittee) (k : Nat) : (ofK p xs k).length ≤ k := by
  induction k with
  | zero => simp [ofK]
  | succ k ih =>
    simp only [ofK, List.length_append]
    have : (match xs[k]? with | some c => if hasB c.members p then [c.name] else [] | none => [] : List ByteArray).length ≤ 1 := by split <;> (try split) <;> simp
    omega
theorem ofK_on {p : Int} {xs : List DCommittee} {k : Nat} (hk : k < xs.length) (h : hasB xs[k].members p = true) : ofK p xs (k + 1) = ofK p xs k ++ [xs[k].name] := by simp [ofK, List.getElem?_eq_getElem hk, h]
theorem ofK_off {p : Int} {xs : List DCommittee} {k : Nat} (hk : k < xs.length) (h : hasB xs[k].members p = false) : ofK p xs (k + 1) = ofK p xs k := by simp [ofK, List.getElem?_eq_getElem hk, h]
def ofL (p : Int) (xs : List DCommittee) : List ByteArray := ofK p xs xs.length
/-- The busiest of the persons up to k, and in how many committees it is. -/
def busyK (xs : List DCommittee) : Nat → Int × Int
  | 0 => (0, 0)
  | k + 1 => if (busyK xs k).2 < ((ofL ((k + 1 : Nat) : Int) xs).length : Int) then (((k + 1 : Nat) : Int), ((ofL ((k + 1 : Nat) : Int) xs).length : Int)) else busyK xs k
def busyV (xs : List DCommittee) : Int × Int × Bool := if commsOk xs && decide (0 < xs.length) then ((busyK xs 99).1, (busyK xs 99).2, true) else (0, 0, false)
theorem busyK_bd (xs : List DCommittee) (k : Nat) : 0 ≤ (busyK xs k).1 ∧ (busyK xs k).1 ≤ k ∧ 0 ≤ (busyK xs k).2 ∧ (busyK xs k).2 ≤ xs.length := by
  induction k with
  | zero => simp [busyK]
  | succ k ih =>
    have := ofK_len ((k + 1 : Nat) : Int) xs xs.length
    simp only [busyK]
    split
    · simp only [ofL] at *; omega
    · omega
theorem commsOk_len {xs : List DCommittee} (h : commsOk xs = true) : xs.length ≤ 8 := by
  simp only [commsOk, Bool.and_eq_true, decide_eq_true_eq] at h; exact h.2
theorem ret_iib {a b c d : Int} {e f : Bool} (h : a = b) (h' : c = d) (h'' : e = f) : Ending.returned (.tuple #[.int .i64 a, .int .i64 c, .bool e]) = .returned (.tuple #[.int .i64 b, .int .i64 d, .bool f]) := by rw [h, h', h'']

theorem i_isPerson (p : Int) (w : World) : Calls Try.prog 40 #[.int .i64 p] w fun e w' => e = .returned (.bool (inB p 1 99)) ∧ w = w' := by
  go_enter Try.func40, Try.ntmps40
  go_wp2_with (go_at_call 58; refine (i_inside _ _ _ _).mono ?_; rintro e w' ⟨rfl, rfl⟩)
  go_ret
  exact ⟨rfl, rfl⟩
theorem s_l15Person (p : Int) (w : World) : Calls Try.prog 51 #[.int .i64 p] w fun e w' => e = .returned (.bool (inB p 1 99)) ∧ w = w' := by
  go_enter Try.func51, Try.ntmps51
  go_wp2_with (go_at_call 80; refine (s_l1In _ _ _ _).mono ?_; rintro e w' ⟨rfl, rfl⟩)
  go_ret
  exact ⟨rfl, rfl⟩

set_option maxHeartbeats 2000000 in
theorem i_committeesOf (v : Value) (xs : List DCommittee) (p : Int) (w : World) (h : CommsAt w v xs) (hx : xs.length ≤ 8) :
    Calls Try.prog 41 #[v, .int .i64 p] w fun e w' => ∃ u, e = .returned u ∧ OwnStrs w' w.heap.size u (ofL p xs) ∧ Below w.heap.size w w' := by
  obtain ⟨ao, cap, rfl⟩ := h.form
  have ho1 := OwnStrs.lit0 w
  have hb1 : Below w.heap.size w (w.alloc (.cells #[] 9)) := (Below.refl _ _).alloc (Nat.le_refl _) _
  go_enter Try.func41, Try.ntmps41
  go_wp2_with fail
  go_loopw [5, 11] (fun o i wr => ∃ k : Nat, k ≤ xs.length ∧ i = .int .i64 k ∧ OwnStrs wr w.heap.size o (ofK p xs k) ∧ Below w.heap.size w wr) (fun _ i _ => xs.length - (intOf i).toNat)
  case atStart => exact ⟨0, by omega, rfl, ho1, hb1⟩
  case round =>
    obtain ⟨k, hk, rfl, ho, hb⟩ := hrel
    by_cases hlt : k < xs.length
    · obtain ⟨b, off, u0, rfl, h4, h5, c0, c1, c2⟩ := (h.below hb).get hlt
      obtain ⟨a1, k1, rfl⟩ := h5.form
      have hlen := ofK_len p xs k
      obtain ⟨W2, hW2⟩ : ∃ W2, W2 = wr.alloc (.cells #[.string xs[k].name, .slice a1 xs[k].members.length k1, .int .i64 xs[k].head] 40) := ⟨_, rfl⟩
      have bC : BoxAt W2 wr.heap.size #[.string xs[k].name, .slice a1 xs[k].members.length k1, .int .i64 xs[k].head] := by rw [hW2]; exact BoxAt.new _ _ _
      have hal : Below wr.heap.size wr W2 := by rw [hW2]; exact (Below.refl _ _).alloc (Nat.le_refl _) _
      have hq := slices_Contains _ xs[k].members p _ (h5.below hal)
      have ho' := ho.below hal
      have hb' := below_step hb hal
      have rc := bC.cells
      have HW2 := Lib.hid hW2; clear hW2
      cases hc : hasB xs[k].members p with
      | true =>
        have HL := Lib.hid (ofK_on hlt hc)
        rw [hc] at hq
        have HQ := Lib.hid hq
        clear hc hq
        generalize xs[k] = r at *
        go_wp2_with fail
        rw [← HW2.out]
        refine HQ.out.mono ?_
        rintro e w' ⟨rfl, rfl⟩
        go_wp2_with (at_builtin; refine wpList_push_flat rfl (.tmp 19) (.tmp 22) _ rfl w.heap.size 9 _ _ 1 16 str_info Try.underlying34 rfl (by omega) (by omega) _ (ofK p xs k).length (strs (ofK p xs k)) #[.string r.name] rfl ho' rfl (by simp [Value.oneCell']) rfl hb'.size (by omega) ?_; intro u3 w3 ho3 hb3)
        go_roundw
        case rel => exact ⟨k + 1, by omega, by go_num, by rw [HL.out]; exact OwnStrs.snoc ho3, hb'.trans hb3⟩
        case measure => simp [intOf]; omega
      | false =>
        have HL := Lib.hid (ofK_off hlt hc)
        rw [hc] at hq
        have HQ := Lib.hid hq
        clear hc hq
        generalize xs[k] = r at *
        go_wp2_with fail
        rw [← HW2.out]
        refine HQ.out.mono ?_
        rintro e w' ⟨rfl, rfl⟩
        go_wp2_with fail
        go_roundw
        case rel => exact ⟨k + 1, by omega, by go_num, by rw [HL.out]; exact ho', hb'⟩
        case measure => simp [intOf]; omega
    · obtain rfl : k = xs.length := by omega
      go_wp2_with fail
      go_ret
      exact ⟨_, rfl, ho, hb⟩

set_option maxHeartbeats 2000000 in
theorem i_BusiestPerson (v : Value) (xs : List DCommittee) (w : World) (h : CommsAt w v xs) (hn : CommsLe xs) :
    Calls Try.prog 15 #[v] w fun e w' => e = .returned (.tuple #[.int .i64 (busyV xs).1, .int .i64 (busyV xs).2.1, .bool (busyV xs).2.2]) ∧ Below w.heap.size w w' := by
  have HQ := i_AreCommittees v xs w h hn
  obtain ⟨ao, cap, rfl⟩ := h.form
  cases hok : commsOk xs with
  | false =>
    have HR : busyV xs = (0, 0, false) := by simp [busyV, hok]
    rw [HR]
    rw [hok] at HQ
    have HQ' := Lib.hid HQ; clear HQ hok HR
    go_enter Try.func15, Try.ntmps15
    go_wp2_with (go_at_call 23; refine HQ'.out.mono ?_; rintro e w1 ⟨rfl, hb1⟩)
    go_ret3
    exact ⟨rfl, hb1⟩
  | true =>
    have hx := commsOk_len hok
    rw [hok] at HQ
    have HQ' := Lib.hid HQ; clear HQ
    by_cases hz : xs.length = 0
    · have HR : busyV xs = (0, 0, false) := by simp [busyV, hz]
      rw [HR]
      have hzb : (((xs.length : Nat) : Int) == 0) = true := by simp [hz]
      have HZ := Lib.hid hz
      clear hok HR hz
      go_enter Try.func15, Try.ntmps15
      go_wp2_with (go_at_call 23; refine HQ'.out.mono ?_; rintro e w1 ⟨rfl, hb1⟩)
      go_ret3
      exact ⟨rfl, hb1⟩
    · have HR : busyV xs = ((busyK xs 99).1, (busyK xs 99).2, true) := by simp only [busyV, hok, Bool.true_and]; rw [if_pos (decide_eq_true (by omega))]
      rw [HR]
      have hzb : (((xs.length : Nat) : Int) == 0) = false := by rw [beq_eq_false_iff_ne]; omega
      clear hok HR hz
      go_enter Try.func15, Try.ntmps15
      go_wp2_with (go_at_call 23; refine HQ'.out.mono ?_; rintro e w1 ⟨rfl, hb1⟩)
      go_loopw [5, 6, 7] (fun b m i wr => ∃ k : Nat, k ≤ 99 ∧ i = .int .i64 ((k : Int) + 1) ∧ b = .int .i64 (busyK xs k).1 ∧ m = .int .i64 (busyK xs k).2 ∧ Below w.heap.size w wr) (fun _ _ i _ => 200 - (intOf i).toNat)
      case atStart => exact ⟨0, by omega, by go_num, rfl, rfl, hb1⟩
      case round =>
        obtain ⟨k, hk, rfl, rfl, rfl, hb⟩ := hrel
        by_cases hlt : k < 99
        · have hin : inB ((k : Int) + 1) 1 99 = true := inB_iff.2 (by omega)
          have hlen := ofK_len ((k : Int) + 1) xs xs.length
          have hbd := busyK_bd xs k
          have hcast : (((k + 1 : Nat) : Int)) = (k : Int) + 1 := by omega
          have hq := i_committeesOf _ xs ((k : Int) + 1) wr (h.below hb) hx
          by_cases hc : (busyK xs k).2 < ((ofL ((k : Int) + 1) xs).length : Int)
          · have HB : Hid (busyK xs (k + 1) = ((k : Int) + 1, ((ofL ((k : Int) + 1) xs).length : Int))) := by simp only [Hid, busyK, hcast]; rw [if_pos hc]
            have HI := Lib.hid hin; have HQ2 := Lib.hid hq; have HBD := Lib.hid hbd; have HCC := Lib.hid hcast
            clear hin hq hcast hbd
            change (ofL ((k : Int) + 1) xs).length ≤ xs.length at hlen
            generalize (busyK xs k).2 = m at *
            generalize (busyK xs k).1 = b at *
            generalize ofL ((k : Int) + 1) xs = l at *
            go_wp2_with (first | (go_at_call 40; refine (i_isPerson _ _).mono ?_; rw [HI.out]; rintro e w' ⟨rfl, rfl⟩) | (go_at_call 41; refine HQ2.out.mono ?_; rintro e w3 ⟨u, rfl, ho, hb3⟩; obtain ⟨a3, k3, rfl⟩ := ho.at_.form))
            go_roundw
            case rel => exact ⟨k + 1, by omega, by go_num, by rw [HB.out], by rw [HB.out], below_step hb hb3⟩
            case measure => simp [intOf]; omega
          · have HB : Hid (busyK xs (k + 1) = busyK xs k) := by simp only [Hid, busyK, hcast]; rw [if_neg hc]
            have HI := Lib.hid hin; have HQ2 := Lib.hid hq; have HBD := Lib.hid hbd; have HCC := Lib.hid hcast
            have HP : Hid (((busyK xs k).1, (busyK xs k).2) = busyK xs k) := rfl
            clear hin hq hcast hbd
            change (ofL ((k : Int) + 1) xs).length ≤ xs.length at hlen
            generalize hm : (busyK xs k).2 = m at *
            generalize hbk : (busyK xs k).1 = b at *
            have HM := Lib.hid hm; have HBK := Lib.hid hbk; clear hm hbk
            generalize ofL ((k : Int) + 1) xs = l at *
            go_wp2_with (first | (go_at_call 40; refine (i_isPerson _ _).mono ?_; rw [HI.out]; rintro e w' ⟨rfl, rfl⟩) | (go_at_call 41; refine HQ2.out.mono ?_; rintro e w3 ⟨u, rfl, ho, hb3⟩; obtain ⟨a3, k3, rfl⟩ := ho.at_.form))
            go_roundw
            case rel => exact ⟨k + 1, by omega, by go_num, by rw [HB.out, HBK.out], by rw [HB.out, HM.out], below_step hb hb3⟩
            case measure => simp [intOf]; omega
        · obtain rfl : k = 99 := by omega
          have hin : inB 100 1 99 = false := by decide
          have HI := Lib.hid hin; clear hin
          simp only [show (((99 : Nat) : Int) + 1) = 100 from rfl]
          go_wp2_with (go_at_call 40; refine (i_isPerson _ _).mono ?_; rw [HI.out]; rintro e w' ⟨rfl, rfl⟩)
          go_ret3
          exact ⟨rfl, hb⟩

set_option maxHeartbeats 2000000 in
theorem s_BusiestPerson (v : Value) (xs : List DCommittee) (w : World) (h : CommsAt w v xs) (hn : CommsLe xs) :
    Calls Try.prog 16 #[v] w fun e w' => e = .returned (.tuple #[.int .i64 (busyV xs).1, .int .i64 (busyV xs).2.1, .bool (busyV xs).2.2]) ∧ Below w.heap.size w w' := by
  have HQ := s_l15Good v xs w h hn
  obtain ⟨ao, cap, rfl⟩ := h.form
  cases hok : commsOk xs with
  | false =>
    have HR : busyV xs = (0, 0, false) := by simp [busyV, hok]
    rw [HR]
    rw [hok] at HQ
    have HQ' := Lib.hid HQ; clear HQ hok HR
    go_enter Try.func16, Try.ntmps16
    go_wp2_with (go_at_call 34; refine HQ'.out.mono ?_; rintro e w1 ⟨rfl, hb1⟩)
    go_ret3
    exact ⟨rfl, hb1⟩
  | true =>
    have hx := commsOk_len hok
    rw [hok] at HQ
    have HQ' := Lib.hid HQ; clear HQ
    by_cases hz : xs.length = 0
    · have HR : busyV xs = (0, 0, false) := by simp [busyV, hz]
      rw [HR]
      have hzb : (((xs.length : Nat) : Int) == 0) = true := by simp [hz]
      have HZ := Lib.hid hz
      clear hok HR hz
      go_enter Try.func16, Try.ntmps16
      go_wp2_with (go_at_call 34; refine HQ'.out.mono ?_; rintro e w1 ⟨rfl, hb1⟩)
      go_ret3
      exact ⟨rfl, hb1⟩
    · have HR : busyV xs = ((busyK xs 99).1, (busyK xs 99).2, true) := by simp only [busyV, hok, Bool.true_and]; rw [if_pos (decide_eq_true (by omega))]
      rw [HR]
      have hzb : (((xs.length : Nat) : Int) == 0) = false := by rw [beq_eq_false_iff_ne]; omega
      clear hok HR hz
      go_enter Try.func16, Try.ntmps16
      go_wp2_with (go_at_call 34; refine HQ'.out.mono ?_; rintro e w1 ⟨rfl, hb1⟩)
      go_loop [5, 6, 7] (fun b m i => ∃ k : Nat, k ≤ 99 ∧ i = .int .i64 ((k : Int) + 1) ∧ b = .int .i64 (busyK xs k).1 ∧ m = .int .i64 (busyK xs k).2) (fun _ _ i => 200 - (intOf i).toNat)
      case atStart => exact ⟨0, by omega, by go_num, rfl, rfl⟩
      case round =>
        obtain ⟨k, hk, rfl, rfl, rfl⟩ := hrel
        by_cases hlt : k < 99
        · go_wp2_with fail
          go_loop [8, 9] (fun n i => ∃ j : Nat, j ≤ xs.length ∧ i = .int .i64 j ∧ n = .int .i64 ((ofK ((k : Int) + 1) xs j).length : Int)) (fun _ i => xs.length - (intOf i).toNat)
          case atStart => exact ⟨0, by omega, rfl, rfl⟩
          case round =>
            obtain ⟨j, hj, rfl, rfl⟩ := hrel
            have hlen := ofK_len ((k : Int) + 1) xs j
            by_cases hjt : j < xs.length
            · obtain ⟨b, off, u0, rfl, h4, h5, c0, c1, c2⟩ := (h.below hb1).get hjt
              obtain ⟨a1, k1, rfl⟩ := h5.form
              cases hc : hasB xs[j].members ((k : Int) + 1) with
              | true =>
                have HL := Lib.hid (ofK_on hjt hc)
                have HC := Lib.hid hc; clear hc
                generalize xs[j] = r at *
                generalize ofK ((k : Int) + 1) xs j = l at *
                go_wp2_with (go_at_call 42; refine (s_l1Has _ r.members _ _ h5).mono ?_; rw [HC.out]; rintro e w' ⟨rfl, rfl⟩)
                go_round
                case rel => exact ⟨j + 1, by omega, by go_num, by rw [HL.out]; simp⟩
                case measure => simp [intOf]; omega
              | false =>
                have HL := Lib.hid (ofK_off hjt hc)
                have HC := Lib.hid hc; clear hc
                generalize xs[j] = r at *
                generalize ofK ((k : Int) + 1) xs j = l at *
                go_wp2_with (go_at_call 42; refine (s_l1Has _ r.members _ _ h5).mono ?_; rw [HC.out]; rintro e w' ⟨rfl, rfl⟩)
                go_round
                case rel => exact ⟨j + 1, by omega, by go_num, by rw [HL.out]⟩
                case measure => simp [intOf]; omega
            · obtain rfl : j = xs.length := by omega
              have hbd := busyK_bd xs k
              have hcast : (((k + 1 : Nat) : Int)) = (k : Int) + 1 := by omega
              by_cases hc : (busyK xs k).2 < ((ofL ((k : Int) + 1) xs).length : Int)
              · have HB : Hid (busyK xs (k + 1) = ((k : Int) + 1, ((ofL ((k : Int) + 1) xs).length : Int))) := by simp only [Hid, busyK, hcast]; rw [if_pos hc]
                have HBD := Lib.hid hbd; have HCC := Lib.hid hcast
                change (busyK xs k).2 < ((ofK ((k : Int) + 1) xs xs.length).length : Int) at hc
                change Hid (busyK xs (k + 1) = ((k : Int) + 1, ((ofK ((k : Int) + 1) xs xs.length).length : Int))) at HB
                clear hcast hbd
                generalize (busyK xs k).2 = m at *
                generalize (busyK xs k).1 = b at *
                generalize ofK ((k : Int) + 1) xs xs.length = l at *
                go_wp2_with fail
                go_round
                case rel => exact ⟨k + 1, by omega, by go_num, by rw [HB.out], by rw [HB.out]⟩
                case measure => simp [intOf]; omega
              · have HB : Hid (busyK xs (k + 1) = busyK xs k) := by simp only [Hid, busyK, hcast]; rw [if_neg hc]
                change ¬ (busyK xs k).2 < ((ofK ((k : Int) + 1) xs xs.length).length : Int) at hc
                have HBD := Lib.hid hbd; have HCC := Lib.hid hcast
                clear hcast hbd
                generalize hm : (busyK xs k).2 = m at *
                generalize hbk : (busyK xs k).1 = b at *
                have HM := Lib.hid hm; have HBK := Lib.hid hbk; clear hm hbk
                generalize ofK ((k : Int) + 1) xs xs.length = l at *
                go_wp2_with fail
                go_round
                case rel => exact ⟨k + 1, by omega, by go_num, by rw [HB.out, HBK.out], by rw [HB.out, HM.out]⟩
                case measure => simp [intOf]; omega
        · obtain rfl : k = 99 := by omega
          go_wp2_with fail
          go_ret3
          exact ⟨rfl, hb1⟩

/-- CommitteesOf. -/
def ofV (xs : List DCommittee) (p : Int) : List ByteArray × Bool := if commsOk xs && inB p 1 99 then (ofL p xs, true) else ([], false)
theorem ofV_len (xs : List DCommittee) (p : Int) : (ofV xs p).1.length ≤ 4000000 := by
  unfold ofV
  split
  · rename_i h
    simp only [Bool.and_eq_true] at h
    have := commsOk_len h.1
    have := ofK_len p xs xs.length
    simp only [ofL]; omega
  · simp

set_option maxHeartbeats 1000000 in
theorem i_CommitteesOf (v : Value) (xs : List DCommittee) (p : Int) (w : World) (h : CommsAt w v xs) (hn : CommsLe xs) :
    Calls Try.prog 17 #[v, .int .i64 p] w fun e w' => ∃ u, e = .returned (.tuple #[u, .bool (ofV xs p).2]) ∧ OwnStrs w' w.heap.size u (ofV xs p).1 ∧ Below w.heap.size w w' := by
  have HQ := i_AreCommittees v xs w h hn
  obtain ⟨ao, cap, rfl⟩ := h.form
  have fin0 : ∀ w1, Below w.heap.size w w1 → OwnStrs w1 w.heap.size (.slice none 0 0) [] ∧ Below w.heap.size w w1 := fun w1 hb => ⟨World.ownsRow_nil _ _ 9 1, hb⟩
  cases hok : commsOk xs with
  | false =>
    have HR : ofV xs p = ([], false) := by simp [ofV, hok]
    rw [HR]
    rw [hok] at HQ
    have HQ' := Lib.hid HQ; clear HQ hok HR
    go_enter Try.func17, Try.ntmps17
    go_wp2_with (go_at_call 23; refine HQ'.out.mono ?_; rintro e w1 ⟨rfl, hb1⟩)
    go_ret2
    exact ⟨_, rfl, fin0 _ hb1⟩
  | true =>
    have hx := commsOk_len hok
    rw [hok] at HQ
    have HQ' := Lib.hid HQ; clear HQ
    cases hp : inB p 1 99 with
    | false =>
      have HR : ofV xs p = ([], false) := by simp [ofV, hp]
      rw [HR]
      have HP := Lib.hid hp
      clear hok HR hp
      go_enter Try.func17, Try.ntmps17
      go_wp2_with (first | (go_at_call 23; refine HQ'.out.mono ?_; rintro e w1 ⟨rfl, hb1⟩) | (go_at_call 40; refine (i_isPerson _ _).mono ?_; rw [HP.out]; rintro e w' ⟨rfl, rfl⟩))
      go_ret2
      exact ⟨_, rfl, fin0 _ hb1⟩
    | true =>
      have HR : ofV xs p = (ofL p xs, true) := by simp [ofV, hok, hp]
      rw [HR]
      have HP := Lib.hid hp
      clear hok HR hp
      go_enter Try.func17, Try.ntmps17
      go_wp2_with (first | (go_at_call 23; refine HQ'.out.mono ?_; rintro e w1 ⟨rfl, hb1⟩) | (go_at_call 40; refine (i_isPerson _ _).mono ?_; rw [HP.out]; rintro e w' ⟨rfl, rfl⟩) | (go_at_call 41; refine (i_committeesOf _ xs p _ (h.below hb1) hx).mono ?_; rintro e w2 ⟨u, rfl, ho, hb2⟩; obtain ⟨a2, k2, rfl⟩ := ho.at_.form))
      go_ret2
      exact ⟨_, rfl, own_base ho hb1.size, below_step hb1 hb2⟩

set_option maxHeartbeats 2000000 in
theorem s_CommitteesOf (v : Value) (xs : List DCommittee) (p : Int) (w : World) (h : CommsAt w v xs) (hn : CommsLe xs) :
    Calls Try.prog 31 #[v, .int .i64 p] w fun e w' => ∃ u, e = .returned (.tuple #[u, .bool (ofV xs p).2]) ∧ OwnStrs w' w.heap.size u (ofV xs p).1 ∧ Below w.heap.size w w' := by
  obtain ⟨W, hW⟩ : ∃ W, W = w.alloc (.cells #[] 9) := ⟨_, rfl⟩
  have hWb : Below w.heap.size w W := by rw [hW]; exact (Below.refl _ _).alloc (Nat.le_refl _) _
  have ho0 : OwnStrs W w.heap.size (.slice (some ⟨w.heap.size, 0, none⟩) 0 0) [] := by rw [hW]; exact OwnStrs.lit0 w
  have HW := Lib.hid hW; clear hW
  have HQ := s_l15Good v xs W (h.below hWb) hn
  obtain ⟨ao, cap, rfl⟩ := h.form
  cases hok : commsOk xs with
  | false =>
    have HR : ofV xs p = ([], false) := by simp [ofV, hok]
    rw [HR]
    rw [hok] at HQ
    have HQ' := Lib.hid HQ; clear HQ hok HR
    go_enter Try.func31, Try.ntmps31
    go_wp2_with fail
    rw [← HW.out]
    refine HQ'.out.mono ?_
    rintro e w1 ⟨rfl, hb1⟩
    go_wp2_with fail
    go_ret2
    exact ⟨_, rfl, ho0.below hb1, below_step hWb hb1⟩
  | true =>
    have hx := commsOk_len hok
    rw [hok] at HQ
    have HQ' := Lib.hid HQ; clear HQ
    cases hp : inB p 1 99 with
    | false =>
      have HR : ofV xs p = ([], false) := by simp [ofV, hp]
      rw [HR]
      have HP := Lib.hid hp
      clear hok HR hp
      go_enter Try.func31, Try.ntmps31
      go_wp2_with fail
      rw [← HW.out]
      refine HQ'.out.mono ?_
      rintro e w1 ⟨rfl, hb1⟩
      go_wp2_with (go_at_call 51; refine (s_l15Person _ _).mono ?_; rw [HP.out]; rintro e w' ⟨rfl, rfl⟩)
      go_ret2
      exact ⟨_, rfl, ho0.below hb1, below_step hWb hb1⟩
    | true =>
      have HR : ofV xs p = (ofL p xs, true) := by simp [ofV, hok, hp]
      rw [HR]
      have HP := Lib.hid hp
      clear hok HR hp
      go_enter Try.func31, Try.ntmps31
      go_wp2_with fail
      rw [← HW.out]
      refine HQ'.out.mono ?_
      rintro e w1 ⟨rfl, hb1⟩
      have ho1 := ho0.below hb1
      have hb1' := below_step hWb hb1
      go_wp2_with (go_at_call 51; refine (s_l15Person _ _).mono ?_; rw [HP.out]; rintro e w' ⟨rfl, rfl⟩)
      go_loopw [6, 7] (fun o i wr => ∃ k : Nat, k ≤ xs.length ∧ i = .int .i64 k ∧ OwnStrs wr w.heap.size o (ofK p xs k) ∧ Below w.heap.size w wr) (fun _ i _ => xs.length - (intOf i).toNat)
      case atStart => exact ⟨0, by omega, rfl, ho1, hb1'⟩
      case round =>
        clear ho1 ho0
        obtain ⟨k, hk, rfl, ho, hb⟩ := hrel
        by_cases hlt : k < xs.length
        · obtain ⟨b, off, u0, rfl, h4, h5, c0, c1, c2⟩ := (h.below hb).get hlt
          obtain ⟨a1, k1, rfl⟩ := h5.form
          have hlen := ofK_len p xs k
          have hq := s_l1Has _ xs[k].members p _ h5
          cases hc : hasB xs[k].members p with
          | true =>
            have HL := Lib.hid (ofK_on hlt hc)
            rw [hc] at hq
            have HQ := Lib.hid hq
            clear hc hq
            generalize xs[k] = r at *
            go_wp2_with (first | (go_at_call 42; refine HQ.out.mono ?_; rintro e w' ⟨rfl, rfl⟩) | (at_builtin; refine wpList_push_flat rfl (.tmp 31) (.tmp 37) _ rfl w.heap.size 9 _ _ 1 16 str_info Try.underlying34 rfl (by omega) (by omega) _ (ofK p xs k).length (strs (ofK p xs k)) #[.string r.name] rfl ho rfl (by simp [Value.oneCell']) rfl hb.size (by omega) ?_; intro u3 w3 ho3 hb3))
            go_roundw
            case rel => exact ⟨k + 1, by omega, by go_num, by rw [HL.out]; exact OwnStrs.snoc ho3, hb.trans hb3⟩
            case measure => simp [intOf]; omega
          | false =>
            have HL := Lib.hid (ofK_off hlt hc)
            rw [hc] at hq
            have HQ := Lib.hid hq
            clear hc hq
            generalize xs[k] = r at *
            go_wp2_with (go_at_call 42; refine HQ.out.mono ?_; rintro e w' ⟨rfl, rfl⟩)
            go_roundw
            case rel => exact ⟨k + 1, by omega, by go_num, by rw [HL.out]; exact ho, hb⟩
            case measure => simp [intOf]; omega
        · obtain rfl : k = xs.length := by omega
          go_wp2_with fail
          go_ret2
          exact ⟨_, rfl, ho, hb⟩

end Go.Proofs.Ytpjmcjdnobihbaa
