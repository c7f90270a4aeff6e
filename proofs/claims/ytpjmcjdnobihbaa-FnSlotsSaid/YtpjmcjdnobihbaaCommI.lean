/- Contracts: where a committee is in a list; committees in new memory. No conditions beyond sizes. -/
import Derived.Test.YtpjmcjdnobihbaaNestQ
import Derived.Test.YtpjmcjdnobihbaaCommF
import Derived.Deep.DeepCutAuto
namespace Go.Proofs.Ytpjmcjdnobihbaa
open Go.RowKit
set_option linter.unusedVariables false
set_option linter.unusedSimpArgs false

def isN (n : ByteArray) (c : DCommittee) : Bool := decide (c.name = n)
set_option maxHeartbeats 1000000 in
theorem IndexFunc_comm (cf : Nat) (hcf : Enters Try.prog cf) (cap : List Value) (p : DCommittee → Bool) (v : Value) (xs : List DCommittee) (w : World) (h : CommsAt w v xs)
    (hp : ∀ u x w', Below w.heap.size w w' → IntsAt w' u x.members → Calls Try.prog cf (vComm u x :: cap).toArray w' fun e w'' => e = .returned (.bool (p x)) ∧ Below w'.heap.size w' w'') :
    Calls Try.prog 76 #[v, .func (.func cf) #[] cap.toArray] w fun e w' => e = .returned (.int .i64 (idxBy p xs)) ∧ Below w.heap.size w w' := by
  have hL := NestAt.len h
  unfold maxLen at hL
  obtain ⟨ao, cap', rfl⟩ := h.form
  rw [← idxFrom_eq]
  have HP := Lib.hid hp; clear hp
  have hcf := hcf.out
  go_enter Try.func76, Try.ntmps76
  go_wp2
  go_loopw [8] (fun i wr => ∃ k : Nat, k ≤ xs.length ∧ i = .int .i64 k ∧ Hid (idxFrom p 0 xs = idxFrom p k (xs.drop k)) ∧ Below w.heap.size w wr) (fun i _ => xs.length - (intOf i).toNat)
  case atStart => exact ⟨0, by omega, rfl, by simp [Hid], Below.refl _ _⟩
  case round =>
    obtain ⟨k, hk, rfl, hd, hb⟩ := hrel
    by_cases hlt : k < xs.length
    · obtain ⟨b, off, u, rfl, h4, h5, c0, c1, c2⟩ := (h.below hb).get hlt
      obtain ⟨ua, uk, rfl⟩ := h5.form
      have hd' := hd.out
      rw [drop_at hlt] at hd'
      simp only [idxFrom] at hd'
      cases hpx : p xs[k] with
      | true =>
        have HD : Hid (idxFrom p 0 xs = k) := by simpa [Hid, hpx] using hd'
        generalize xs[k] = x at *
        clear hd hd'
        have HPX := Lib.hid hpx; clear hpx
        go_wp2_with fail
        refine (HP.out _ x _ hb h5).mono ?_
        rw [HPX.out]
        rintro e w' ⟨rfl, hb1⟩
        go_wp2
        go_ret
        exact ⟨ret_int HD.out.symm, below_step hb hb1⟩
      | false =>
        have HD : Hid (idxFrom p 0 xs = idxFrom p (k + 1) (xs.drop (k + 1))) := by simpa [Hid, hpx] using hd'
        generalize xs[k] = x at *
        clear hd hd'
        have HPX := Lib.hid hpx; clear hpx
        go_wp2_with fail
        refine (HP.out _ x _ hb h5).mono ?_
        rw [HPX.out]
        rintro e w' ⟨rfl, hb1⟩
        go_wp2
        go_roundw
        case rel => exact ⟨k + 1, by omega, by go_num, HD, below_step hb hb1⟩
        case measure => simp [intOf]; omega
    · have HD : Hid (idxFrom p 0 xs = -1) := by
        have := hd.out
        rw [List.drop_of_length_le (by omega)] at this
        simpa [Hid, idxFrom] using this
      clear hd
      go_wp2
      go_ret
      exact ⟨ret_int HD.out.symm, hb⟩

theorem i_committeeIndex1 (u : Value) (x : DCommittee) (B : Nat) (n : ByteArray) (w : World) (hc : w.cell? ⟨B, 0, none⟩ = some (.string n)) (hB : B < w.heap.size) (h : IntsAt w u x.members) :
    Calls Try.prog 77 #[vComm u x, .pointer (some ⟨B, 0, none⟩)] w fun e w' => e = .returned (.bool (isN n x)) ∧ Below w.heap.size w w' := by
  obtain ⟨ao, cap, rfl⟩ := h.form
  have hb := (Below.refl w.heap.size w).alloc (Nat.le_refl _) (.cells #[.string x.name, .slice ao x.members.length cap, .int .i64 x.head] 40)
  have hc' := (hb.cell (p := ⟨B, 0, none⟩) hB).trans hc
  by_cases hxn : x.name = n
  · have hb1 : (x.name.toList == n.toList) = true := by simp [hxn]
    have HR : Hid (isN n x = true) := decide_eq_true hxn
    clear hxn
    go_enter Try.func77, Try.ntmps77
    go_wp2_with fail
    go_ret
    exact ⟨ret_bool HR.out.symm, hb⟩
  · have hb1 : (x.name.toList == n.toList) = false := (Lib.bytes_beq_false_iff _ _).2 hxn
    have HR : Hid (isN n x = false) := decide_eq_false hxn
    clear hxn
    go_enter Try.func77, Try.ntmps77
    go_wp2_with fail
    go_ret
    exact ⟨ret_bool HR.out.symm, hb⟩

theorem i_committeeIndex (v : Value) (n : ByteArray) (xs : List DCommittee) (w : World) (h : CommsAt w v xs) :
    Calls Try.prog 46 #[v, .string n] w fun e w' => e = .returned (.int .i64 (idxBy (isN n) xs)) ∧ Below w.heap.size w w' := by
  obtain ⟨ao, cap, rfl⟩ := h.form
  obtain ⟨W, hW⟩ : ∃ W, W = w.alloc (.cells #[.string n] 9) := ⟨_, rfl⟩
  have bA : BoxAt W w.heap.size #[.string n] := by rw [hW]; exact BoxAt.new _ _ _
  have hWb : Below w.heap.size w W := by rw [hW]; exact (Below.refl _ _).alloc (Nat.le_refl _) _
  have HC := Lib.hid (IndexFunc_comm 77 (enters_of Try.func77 (by kernel_rfl) (by kernel_rfl)) [.pointer (some ⟨w.heap.size, 0, none⟩)] (isN n) _ xs W (h.below hWb)
    (fun u x w' hb hu => i_committeeIndex1 u x w.heap.size n w' (by simpa using (bA.below hb).cells 0) (bA.below hb).1 hu))
  have HW := Lib.hid hW; clear hW
  go_enter Try.func46, Try.ntmps46
  go_wp2_with fail
  rw [← HW.out]
  refine HC.out.mono ?_
  rintro e w1 ⟨rfl, hb1⟩
  go_wp2_with fail
  go_ret
  exact ⟨rfl, below_step hWb hb1⟩

theorem s_l15Find (v : Value) (n : ByteArray) (xs : List DCommittee) (w : World) (h : CommsAt w v xs) :
    Calls Try.prog 50 #[v, .string n] w fun e w' => e = .returned (.int .i64 (idxBy (isN n) xs)) ∧ Below w.heap.size w w' := by
  have hL := NestAt.len h
  unfold maxLen at hL
  obtain ⟨ao, cap, rfl⟩ := h.form
  rw [← idxFrom_eq]
  go_enter Try.func50, Try.ntmps50
  go_wp2_with fail
  go_loopw [5] (fun i wr => ∃ k : Nat, k ≤ xs.length ∧ i = .int .i64 k ∧ Hid (idxFrom (isN n) 0 xs = idxFrom (isN n) k (xs.drop k)) ∧ Below w.heap.size w wr) (fun i _ => xs.length - (intOf i).toNat)
  case atStart => exact ⟨0, by omega, rfl, by simp [Hid], Below.refl _ _⟩
  case round =>
    obtain ⟨k, hk, rfl, hd, hb⟩ := hrel
    by_cases hlt : k < xs.length
    · obtain ⟨b, off, u, rfl, h4, h5, c0, c1, c2⟩ := (h.below hb).get hlt
      have hd' := hd.out
      rw [drop_at hlt] at hd'
      simp only [idxFrom] at hd'
      by_cases hxn : xs[k].name = n
      · have hb1 : (xs[k].name.toList == n.toList) = true := by simp [hxn]
        have hpx : isN n xs[k] = true := decide_eq_true hxn
        have HD : Hid (idxFrom (isN n) 0 xs = k) := by simpa [Hid, hpx] using hd'
        clear hd hd' hxn hpx
        generalize xs[k] = x at *
        go_wp2_with fail
        go_ret
        exact ⟨ret_int HD.out.symm, hb⟩
      · have hb1 : (xs[k].name.toList == n.toList) = false := (Lib.bytes_beq_false_iff _ _).2 hxn
        have hpx : isN n xs[k] = false := decide_eq_false hxn
        have HD : Hid (idxFrom (isN n) 0 xs = idxFrom (isN n) (k + 1) (xs.drop (k + 1))) := by simpa [Hid, hpx] using hd'
        clear hd hd' hxn hpx
        generalize xs[k] = x at *
        go_wp2_with fail
        go_roundw
        case rel => exact ⟨k + 1, by omega, by go_num, HD, hb⟩
        case measure => simp [intOf]; omega
    · have HD : Hid (idxFrom (isN n) 0 xs = -1) := by
        have := hd.out
        rw [List.drop_of_length_le (by omega)] at this
        simpa [Hid, idxFrom] using this
      clear hd
      go_wp2_with fail
      go_ret
      exact ⟨ret_int HD.out.symm, hb⟩

theorem BoxAt.putC {w : World} {b i : Nat} {cs : Array Value} (h : BoxAt w b cs) (hi : i < cs.size) (v : Value) : BoxAt (w.setCell ⟨b, i, none⟩ v) b (cs.setIfInBounds i v) := by
  refine ⟨by simpa [World.setCell] using h.1, fun j => ?_, fun j => by simpa using h.2.2 j⟩
  by_cases he : i = j
  · subst he
    rw [World.cell?_setCell_same _ _ _ (u := cs[i]) (by rw [h.2.1 i, Array.getElem?_eq_getElem hi])]
    simp [hi]
  · rw [World.cell?_setCell_other _ _ _ _ (by simp), h.2.1 j]
    simp [Array.getElem?_setIfInBounds, he]
set_option maxRecDepth 100000 in
set_option maxHeartbeats 1000000 in
theorem i_newCommittees (v : Value) (xs : List DCommittee) (w : World) (h : CommsAt w v xs) (hn : CommsLe xs) :
    Calls Try.prog 47 #[v] w fun e w' => ∃ u, e = .returned u ∧ OwnComms w' w.heap.size u xs ∧ Below w.heap.size w w' := by
  obtain ⟨ao, cap, rfl⟩ := h.form
  have ho1 : OwnComms (w.alloc (.cells #[] 40)) w.heap.size (.slice (some ⟨w.heap.size, 0, none⟩) 0 0) (xs.take 0) := OwnNest.lit _ _ w
  have hb1 : Below w.heap.size w (w.alloc (.cells #[] 40)) := (Below.refl _ _).alloc (Nat.le_refl _) _
  have hn1 := hn.1
  go_enter Try.func47, Try.ntmps47
  go_wp2_with fail
  go_loopw [3, 9] (fun o i wr => ∃ k : Nat, k ≤ xs.length ∧ i = .int .i64 k ∧ OwnComms wr w.heap.size o (xs.take k) ∧ Below w.heap.size w wr) (fun _ i _ => xs.length - (intOf i).toNat)
  case atStart => exact ⟨0, by omega, rfl, ho1, hb1⟩
  case round =>
    clear ho1 hb1
    rename World => wa
    obtain ⟨k, hk, rfl, ho, hb⟩ := hrel
    by_cases hlt : k < xs.length
    · obtain ⟨b, off, u, rfl, h4, h5, c0, c1, c2⟩ := (h.below hb).get hlt
      have hm := (hn.2 _ (List.getElem_mem hlt)).1
      have HTK : Hid (xs.take (k + 1) = xs.take k ++ [xs[k]]) := take_at hlt
      have hlen : (xs.take k).length ≤ 4000000 := by rw [List.length_take]; omega
      generalize xs[k] = a at *
      obtain ⟨ua, uk, rfl⟩ := h5.form
      obtain ⟨W, hW⟩ : ∃ W, W = wa.alloc (.cells #[.string a.name, .slice ua a.members.length uk, .int .i64 a.head] 40) := ⟨_, rfl⟩
      have bA : BoxAt W wa.heap.size #[.string a.name, .slice ua a.members.length uk, .int .i64 a.head] := by rw [hW]; exact BoxAt.new _ _ _
      have hbW : Below wa.heap.size wa W := by rw [hW]; exact (Below.refl _ _).alloc (Nat.le_refl _) _
      have HQ := Lib.hid (i_copyInts _ a.members W (h5.below hbW) (by omega))
      have HW := Lib.hid hW; clear hW
      go_wp2_with fail
      rw [← HW.out]
      refine HQ.out.mono ?_
      rintro e w1 ⟨p, rfl, hp, hb1⟩
      obtain ⟨pa, pk, rfl⟩ := hp.at_.form
      have bA1 := bA.below hb1
      have a1 := bA1.cells
      have f1 := bA1.free
      have hb01 := below_step hbW hb1
      obtain ⟨WS, hWS⟩ : ∃ WS, WS = w1.setCell ⟨wa.heap.size, 1, none⟩ (.slice pa a.members.length pk) := ⟨_, rfl⟩
      have bA2 : BoxAt WS wa.heap.size #[.string a.name, .slice pa a.members.length pk, .int .i64 a.head] := by rw [hWS]; exact BoxAt.putC bA1 (by simp) _
      have hb02 : Below wa.heap.size wa WS := by rw [hWS]; exact hb01.setCell (p := ⟨wa.heap.size, 1, none⟩) (Nat.le_refl _) _
      have hlt9 : wa.heap.size < W.heap.size := bA.1
      have hp2 : OwnInts WS wa.heap.size (.slice pa a.members.length pk) a.members := by
        rw [hWS]
        exact own_base (fin_own2 hp (Below.refl _ _) ((OutOf.refl wa.heap.size (wa.heap.size + 1) w1).set _) hlt9) hbW.size
      have a2 := bA2.cells
      have HWS := Lib.hid hWS; clear hWS
      have hB : w.heap.size ≤ wa.heap.size := hb.size
      clear hp bA2
      go_upto_region 6 with fail
      rw [← HWS.out]
      clear a1 f1 hb01 bA bA1
      go_wp2_with (at_builtin; refine wpList_push_nest0 (f := ccell) (ord := DCommittee.members) (size := 3) rfl (.tmp 17) (.tmp 19) _ rfl (fun _ _ => rfl) w.heap.size 40 3 _ _ 48 comm_info Try.underlying24 rfl (by omega) (by omega) _ (xs.take k) _ a _ rfl wa ho hb02 hp2 rfl (by simp [ccell, Value.oneCell']) rfl hB hlen ?_; intro v' w' k1 k4 k2 k3; clear k2 k3)
      go_roundw
      case rel => exact ⟨k + 1, by omega, by go_num, by rw [HTK.out]; exact k1, (hb.trans (hb02.mono hB)).trans k4⟩
      case measure => simp [intOf]; omega
    · obtain rfl : k = xs.length := by omega
      rw [List.take_length] at ho
      go_wp2_with fail
      go_ret
      exact ⟨_, rfl, ho, hb⟩

end Go.Proofs.Ytpjmcjdnobihbaa
