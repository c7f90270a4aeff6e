/- Contracts: the cursor that draws choices out of bytes. Condition: fewer than a thousand million choices. -/
import Derived.Test.YtpjmcjdnobihbaaIntS
import Derived.Test.YtpjmcjdnobihbaaMem
namespace Go.Proofs.Ytpjmcjdnobihbaa
open Go.RowKit
set_option linter.unusedVariables false
set_option linter.unusedSimpArgs false

/-! ### bytes that are read -/
def bytesL (bs : List Int) : List Value := bs.map (Value.int .u8)
def BytesAt (w : World) (v : Value) (bs : List Int) : Prop := RowAt w v bs.length 1 (bytesL bs) ∧ ∀ x ∈ bs, 0 ≤ x ∧ x ≤ 255
theorem BytesAt.below {w w' : World} {v : Value} {bs : List Int} (h : BytesAt w v bs) (hb : Below w.heap.size w w') : BytesAt w' v bs := ⟨h.1.below hb, h.2⟩
theorem CellsAt.byte {w : World} {b off k : Nat} {xs : List Int} (h : CellsAt w b off (bytesL xs)) (hk : k < xs.length) : w.cell? ⟨b, off + k, none⟩ = some (.int .u8 xs[k]) := by
  rw [h k (by simpa [bytesL] using hk)]; simp [bytesL]

/-- The cursor over the bytes bs, which lie in W0, in block b; it has gone at most m. -/
structure CurAt (W0 : World) (cv : Value) (w : World) (b m : Nat) : Prop where
  base : W0.heap.size ≤ b
  below : Below W0.heap.size W0 w
  box : ∃ at_ sd : Int, BoxAt w b #[cv, .int .i64 at_, .int .u64 sd] ∧ 0 ≤ at_ ∧ at_ ≤ m ∧ 0 ≤ sd
theorem CurAt.lt {W0 : World} {cv : Value} {w : World} {b m : Nat} (h : CurAt W0 cv w b m) : b < w.heap.size := by obtain ⟨_, _, hb, _⟩ := h.box; exact hb.1
theorem CurAt.step {W0 : World} {cv : Value} {w w' : World} {b m : Nat} (h : CurAt W0 cv w b m) (hb : Below w.heap.size w w') : CurAt W0 cv w' b m := by
  obtain ⟨h1, h2, a, s, h3, h4⟩ := h
  exact ⟨h1, h2.trans (hb.mono h2.size), a, s, h3.below hb, h4⟩
theorem CurAt.more {W0 : World} {cv : Value} {w : World} {b m m' : Nat} (h : CurAt W0 cv w b m) (hm : m ≤ m') : CurAt W0 cv w b m' := by
  obtain ⟨h1, h2, a, s, h3, h4, h5, h6⟩ := h
  exact ⟨h1, h2, a, s, h3, h4, by omega, h6⟩
/-- A world in which the cursor alone has been written, and new memory has been made. -/
abbrev CurTo (b : Nat) (w w' : World) : Prop := OutOf b (b + 1) w w'
theorem CurTo.below {W0 : World} {cv : Value} {b m : Nat} {w w' : World} (h : CurTo b w w') (hc : CurAt W0 cv w b m) : Below W0.heap.size W0 w' := hc.below.trans (OutOf.below h hc.base hc.below.size)

theorem BoxAt.put {w : World} {b i : Nat} {cs : Array Value} (h : BoxAt w b cs) (hi : i < cs.size) (v : Value) : BoxAt (w.setCell ⟨b, i, none⟩ v) b (cs.setIfInBounds i v) := by
  refine ⟨by simpa [World.setCell] using h.1, fun j => ?_, fun j => by simpa using h.2.2 j⟩
  by_cases he : i = j
  · subst he
    rw [World.cell?_setCell_same _ _ _ (u := cs[i]) (by rw [h.2.1 i, Array.getElem?_eq_getElem hi])]
    simp [hi]
  · rw [World.cell?_setCell_other _ _ _ _ (by simp), h.2.1 j]
    simp [Array.getElem?_setIfInBounds, he]
theorem cur_two {W0 : World} {cv : Value} {b : Nat} {w w1 : World} {a s a' s' : Int} {m : Nat} (h1 : W0.heap.size ≤ b) (h2 : Below W0.heap.size W0 w) (h3 : BoxAt w b #[cv, .int .i64 a, .int .u64 s]) (he : w1.os = w.os ∧ w1.tape = w.tape ∧ w1.output = w.output ∧ w1.heap = w.heap) (p0 : 0 ≤ a') (p1 : a' ≤ m) (p2 : 0 ≤ s') :
    CurAt W0 cv ((w1.setCell ⟨b, 1, none⟩ (.int .i64 a')).setCell ⟨b, 2, none⟩ (.int .u64 s')) b m ∧ CurTo b w ((w1.setCell ⟨b, 1, none⟩ (.int .i64 a')).setCell ⟨b, 2, none⟩ (.int .u64 s')) := by
  obtain ⟨e1, e2, e3, e4⟩ := he
  have hz : OutOf b (b + 1) w w1 := ⟨e1, e2, e3, by rw [e4]; exact Nat.le_refl _, fun k _ _ => by rw [e4]⟩
  have hb1 : BoxAt w1 b #[cv, .int .i64 a, .int .u64 s] := by
    have hbl : Below w.heap.size w w1 := ⟨e1, e2, e3, by rw [e4]; exact Nat.le_refl _, fun k _ => by rw [e4]⟩
    exact h3.below hbl
  have hto : CurTo b w ((w1.setCell ⟨b, 1, none⟩ (.int .i64 a')).setCell ⟨b, 2, none⟩ (.int .u64 s')) := (hz.set _).set _
  refine ⟨⟨h1, h2.trans (OutOf.below hto h1 h2.size), a', s', ?_, p0, p1, p2⟩, hto⟩
  have := (hb1.put (i := 1) (by simp) (.int .i64 a')).put (i := 2) (by simp) (.int .u64 s')
  simpa using this
theorem CurAt.drewN {W0 : World} {cv : Value} {w : World} {b m : Nat} (h : CurAt W0 cv w b m) (n : Nat) : CurAt W0 cv (w.drewN n) b m := h.step (Below.drewN' (Below.refl _ _) n)
theorem CurTo.drewN {b : Nat} {w w' : World} (h : CurTo b w w') (n : Nat) : CurTo b w (w'.drewN n) := ⟨h.os, h.tape, h.output, h.size, h.block⟩
theorem u64_and255 (n : Int) : bits .and .u64 n 255 = n % 256 := by
  have h1 : (BitVec.ofInt 64 255).toNat = 2 ^ 8 - 1 := by decide
  have key : (BitVec.ofInt 64 n &&& BitVec.ofInt 64 255).toNat = (n % ((2 ^ 64 : Nat) : Int)).toNat % 2 ^ 8 := by
    rw [BitVec.toNat_and, BitVec.toNat_ofInt, h1, Nat.and_two_pow_sub_one_eq_mod]
  show IntKind.u64.wrap ((BitVec.ofInt 64 n &&& BitVec.ofInt 64 255).toNat : Nat) = n % 256
  rw [key, IntKind.wrap_u64]
  omega
theorem u64_byte (n : Int) : 0 ≤ wrap64 (bits .and .u64 n 255) ∧ wrap64 (bits .and .u64 n 255) ≤ 255 := by
  rw [u64_and255, IntWalk.wrap64_in _ (by omega)]
  omega
theorem u64_pos (n : Int) : 0 ≤ IntKind.u64.wrap n := by rw [IntKind.wrap_u64]; omega

theorem own_outQ {w w' : World} {B e n size lo hi : Nat} {v : Value} {cs : List Value} (h : w.ownsRow B e size v n cs) (ho : OutOf lo hi w w') (hB : hi ≤ B := by exact Nat.le_refl _) : w'.ownsRow B e size v n cs := by
  refine ⟨h.1, ?_⟩
  rcases h.2 with h2 | ⟨g, cap, cur, rfl, hg, hgg, r⟩
  · exact .inl h2
  · exact .inr ⟨g, cap, cur, rfl, hg, (ho.block g (Array.getElem?_eq_some_iff.1 hgg).1 (by omega)).trans hgg, r⟩
set_option maxHeartbeats 2000000 in
theorem cur_next (W0 : World) (cv : Value) (bs : List Int) (b m : Nat) (w : World) (hv : BytesAt W0 cv bs) (hl : bs.length ≤ 65537) (h : CurAt W0 cv w b m) (hm : m ≤ 1000000000) :
    Calls Try.prog 84 #[.pointer (some ⟨b, 0, none⟩)] w fun e w' => ∃ x : Int, e = .returned (.int .i64 x) ∧ 0 ≤ x ∧ x ≤ 255 ∧ CurAt W0 cv w' b (m + 1) ∧ CurTo b w w' := by
  obtain ⟨h1, h2, a, s, h3, h4, h5, h6⟩ := h
  obtain ⟨⟨hbl, ao, cap, rfl, p1, p2, p3⟩, hby⟩ := hv
  unfold maxLen at p2
  have c0 := h3.cells 0; have c1 := h3.cells 1; have c2 := h3.cells 2
  have f1 := h3.free 1; have f2 := h3.free 2
  simp at c0 c1 c2
  have hbw := h3.1
  by_cases hlt : a < bs.length
  · obtain ⟨bc, off, rfl, hlt2, hcs⟩ := p3 (by omega)
    obtain ⟨k, rfl⟩ : ∃ k : Nat, a = k := ⟨a.toNat, by omega⟩
    have hk : k < bs.length := by omega
    have d0 : w.cell? ⟨bc, off + k, none⟩ = some (.int .u8 bs[k]) := (h2.cell (p := ⟨bc, off + k, none⟩) hlt2).trans (hcs.byte hk)
    have hx := hby _ (List.getElem_mem hk)
    have hle : (k : Int) + 1 ≤ (bs.length : Int) := by omega
    have hbc : bc ≠ b := by omega
    generalize bs[k] = x at *
    go_enter Try.func84, Try.ntmps84
    go_wp2_with fail
    go_quiet (fail)
    go_wp2_with fail
    go_quiet (fail)
    go_wp2_with fail
    go_quiet (fail)
    go_wp2_with fail
    go_ret
    have hf := fun (q : Nat) (sd : Int) (hsd : 0 ≤ sd) => cur_two (w1 := w.drewN q) (a' := (k : Int) + 1) (s' := sd) (m := m + 1) h1 h2 h3 ⟨rfl, rfl, rfl, rfl⟩ (by omega) (by omega) hsd
    exact ⟨_, rfl, by omega, by omega, (hf _ _ (u64_pos _)).1.drewN _, (hf _ _ (u64_pos _)).2.drewN _⟩
  · have hge : (bs.length : Int) ≤ a := by omega
    have hdec : decide (a < (bs.length : Int)) = false := decide_eq_false hlt
    have hd2 : decide (a + 1 ≤ (bs.length : Int)) = false := decide_eq_false (by omega)
    have ha9 : a + 1 ≤ 9000000000000000000 := by omega
    go_enter Try.func84, Try.ntmps84
    go_wp2_with fail
    go_quiet (fail)
    go_wp2_with fail
    go_quiet (fail)
    go_wp2_with fail
    go_ret
    have hf := fun (q : Nat) (sd : Int) (hsd : 0 ≤ sd) => cur_two (w1 := w.drewN q) (a' := a + 1) (s' := sd) (m := m + 1) h1 h2 h3 ⟨rfl, rfl, rfl, rfl⟩ (by omega) (by omega) hsd
    exact ⟨_, rfl, (u64_byte _).1, (u64_byte _).2, (hf _ _ (u64_pos _)).1.drewN _, (hf _ _ (u64_pos _)).2.drewN _⟩

/-- A choice among n. -/
theorem cur_pick (W0 : World) (cv : Value) (bs : List Int) (b m : Nat) (n : Int) (w : World) (hv : BytesAt W0 cv bs) (hl : bs.length ≤ 65537) (h : CurAt W0 cv w b m) (hm : m ≤ 900000000) (hn : n ≤ 1000000) :
    Calls Try.prog 61 #[.pointer (some ⟨b, 0, none⟩), .int .i64 n] w fun e w' => ∃ x : Int, e = .returned (.int .i64 x) ∧ 0 ≤ x ∧ (1 ≤ n → x < n) ∧ x ≤ 1000000 ∧ CurAt W0 cv w' b (m + 2) ∧ CurTo b w w' := by
  by_cases h1 : n ≤ 1
  · go_enter Try.func61, Try.ntmps61
    go_wp2_with fail
    go_ret
    exact ⟨0, rfl, by omega, by omega, by omega, h.more (by omega), OutOf.refl _ _ _⟩
  · by_cases h2 : 200 < n
    · go_enter Try.func61, Try.ntmps61
      go_wp2_with fail
      refine (cur_next W0 cv bs b m w hv hl h (by omega)).mono ?_
      rintro e w1 ⟨x, rfl, x0, x1, k1, t1⟩
      go_wp2_with fail
      refine (cur_next W0 cv bs b (m + 1) w1 hv hl k1 (by omega)).mono ?_
      rintro e w2 ⟨y, rfl, y0, y1, k2, t2⟩
      have hmod := Int.emod_nonneg (x * 256 + y) (by omega : n ≠ 0)
      have hmod2 := Int.emod_lt_of_pos (x * 256 + y) (by omega : 0 < n)
      go_wp2_with fail
      go_ret
      exact ⟨(x * 256 + y) % n, rfl, hmod, fun _ => hmod2, by omega, k2, t1.trans t2⟩
    · go_enter Try.func61, Try.ntmps61
      go_wp2_with fail
      refine (cur_next W0 cv bs b m w hv hl h (by omega)).mono ?_
      rintro e w1 ⟨x, rfl, x0, x1, k1, t1⟩
      have hmod := Int.emod_nonneg x (by omega : n ≠ 0)
      have hmod2 := Int.emod_lt_of_pos x (by omega : 0 < n)
      go_wp2_with fail
      go_ret
      exact ⟨x % n, rfl, hmod, fun _ => hmod2, by omega, k1.more (by omega), t1⟩

theorem cur_one (W0 : World) (cv : Value) (bs : List Int) (b m : Nat) (n : Int) (w : World) (hv : BytesAt W0 cv bs) (hl : bs.length ≤ 65537) (h : CurAt W0 cv w b m) (hm : m ≤ 900000000) (hn : n ≤ 1000000) :
    Calls Try.prog 60 #[.pointer (some ⟨b, 0, none⟩), .int .i64 n] w fun e w' => ∃ x : Bool, e = .returned (.bool x) ∧ CurAt W0 cv w' b (m + 2) ∧ CurTo b w w' := by
  go_enter Try.func60, Try.ntmps60
  go_wp2_with fail
  refine (cur_pick W0 cv bs b m n w hv hl h hm hn).mono ?_
  rintro e w1 ⟨x, rfl, x0, x1, x2, k1, t1⟩
  go_wp2_with fail
  go_ret
  exact ⟨_, rfl, k1, t1⟩

/-- One of some numbers. -/
theorem cur_among (W0 : World) (cv : Value) (bs : List Int) (b m : Nat) (v : Value) (xs : List Int) (w : World) (hv : BytesAt W0 cv bs) (hl : bs.length ≤ 65537) (h : CurAt W0 cv w b m) (hm : m ≤ 900000000)
    (hx : OwnInts w (b + 1) v xs) (h0 : 0 < xs.length) (hn : xs.length ≤ 1000000) :
    Calls Try.prog 75 #[.pointer (some ⟨b, 0, none⟩), v] w fun e w' => ∃ x : Int, e = .returned (.int .i64 x) ∧ x ∈ xs ∧ CurAt W0 cv w' b (m + 2) ∧ CurTo b w w' := by
  have hX := hx
  obtain ⟨ao, cap, rfl⟩ := hx.at_.form
  go_enter Try.func75, Try.ntmps75
  go_wp2_with fail
  refine (cur_pick W0 cv bs b m (xs.length : Int) w hv hl h hm (by omega)).mono ?_
  rintro e w1 ⟨x, rfl, x0, x1, x2, k1, t1⟩
  have hx1 : OwnInts w1 (b + 1) (.slice ao xs.length cap) xs := own_outQ hX t1
  obtain ⟨_, _, _, hv', q1, q2, q3⟩ := hx1.at_
  cases hv'
  unfold maxLen at q2
  obtain ⟨bc, off, rfl, hlt2, hcs⟩ := q3 h0
  have x1' := x1 (by omega)
  obtain ⟨k, rfl⟩ : ∃ k : Nat, x = k := ⟨x.toNat, by omega⟩
  have hk : k < xs.length := by omega
  have d0 := hcs.int hk
  have hmem := List.getElem_mem hk
  generalize xs[k] = y at *
  go_wp2_with fail
  go_ret
  exact ⟨y, rfl, hmem, k1, t1⟩

end Go.Proofs.Ytpjmcjdnobihbaa
