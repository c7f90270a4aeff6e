/- Contracts of the laws' helpers on slices of ints: to, eq, sz, mark, held. No conditions beyond sizes. -/
import Derived.Test.YtjijcjcfefkpbaaDoorRows
import Derived.Test.YtjijcjcfefkpbaaDoorBase
namespace Go.Proofs.YtjijcjcfefkpbaaDoor
open Go.RowKit
set_option linter.unusedVariables false
set_option linter.unusedSimpArgs false

theorem int_info : (Tryd.prog.info? 3).map (fun i => (i.zero, i.size, i.bytes)) = some (some (.int .i64 0), 1, 8) := by kernel_rfl

abbrev OwnInts (w : World) (B : Nat) (v : Value) (xs : List Int) : Prop := OwnI 3 w B v xs

theorem toIntS_c (v : Value) (xs : List Int) (w : World) (h : IntsAt w v xs) (hn : xs.length ≤ 1048576) :
    Calls Tryd.prog 23 #[v] w fun e w' => ∃ u, e = .returned u ∧ OwnInts w' w.heap.size u xs ∧ Below w.heap.size w w' := by
  obtain ⟨i0, hi, hz0, hz1, hz2⟩ := info_parts int_info
  obtain ⟨hlen, ao, cap, rfl, h1, h2, h3⟩ := h
  go_enter Tryd.func23, Tryd.ntmps23
  go_wp2_with (at_make; refine wpList_make_full _ rfl _ _ 22 rfl w.heap.size 3 i0 (.int .i64 0) 1 Tryd.underlying22 hi hz0 hz1 _ _ _ _ xs.length rfl rfl rfl rfl ?c1 ?c2 ?c3 ?_)
  case c1 => rw [hz2]; omega
  case c2 => omega
  case c3 => omega
  intro w1 hown hg
  simp only [toList_madeCells_one, Nat.mul_one] at hown
  have hb : Below w.heap.size w w1 := (Below.refl _ _).grown hg (Nat.le_refl _) (by simp)
  go_wp2
  go_loopw [4] (fun i wr => ∃ k : Nat, k ≤ xs.length ∧ i = .int .i64 k ∧ wr.ownsRow w.heap.size 3 1 (.slice (some ⟨w.heap.size, 0, none⟩) xs.length xs.length) xs.length (ints (xs.take k ++ List.replicate (xs.length - k) 0)) ∧ Below w.heap.size w wr) (fun i _ => xs.length - (intOf i).toNat)
  case atStart => exact ⟨0, by omega, rfl, by simpa [ints] using hown, hb⟩
  case round =>
    obtain ⟨k, hk, rfl, hown, hb⟩ := hrel
    by_cases hlt : k < xs.length
    · obtain ⟨b, off, rfl, h4, h5⟩ := h3 (by omega)
      have hc : wr.cell? ⟨b, off + k, none⟩ = some (.int .i64 xs[k]) := by rw [hb.cell (p := ⟨b, off + k, none⟩) h4, h5.int hlt]
      have hf2 := hown.frozenAt k
      have hst := (hown.stored k (.int .i64 xs[k])).1
      obtain ⟨y, hy⟩ : ∃ y, wr.cell? ⟨w.heap.size, k, none⟩ = some y := by
        rw [hown.cellAt k (by omega)]; exact ⟨_, List.getElem?_eq_getElem (by simp; omega)⟩
      rw [fill_step xs k hlt] at hst
      obtain ⟨x, hx⟩ : ∃ x, xs[k] = x := ⟨_, rfl⟩
      rw [hx] at hc hst
      clear hx
      go_wp2
      go_roundw
      case rel => exact ⟨k + 1, by omega, by go_num, hst, hb.setCell (by simp) _⟩
      case measure => simp [intOf]; omega
    · have hkn : k = xs.length := by omega
      have hown' : OwnInts wr w.heap.size (.slice (some ⟨w.heap.size, 0, none⟩) xs.length xs.length) xs := by simpa [hkn, OwnI] using hown
      clear hkn
      go_wp2
      go_ret
      exact ⟨_, rfl, hown', hb⟩

theorem eqIntS_c (v u : Value) (xs ys : List Int) (w : World) (h : IntsAt w v xs) (g : IntsAt w u ys) :
    Calls Tryd.prog 27 #[v, u] w fun e w' => e = .returned (.bool (decide (xs = ys))) ∧ Below w.heap.size w w' := by
  obtain ⟨_, ao, cap, rfl, h1, h2, h3⟩ := h
  obtain ⟨_, ao', cap', rfl, g1, g2, g3⟩ := g
  unfold maxLen at h2 g2
  by_cases hl : xs.length = ys.length
  · have hlb : (((xs.length : Nat) : Int) != ((ys.length : Nat) : Int)) = false := by simp [hl]
    have HL := Lib.hid hl; clear hl
    go_enter Tryd.func27, Tryd.ntmps27
    go_wp2
    go_loopw [5] (fun i wr => ∃ k : Nat, k ≤ xs.length ∧ i = .int .i64 k ∧ Hid (decide (xs = ys) = decide (xs.drop k = ys.drop k)) ∧ Below w.heap.size w wr) (fun i _ => xs.length - (intOf i).toNat)
    case atStart => exact ⟨0, by omega, rfl, by simp [Hid], Below.refl _ _⟩
    case round =>
      obtain ⟨k, hk, rfl, hd, hb⟩ := hrel
      by_cases hlt : k < xs.length
      · have hlt' : k < ys.length := by have := HL.out; omega
        obtain ⟨b, off, rfl, h4, h5⟩ := h3 (by omega)
        obtain ⟨b', off', rfl, g4, g5⟩ := g3 (by omega)
        have hc : wr.cell? ⟨b, off + k, none⟩ = some (.int .i64 xs[k]) := by rw [hb.cell (p := ⟨b, off + k, none⟩) h4, h5.int hlt]
        have hc' : wr.cell? ⟨b', off' + k, none⟩ = some (.int .i64 ys[k]) := by rw [hb.cell (p := ⟨b', off' + k, none⟩) g4, g5.int hlt']
        have hd' := hd.out
        rw [drop_at hlt, drop_at hlt'] at hd'
        simp only [List.cons.injEq] at hd'
        by_cases hxy : xs[k] = ys[k]
        · have hb1 : (xs[k] != ys[k]) = false := by simp [hxy]
          have HD : Hid (decide (xs = ys) = decide (xs.drop (k + 1) = ys.drop (k + 1))) := by simpa [Hid, hxy] using hd'
          generalize xs[k] = x at *
          generalize ys[k] = y at *
          clear hd hd' hxy
          go_wp2
          go_quiet (fail)
          go_wp2
          go_roundw
          case rel => exact ⟨k + 1, by omega, by go_num, HD, Below.drewN' hb _⟩
          case measure => simp [intOf]; omega
        · have hb1 : (xs[k] != ys[k]) = true := by simp [hxy]
          have HD : Hid (decide (xs = ys) = false) := by simpa [Hid, hxy] using hd'
          generalize xs[k] = x at *
          generalize ys[k] = y at *
          clear hd hd' hxy
          go_wp2
          go_quiet (fail)
          go_wp2
          go_ret
          exact ⟨ret_bool HD.out.symm, Below.drewN' hb _⟩
      · have HD : Hid (decide (xs = ys) = true) := by
          have hd' := hd.out
          rw [List.drop_of_length_le (by omega), List.drop_of_length_le (by have := HL.out; omega)] at hd'
          simpa [Hid] using hd'
        clear hd
        go_wp2
        go_ret
        exact ⟨ret_bool HD.out.symm, hb⟩
  · have hlb : (((xs.length : Nat) : Int) != ((ys.length : Nat) : Int)) = true := by simp; omega
    have HD : Hid (decide (xs = ys) = false) := by
      simp only [Hid, decide_eq_false_iff_not]; rintro rfl; exact hl rfl
    have HL := Lib.hid hl; clear hl
    go_enter Tryd.func27, Tryd.ntmps27
    go_wp2
    go_ret
    exact ⟨ret_bool HD.out.symm, Below.refl _ _⟩

theorem szIntS_c (v : Value) (xs : List Int) (left : Int) (w : World) (h : IntsAt w v xs) (hl : 0 ≤ left) (hl2 : left ≤ 1048576) :
    Calls Tryd.prog 19 #[v, .int .i64 left] w fun e w' => e = .returned (.int .i64 (szSub left xs.length)) ∧ Below w.heap.size w w' := by
  obtain ⟨_, ao, cap, rfl, h1, h2, h3⟩ := h
  unfold maxLen at h2
  go_enter Tryd.func19, Tryd.ntmps19
  go_wp2
  all_goals go_ret
  all_goals (refine ⟨ret_int ?_, Below.refl _ _⟩; first | rfl | (unfold szSub; rw [if_pos (by omega)]; done) | (unfold szSub; rw [if_neg (by omega)]; done))

/-- The numbers from k on, n of them. -/
def upFrom (k : Int) (n : Nat) : List Int := (List.range n).map fun (i : Nat) => k + (i : Int)
@[simp] theorem upFrom_length (k : Int) (n : Nat) : (upFrom k n).length = n := by simp [upFrom]
theorem upFrom_get (k : Int) (n i : Nat) (h : i < n) : (upFrom k n)[i]'(by simpa using h) = k + i := by simp [upFrom]

end Go.Proofs.YtjijcjcfefkpbaaDoor
