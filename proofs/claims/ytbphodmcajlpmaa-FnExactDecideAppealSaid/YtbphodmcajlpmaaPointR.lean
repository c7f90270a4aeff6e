/- Marks on slices of points within bounds. No conditions beyond sizes. -/
import Derived.Test.YtbphodmcajlpmaaPointS
import Derived.Test.YtbphodmcajlpmaaFlat
namespace Go.Proofs.Ytbphodmcajlpmaa
open Go.RowKit
set_option linter.unusedVariables false
set_option linter.unusedSimpArgs false

/-- The marks of one point from x on. -/
def markP (x : Int) : DPoint := ⟨x, x + 1, (x + 1 + 1) % 3 == 0, x + 1 + 1 + 1, x + 1 + 1 + 1 + 1, x + 1 + 1 + 1 + 1 + 1, x + 1 + 1 + 1 + 1 + 1 + 1⟩
def mkPts (k : Int) (n : Nat) : List DPoint := (List.range n).map fun (i : Nat) => markP (k + i * 7)
@[simp] theorem mkPts_length (k : Int) (n : Nat) : (mkPts k n).length = n := by simp [mkPts]
theorem mkPts_succ (k : Int) (n : Nat) : mkPts k (n + 1) = mkPts k n ++ [markP (k + n * 7)] := by simp [mkPts, List.range_succ]
theorem mkPts_get (k : Int) (n i : Nat) (h : i < n) : (mkPts k n)[i]'(by simpa using h) = markP (k + i * 7) := by simp [mkPts]

def OwnRP (w : World) (lo hi : Nat) (v : Value) (xs : List DPoint) : Prop := OwnIn 73 7 lo hi w v xs.length (pcs xs)
theorem OwnRP.keep {lo hi : Nat} {w w' : World} {v : Value} {xs : List DPoint} (h : OwnRP w lo hi v xs) (hs : SameIn lo hi w w') : OwnRP w' lo hi v xs := OwnIn.keep h hs
theorem OwnRP.at_ {lo hi : Nat} {w : World} {v : Value} {xs : List DPoint} (h : OwnRP w lo hi v xs) : PointsAt w v xs := OwnIn.at_ h
theorem OwnPoints.toR {B : Nat} {w : World} {v : Value} {xs : List DPoint} (h : OwnPoints w B v xs) : OwnRP w B w.heap.size v xs := OwnIn.of h
theorem OwnRP.hiLe {lo hi : Nat} {w : World} {v : Value} {xs : List DPoint} (h : OwnRP w lo hi v xs) : hi ≤ w.heap.size := h.2.2

set_option maxHeartbeats 1000000 in
theorem markPointS_c (B : Nat) (v : Value) (n : Nat) (cs : List Value) (k : Int) (w : World) (h : w.ownsRow B 73 7 v n cs) (hk : 0 ≤ k) (hk2 : k + n * 7 ≤ 9000000000000000000) :
    Calls Try.prog 14 #[v, .int .i64 k] w fun e w' => e = .returned (.int .i64 (k + n * 7)) ∧ w'.ownsRow B 73 7 v n (pcs (mkPts k n)) ∧ w.grownBy w' v.ownBlock := by
  rcases h.2 with ⟨rfl, rfl⟩ | ⟨g, cap, cur, rfl, hB, hh, hc1, hc2, hc3, hc4⟩
  · go_enter Try.func14, Try.ntmps14
    go_wp2
    refine wp_loop_rounds 1 ?_; rw [rounds_succ]; go_wp2
    go_ret
    exact ⟨ret_int (by simp), by simpa [mkPts, pcs] using World.ownsRow_nil w B 73 7, World.grownBy.refl _ _⟩
  · have hl := h.1
    unfold maxLen at hc2
    go_enter Try.func14, Try.ntmps14
    go_wp2_with fail
    go_loopw [1, 5] (fun kk i wr => ∃ j : Nat, j ≤ n ∧ i = .int .i64 j ∧ kk = .int .i64 (k + j * 7) ∧ wr.ownsRow B 73 7 (.slice (some ⟨g, 0, none⟩) n cap) n (pcs (mkPts k j) ++ cs.drop (j * 7)) ∧ w.grownBy wr (some g)) (fun _ i _ => n - (intOf i).toNat)
    case atStart => exact ⟨0, by omega, rfl, by simp, by simpa [pcs, mkPts] using h, World.grownBy.refl _ _⟩
    case round =>
      obtain ⟨j, hj, rfl, rfl, hown, hg⟩ := hrel
      by_cases hlt : j < n
      · have hf : ∀ i, wr.frozen? ⟨g, i, none⟩ = false := hown.frozenAt
        have hex : ∀ i, i < 7 → ∃ y, wr.cell? ⟨g, j * 7 + i, none⟩ = some y := fun i hi => by
          rw [hown.cellAt (j * 7 + i) (by omega)]
          exact ⟨_, List.getElem?_eq_getElem (by rw [hown.1]; omega)⟩
        obtain ⟨y0, e0⟩ := hex 0 (by omega)
        obtain ⟨y1, e1⟩ := hex 1 (by omega)
        obtain ⟨y2, e2⟩ := hex 2 (by omega)
        obtain ⟨y3, e3⟩ := hex 3 (by omega)
        obtain ⟨y4, e4⟩ := hex 4 (by omega)
        obtain ⟨y5, e5⟩ := hex 5 (by omega)
        obtain ⟨y6, e6⟩ := hex 6 (by omega)
        have hst := own_flat DPoint.cs 7 (fun _ => rfl) (markP (k + j * 7)) (mkPts_length k j) hlt (by omega) hown
        rw [← mkPts_succ] at hst
        obtain ⟨x, hx⟩ : ∃ x : Int, x = k + j * 7 := ⟨_, rfl⟩
        have hx1 : 0 ≤ x := by omega
        have hx2 : x + 7 ≤ 9000000000000000000 := by omega
        have hxe : x + 1 + 1 + 1 + 1 + 1 + 1 + 1 = k + ((j + 1 : Nat) : Int) * 7 := by omega
        rw [← hx] at hst ⊢
        have HX := Lib.hid hx; clear hx
        have HXE := Lib.hid hxe; clear hxe
        have hgg : w.grownBy _ (some g) := hg.trans hst.2
        have hst := hst.1
        simp only [World.setCells, DPoint.cs, markP, Nat.add_assoc, Nat.reduceAdd, Nat.add_zero] at hst hgg e0
        clear hex
        go_wp2_with fail
        go_roundw
        case rel => exact ⟨j + 1, by omega, by go_num, by rw [HXE.out], by simpa only [pcs, Nat.add_assoc, Nat.reduceAdd] using hst, by simpa only [Nat.add_assoc, Nat.reduceAdd] using hgg⟩
        case measure => simp [intOf]; omega
      · have hjn : j = n := by omega
        have hown' : wr.ownsRow B 73 7 (.slice (some ⟨g, 0, none⟩) n cap) n (pcs (mkPts k n)) := by
          rw [hjn, List.drop_of_length_le (by omega), List.append_nil] at hown; exact hown
        have HJ := Lib.hid hjn; clear hjn
        go_wp2_with fail
        go_ret
        exact ⟨ret_int (by rw [HJ.out]), hown', hg⟩

theorem markPointS_r (v : Value) (xs : List DPoint) (lo hi : Nat) (k : Int) (w : World) (h : OwnRP w lo hi v xs) (hk : 0 ≤ k) (hk2 : k + xs.length * 7 ≤ 9000000000000000000) :
    Calls Try.prog 14 #[v, .int .i64 k] w fun e w' => e = .returned (.int .i64 (k + xs.length * 7)) ∧ OwnRP w' lo hi v (mkPts k xs.length) ∧ OutOf lo hi w w' :=
  (markPointS_c lo v xs.length (pcs xs) k w h.1 hk hk2).mono fun e w' ⟨he, ho, hg⟩ =>
    ⟨he, ⟨by simpa using ho, h.2.1, Nat.le_trans h.2.2 hg.size⟩, OutOf.of_grown hg fun b hb => ⟨(h.1.lt b hb).1, h.2.1 b hb⟩⟩

set_option maxHeartbeats 1000000 in
theorem heldPointS_n (v : Value) (xs : List DPoint) (k : Int) (w : World) (h : PointsAt w v (mkPts k xs.length)) (hk : 0 ≤ k) (hk2 : k + xs.length * 7 ≤ 9000000000000000000) :
    Calls Try.prog 15 #[v, .int .i64 k] w fun e w' => e = .returned (.int .i64 (k + xs.length * 7)) ∧ Below w.heap.size w w' := by
  obtain ⟨_, ao, cap, rfl, h1, h2, h3⟩ := h
  rw [mkPts_length] at h1 h3
  unfold maxLen at h2
  simp only [mkPts_length]
  generalize xs.length = n at *
  go_enter Try.func15, Try.ntmps15
  go_wp2_with fail
  go_loopw [1, 5] (fun kk i wr => ∃ j : Nat, j ≤ n ∧ i = .int .i64 j ∧ kk = .int .i64 (k + j * 7) ∧ Below w.heap.size w wr) (fun _ i _ => n - (intOf i).toNat)
  case atStart => exact ⟨0, by omega, rfl, by simp, Below.refl _ _⟩
  case round =>
    obtain ⟨j, hj, rfl, rfl, hb⟩ := hrel
    by_cases hlt : j < n
    · obtain ⟨b, off, rfl, h4, h5⟩ := h3 (by omega)
      have hcc := (CellsAt.below h5 hb h4).point (by simpa using hlt : j < (mkPts k n).length)
      rw [mkPts_get _ _ _ hlt] at hcc
      obtain ⟨x, hx⟩ : ∃ x : Int, x = k + j * 7 := ⟨_, rfl⟩
      have hx1 : 0 ≤ x := by omega
      have hx2 : x + 7 ≤ 9000000000000000000 := by omega
      have hxe : x + 1 + 1 + 1 + 1 + 1 + 1 + 1 = k + ((j + 1 : Nat) : Int) * 7 := by omega
      rw [← hx] at hcc ⊢
      have HX := Lib.hid hx; clear hx
      have HXE := Lib.hid hxe; clear hxe
      simp only [markP] at hcc
      obtain ⟨c0, c1, c2, c3, c4, c5, c6⟩ := hcc
      go_wp2_with fail
      go_roundw
      case rel => exact ⟨j + 1, by omega, by go_num, by rw [HXE.out], hb⟩
      case measure => simp [intOf]; omega
    · have hjn : j = n := by omega
      have HJ := Lib.hid hjn; clear hjn
      go_wp2_with fail
      go_ret
      exact ⟨ret_int (by rw [HJ.out]), hb⟩

end Go.Proofs.Ytbphodmcajlpmaa
