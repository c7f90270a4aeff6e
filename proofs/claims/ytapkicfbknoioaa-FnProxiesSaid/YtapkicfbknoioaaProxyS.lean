/- Contracts of the laws' helpers on slices of proxies: to, eq, sz, mark, held. No conditions beyond sizes. -/
import Derived.Test.YtapkicfbknoioaaIntS
import Derived.Test.YtapkicfbknoioaaSmall
import Derived.Test.YtapkicfbknoioaaFlat
import Derived.Test.YtapkicfbknoioaaInts2
namespace Go.Proofs.Ytapkicfbknoioaa
open Go.RowKit
set_option linter.unusedVariables false
set_option linter.unusedSimpArgs false

structure DProxy where
  fr : Int
  to : Int
deriving DecidableEq

abbrev vProxy (p : DProxy) : Value := .agg #[.int .i64 p.fr, .int .i64 p.to]
def DProxy.cs (p : DProxy) : List Value := [.int .i64 p.fr, .int .i64 p.to]
def qcs (xs : List DProxy) : List Value := xs.flatMap DProxy.cs
theorem qcs_length (xs : List DProxy) : (qcs xs).length = xs.length * 2 := flatm_len DProxy.cs 2 (fun _ => rfl) xs
theorem qcs_one (xs : List DProxy) : ∀ u ∈ qcs xs, u.oneCell' = true := by
  intro u hu
  simp only [qcs, List.mem_flatMap] at hu
  obtain ⟨p, _, hp⟩ := hu
  simp only [DProxy.cs, List.mem_cons, List.not_mem_nil, or_false] at hp
  rcases hp with rfl | rfl <;> rfl

def ProxsAt (w : World) (v : Value) (xs : List DProxy) : Prop := RowAt w v xs.length 2 (qcs xs)
theorem ProxsAt.below {w w' : World} {v : Value} {xs : List DProxy} (h : ProxsAt w v xs) (hb : Below w.heap.size w w') : ProxsAt w' v xs := RowAt.below h hb
theorem ProxsAt.form {w : World} {v : Value} {xs : List DProxy} (h : ProxsAt w v xs) : ∃ ao cap, v = .slice ao xs.length cap := RowAt.form h
theorem ProxsAt.alloc {w : World} {v : Value} {xs : List DProxy} (h : ProxsAt w v xs) (o : Obj) : ProxsAt (w.alloc o) v xs := RowAt.alloc h o

/-- The cells of one proxy. -/
theorem CellsAt.prox {w : World} {b off k : Nat} {xs : List DProxy} (h : CellsAt w b off (qcs xs)) (hk : k < xs.length) :
    w.cell? ⟨b, off + k * 2, none⟩ = some (.int .i64 xs[k].fr) ∧ w.cell? ⟨b, off + k * 2 + 1, none⟩ = some (.int .i64 xs[k].to) := by
  have H := CellsAt.flat DProxy.cs 2 (fun _ => rfl) h hk
  exact ⟨by simpa [DProxy.cs] using H 0 (by omega), by simpa [DProxy.cs] using H 1 (by omega)⟩

theorem toProxy_c (p : DProxy) (w : World) :
    Calls Try.prog 76 #[vProxy p] w fun e w' => e = .returned (vProxy p) ∧ Below w.heap.size w w' := by
  obtain ⟨fr, to⟩ := p
  go_enter Try.func76, Try.ntmps76
  go_wp2
  go_returns
  exact ⟨rfl, by go_grown⟩

theorem proxy_info : (Try.prog.info? 61).map (fun i => (i.zero, i.size, i.bytes)) = some (some (vProxy ⟨0, 0⟩), 2, 16) := by kernel_rfl
abbrev OwnProxs (w : World) (B : Nat) (v : Value) (xs : List DProxy) : Prop := w.ownsRow B 61 2 v xs.length (qcs xs)
theorem OwnProxs.at_ {w : World} {B : Nat} {v : Value} {xs : List DProxy} (h : OwnProxs w B v xs) : ProxsAt w v xs := rowAt_of_own h

set_option maxHeartbeats 1000000 in
theorem toProxyS_c (v : Value) (xs : List DProxy) (w : World) (h : ProxsAt w v xs) (hn : xs.length ≤ 1048576) :
    Calls Try.prog 46 #[v] w fun e w' => ∃ u, e = .returned u ∧ OwnProxs w' w.heap.size u xs ∧ Below w.heap.size w w' := by
  obtain ⟨i0, hi, hz0, hz1, hz2⟩ := info_parts proxy_info
  obtain ⟨hlen, ao, cap, rfl, h1, h2, h3⟩ := h
  go_enter Try.func46, Try.ntmps46
  go_wp2_with (at_make; refine wpList_make_full _ rfl _ _ 27 rfl w.heap.size 61 i0 (vProxy ⟨0, 0⟩) 2 Try.underlying27 hi hz0 hz1 _ _ _ _ xs.length rfl rfl rfl rfl ?c1 ?c2 ?c3 ?_)
  case c1 => rw [hz2]; omega
  case c2 => omega
  case c3 => omega
  intro w1 hown hg
  have hb : Below w.heap.size w w1 := (Below.refl _ _).grown hg (Nat.le_refl _) (by simp)
  obtain ⟨rest, hrest⟩ : ∃ rest, w1.ownsRow w.heap.size 61 2 (.slice (some ⟨w.heap.size, 0, none⟩) xs.length xs.length) xs.length rest := ⟨_, hown⟩
  clear hown
  go_wp2_with fail
  go_loopw [4] (fun i wr => ∃ k : Nat, k ≤ xs.length ∧ i = .int .i64 k ∧ wr.ownsRow w.heap.size 61 2 (.slice (some ⟨w.heap.size, 0, none⟩) xs.length xs.length) xs.length (qcs (xs.take k) ++ rest.drop (k * 2)) ∧ Below w.heap.size w wr) (fun i _ => xs.length - (intOf i).toNat)
  case atStart => exact ⟨0, by omega, rfl, by simpa [qcs] using hrest, hb⟩
  case round =>
    obtain ⟨k, hk, rfl, hown, hb⟩ := hrel
    by_cases hlt : k < xs.length
    · obtain ⟨b, off, rfl, h4, h5⟩ := h3 (by omega)
      have hcc := (CellsAt.below h5 hb h4).prox hlt
      have hput : ∀ w2 : World, w2.ownsRow w.heap.size 61 2 (.slice (some ⟨w.heap.size, 0, none⟩) xs.length xs.length) xs.length (qcs (xs.take k) ++ rest.drop (k * 2)) → (w2.setCells w.heap.size (k * 2) xs[k].cs).ownsRow w.heap.size 61 2 (.slice (some ⟨w.heap.size, 0, none⟩) xs.length xs.length) xs.length (qcs (xs.take (k + 1)) ++ rest.drop ((k + 1) * 2)) := fun w2 h => by
        rw [take_at hlt]
        exact (own_flat DProxy.cs 2 (fun _ => rfl) xs[k] (by simp; omega) hlt hrest.1 h).1
      have HPUT := Lib.hid hput; clear hput
      generalize xs[k] = p at *
      obtain ⟨fr, to⟩ := p
      obtain ⟨c0, c1⟩ := hcc
      go_wp2_with fail
      refine (toProxy_c ⟨fr, to⟩ _).mono ?_
      rintro e w2 ⟨rfl, hb2⟩
      have hown2 := own_below hown hb2
      have hb' := below_step hb hb2
      have hf : ∀ j, w2.frozen? ⟨w.heap.size, j, none⟩ = false := hown2.frozenAt
      have hex : ∀ j, j < 2 → ∃ y, w2.cell? ⟨w.heap.size, k * 2 + j, none⟩ = some y := fun j hj => by
        rw [hown2.cellAt (k * 2 + j) (by omega)]
        exact ⟨_, List.getElem?_eq_getElem (by rw [hown2.1]; omega)⟩
      obtain ⟨y0, e0⟩ := hex 0 (by omega)
      obtain ⟨y1, e1⟩ := hex 1 (by omega)
      have hst := HPUT.out w2 hown2
      simp only [World.setCells, DProxy.cs, Nat.add_assoc, Nat.reduceAdd, Nat.add_zero] at hst e0
      clear c0 c1 hex HPUT
      go_wp2_with fail
      go_roundw
      case rel => exact ⟨k + 1, by omega, by go_num, hst, by go_grown⟩
      case measure => simp [intOf]; omega
    · have hkn : k = xs.length := by omega
      have hown' : OwnProxs wr w.heap.size (.slice (some ⟨w.heap.size, 0, none⟩) xs.length xs.length) xs := by
        have hd : rest.drop (k * 2) = [] := List.drop_of_length_le (by rw [hrest.1]; omega)
        rw [hd, hkn, List.take_length, List.append_nil] at hown
        exact hown
      clear hkn
      go_wp2_with fail
      go_ret
      exact ⟨_, rfl, hown', hb⟩

set_option maxHeartbeats 1000000 in
theorem eqProxy_c (p q : DProxy) (w : World) :
    Calls Try.prog 81 #[vProxy p, vProxy q] w fun e w' => e = .returned (.bool (decide (p = q))) ∧ Below w.heap.size w w' := by
  obtain ⟨fr, to⟩ := p
  obtain ⟨fr', to'⟩ := q
  go_enter Try.func81, Try.ntmps81
  go_wp2
  all_goals go_ret
  all_goals refine ⟨ret_bool ?_, by go_grown⟩
  all_goals simp_all

theorem szProxyS_e (v : Value) (xs : List DProxy) (left : Int) (w : World) (h : ProxsAt w v xs) (hl : 0 ≤ left) (hl2 : left ≤ 1048576) :
    Calls Try.prog 41 #[v, .int .i64 left] w fun e w' => e = .returned (.int .i64 (szSub left xs.length)) ∧ Below w.heap.size w w' := by
  obtain ⟨_, ao, cap, rfl, h1, h2, h3⟩ := h
  unfold maxLen at h2
  go_enter Try.func41, Try.ntmps41
  go_wp2
  all_goals go_ret
  all_goals (refine ⟨ret_int ?_, Below.refl _ _⟩; first | rfl | (unfold szSub; rw [if_pos (by omega)]; done) | (unfold szSub; rw [if_neg (by omega)]; done))

theorem szProxyS_c (v : Value) (xs : List DProxy) (left : Int) (w : World) (h : ProxsAt w v xs) (hl : 0 ≤ left) (hl2 : left ≤ 1048576) :
    Calls Try.prog 41 #[v, .int .i64 left] w fun e w' => ∃ r : Int, e = .returned (.int .i64 r) ∧ (r < 0 ∨ (0 ≤ r ∧ r ≤ 1048576 ∧ xs.length ≤ 1048576)) ∧ Below w.heap.size w w' :=
  (szProxyS_e v xs left w h hl hl2).mono fun e w' ⟨he, hb⟩ => ⟨_, he, by unfold szSub; split <;> omega, hb⟩

set_option maxHeartbeats 1000000 in
theorem eqProxyS_c (v u : Value) (xs ys : List DProxy) (w : World) (h : ProxsAt w v xs) (g : ProxsAt w u ys) :
    Calls Try.prog 51 #[v, u] w fun e w' => e = .returned (.bool (decide (xs = ys))) ∧ Below w.heap.size w w' := by
  obtain ⟨_, ao, cap, rfl, h1, h2, h3⟩ := h
  obtain ⟨_, ao', cap', rfl, g1, g2, g3⟩ := g
  unfold maxLen at h2 g2
  by_cases hl : xs.length = ys.length
  · have hlb : (((xs.length : Nat) : Int) != ((ys.length : Nat) : Int)) = false := by simp [hl]
    have HL := Lib.hid hl; clear hl
    go_enter Try.func51, Try.ntmps51
    go_wp2_with fail
    go_loopw [5] (fun i wr => ∃ k : Nat, k ≤ xs.length ∧ i = .int .i64 k ∧ Hid (decide (xs = ys) = decide (xs.drop k = ys.drop k)) ∧ Below w.heap.size w wr) (fun i _ => xs.length - (intOf i).toNat)
    case atStart => exact ⟨0, by omega, rfl, by simp [Hid], Below.refl _ _⟩
    case round =>
      obtain ⟨k, hk, rfl, hd, hb⟩ := hrel
      by_cases hlt : k < xs.length
      · have hlt' : k < ys.length := by have := HL.out; omega
        obtain ⟨b, off, rfl, h4, h5⟩ := h3 (by omega)
        obtain ⟨b', off', rfl, g4, g5⟩ := g3 (by omega)
        have hcc := (CellsAt.below h5 hb h4).prox hlt
        have hcd := (CellsAt.below g5 hb g4).prox hlt'
        have hd' := hd.out
        rw [drop_at hlt, drop_at hlt'] at hd'
        simp only [List.cons.injEq] at hd'
        by_cases hxy : xs[k] = ys[k]
        · have HD : Hid (decide (xs = ys) = decide (xs.drop (k + 1) = ys.drop (k + 1))) := by simpa [Hid, hxy] using hd'
          have HX : Hid (decide (xs[k] = ys[k]) = true) := by simp [Hid, hxy]
          clear hd hd' hxy
          generalize xs[k] = p at *
          generalize ys[k] = q at *
          have HQ := eqProxy_c p q
          rw [HX.out] at HQ
          obtain ⟨fr, to⟩ := p
          obtain ⟨fr', to'⟩ := q
          obtain ⟨c0, c1⟩ := hcc
          obtain ⟨d0, d1⟩ := hcd
          have HQ' := Lib.hid HQ; clear HQ HX
          have hbw : b < wr.heap.size := by have := hb.size; omega
          have hbw' : b' < wr.heap.size := by have := hb.size; omega
          have r0 := below_cell hbw c0; have r1 := below_cell hbw c1
          have s0 := below_cell hbw' d0; have s1 := below_cell hbw' d1
          go_wp2_with fail
          go_region_held3 (fun w' => Below wr.heap.size wr w') (first | assumption | (exact Below.drew (Below.refl _ _)))
            (first
              | (go_at_call 81; refine (HQ'.out _).mono ?_; rintro e w2 ⟨rfl, hb2⟩; have hbn := below_step (W := wr) (by assumption) hb2))
          go_wp2_with fail
          go_roundw
          case rel => exact ⟨k + 1, by omega, by go_num, HD, below_step hb hbn⟩
          case measure => simp [intOf]; omega
        · have HD : Hid (decide (xs = ys) = false) := by simpa [Hid, hxy] using hd'
          have HX : Hid (decide (xs[k] = ys[k]) = false) := by simp [Hid, hxy]
          clear hd hd' hxy
          generalize xs[k] = p at *
          generalize ys[k] = q at *
          have HQ := eqProxy_c p q
          rw [HX.out] at HQ
          obtain ⟨fr, to⟩ := p
          obtain ⟨fr', to'⟩ := q
          obtain ⟨c0, c1⟩ := hcc
          obtain ⟨d0, d1⟩ := hcd
          have HQ' := Lib.hid HQ; clear HQ HX
          have hbw : b < wr.heap.size := by have := hb.size; omega
          have hbw' : b' < wr.heap.size := by have := hb.size; omega
          have r0 := below_cell hbw c0; have r1 := below_cell hbw c1
          have s0 := below_cell hbw' d0; have s1 := below_cell hbw' d1
          go_wp2_with fail
          go_region_held3 (fun w' => Below wr.heap.size wr w') (first | assumption | (exact Below.drew (Below.refl _ _)))
            (first
              | (go_at_call 81; refine (HQ'.out _).mono ?_; rintro e w2 ⟨rfl, hb2⟩; have hbn := below_step (W := wr) (by assumption) hb2))
          go_wp2_with fail
          go_ret
          exact ⟨ret_bool HD.out.symm, below_step hb hbn⟩
      · have HD : Hid (decide (xs = ys) = true) := by
          have hd' := hd.out
          rw [List.drop_of_length_le (by omega), List.drop_of_length_le (by have := HL.out; omega)] at hd'
          simpa [Hid] using hd'
        clear hd
        go_wp2_with fail
        go_ret
        exact ⟨ret_bool HD.out.symm, hb⟩
  · have hlb : (((xs.length : Nat) : Int) != ((ys.length : Nat) : Int)) = true := by simp; omega
    have HD : Hid (decide (xs = ys) = false) := by
      simp only [Hid, decide_eq_false_iff_not]; rintro rfl; exact hl rfl
    have HL := Lib.hid hl; clear hl
    go_enter Try.func51, Try.ntmps51
    go_wp2_with fail
    go_ret
    exact ⟨ret_bool HD.out.symm, Below.refl _ _⟩

/-- The marks of one point from x on. -/
def markQ (x : Int) : DProxy := ⟨x, x + 1⟩
def mkQs (k : Int) (n : Nat) : List DProxy := (List.range n).map fun (i : Nat) => markQ (k + i * 2)
@[simp] theorem mkQs_length (k : Int) (n : Nat) : (mkQs k n).length = n := by simp [mkQs]
theorem mkQs_succ (k : Int) (n : Nat) : mkQs k (n + 1) = mkQs k n ++ [markQ (k + n * 2)] := by simp [mkQs, List.range_succ]
theorem mkQs_get (k : Int) (n i : Nat) (h : i < n) : (mkQs k n)[i]'(by simpa using h) = markQ (k + i * 2) := by simp [mkQs]

def OwnRQ (w : World) (lo hi : Nat) (v : Value) (xs : List DProxy) : Prop := OwnIn 61 2 lo hi w v xs.length (qcs xs)
theorem OwnRQ.keep {lo hi : Nat} {w w' : World} {v : Value} {xs : List DProxy} (h : OwnRQ w lo hi v xs) (hs : SameIn lo hi w w') : OwnRQ w' lo hi v xs := OwnIn.keep h hs
theorem OwnRQ.at_ {lo hi : Nat} {w : World} {v : Value} {xs : List DProxy} (h : OwnRQ w lo hi v xs) : ProxsAt w v xs := OwnIn.at_ h
theorem OwnProxs.toR {B : Nat} {w : World} {v : Value} {xs : List DProxy} (h : OwnProxs w B v xs) : OwnRQ w B w.heap.size v xs := OwnIn.of h
theorem OwnRQ.hiLe {lo hi : Nat} {w : World} {v : Value} {xs : List DProxy} (h : OwnRQ w lo hi v xs) : hi ≤ w.heap.size := h.2.2

set_option maxHeartbeats 1000000 in
theorem markProxyS_c (B : Nat) (v : Value) (n : Nat) (cs : List Value) (k : Int) (w : World) (h : w.ownsRow B 61 2 v n cs) (hk : 0 ≤ k) (hk2 : k + n * 2 ≤ 9000000000000000000) :
    Calls Try.prog 53 #[v, .int .i64 k] w fun e w' => e = .returned (.int .i64 (k + n * 2)) ∧ w'.ownsRow B 61 2 v n (qcs (mkQs k n)) ∧ w.grownBy w' v.ownBlock := by
  rcases h.2 with ⟨rfl, rfl⟩ | ⟨g, cap, cur, rfl, hB, hh, hc1, hc2, hc3, hc4⟩
  · go_enter Try.func53, Try.ntmps53
    go_wp2
    refine wp_loop_rounds 1 ?_; rw [rounds_succ]; go_wp2
    go_ret
    exact ⟨ret_int (by simp), by simpa [mkQs, qcs] using World.ownsRow_nil w B 61 2, World.grownBy.refl _ _⟩
  · have hl := h.1
    unfold maxLen at hc2
    go_enter Try.func53, Try.ntmps53
    go_wp2_with fail
    go_loopw [1, 5] (fun kk i wr => ∃ j : Nat, j ≤ n ∧ i = .int .i64 j ∧ kk = .int .i64 (k + j * 2) ∧ wr.ownsRow B 61 2 (.slice (some ⟨g, 0, none⟩) n cap) n (qcs (mkQs k j) ++ cs.drop (j * 2)) ∧ w.grownBy wr (some g)) (fun _ i _ => n - (intOf i).toNat)
    case atStart => exact ⟨0, by omega, rfl, by simp, by simpa [qcs, mkQs] using h, World.grownBy.refl _ _⟩
    case round =>
      obtain ⟨j, hj, rfl, rfl, hown, hg⟩ := hrel
      by_cases hlt : j < n
      · have hf : ∀ i, wr.frozen? ⟨g, i, none⟩ = false := hown.frozenAt
        have hex : ∀ i, i < 2 → ∃ y, wr.cell? ⟨g, j * 2 + i, none⟩ = some y := fun i hi => by
          rw [hown.cellAt (j * 2 + i) (by omega)]
          exact ⟨_, List.getElem?_eq_getElem (by rw [hown.1]; omega)⟩
        obtain ⟨y0, e0⟩ := hex 0 (by omega)
        obtain ⟨y1, e1⟩ := hex 1 (by omega)
        have hst := own_flat DProxy.cs 2 (fun _ => rfl) (markQ (k + j * 2)) (mkQs_length k j) hlt (by omega) hown
        rw [← mkQs_succ] at hst
        obtain ⟨x, hx⟩ : ∃ x : Int, x = k + j * 2 := ⟨_, rfl⟩
        have hx1 : 0 ≤ x := by omega
        have hx2 : x + 2 ≤ 9000000000000000000 := by omega
        have hxe : x + 1 + 1 = k + ((j + 1 : Nat) : Int) * 2 := by omega
        rw [← hx] at hst ⊢
        have HX := Lib.hid hx; clear hx
        have HXE := Lib.hid hxe; clear hxe
        have hgg : w.grownBy _ (some g) := hg.trans hst.2
        have hst := hst.1
        simp only [World.setCells, DProxy.cs, markQ, Nat.add_assoc, Nat.reduceAdd, Nat.add_zero] at hst hgg e0
        clear hex
        go_wp2_with fail
        go_roundw
        case rel => exact ⟨j + 1, by omega, by go_num, by rw [HXE.out], by simpa only [qcs, Nat.add_assoc, Nat.reduceAdd] using hst, by simpa only [Nat.add_assoc, Nat.reduceAdd] using hgg⟩
        case measure => simp [intOf]; omega
      · have hjn : j = n := by omega
        have hown' : wr.ownsRow B 61 2 (.slice (some ⟨g, 0, none⟩) n cap) n (qcs (mkQs k n)) := by
          rw [hjn, List.drop_of_length_le (by omega), List.append_nil] at hown; exact hown
        have HJ := Lib.hid hjn; clear hjn
        go_wp2_with fail
        go_ret
        exact ⟨ret_int (by rw [HJ.out]), hown', hg⟩

theorem markProxyS_r (v : Value) (xs : List DProxy) (lo hi : Nat) (k : Int) (w : World) (h : OwnRQ w lo hi v xs) (hk : 0 ≤ k) (hk2 : k + xs.length * 2 ≤ 9000000000000000000) :
    Calls Try.prog 53 #[v, .int .i64 k] w fun e w' => e = .returned (.int .i64 (k + xs.length * 2)) ∧ OwnRQ w' lo hi v (mkQs k xs.length) ∧ OutOf lo hi w w' :=
  (markProxyS_c lo v xs.length (qcs xs) k w h.1 hk hk2).mono fun e w' ⟨he, ho, hg⟩ =>
    ⟨he, ⟨by simpa using ho, h.2.1, Nat.le_trans h.2.2 hg.size⟩, OutOf.of_grown hg fun b hb => ⟨(h.1.lt b hb).1, h.2.1 b hb⟩⟩

set_option maxHeartbeats 1000000 in
theorem heldProxyS_n (v : Value) (xs : List DProxy) (k : Int) (w : World) (h : ProxsAt w v (mkQs k xs.length)) (hk : 0 ≤ k) (hk2 : k + xs.length * 2 ≤ 9000000000000000000) :
    Calls Try.prog 55 #[v, .int .i64 k] w fun e w' => e = .returned (.int .i64 (k + xs.length * 2)) ∧ Below w.heap.size w w' := by
  obtain ⟨_, ao, cap, rfl, h1, h2, h3⟩ := h
  rw [mkQs_length] at h1 h3
  unfold maxLen at h2
  simp only [mkQs_length]
  generalize xs.length = n at *
  go_enter Try.func55, Try.ntmps55
  go_wp2_with fail
  go_loopw [1, 5] (fun kk i wr => ∃ j : Nat, j ≤ n ∧ i = .int .i64 j ∧ kk = .int .i64 (k + j * 2) ∧ Below w.heap.size w wr) (fun _ i _ => n - (intOf i).toNat)
  case atStart => exact ⟨0, by omega, rfl, by simp, Below.refl _ _⟩
  case round =>
    obtain ⟨j, hj, rfl, rfl, hb⟩ := hrel
    by_cases hlt : j < n
    · obtain ⟨b, off, rfl, h4, h5⟩ := h3 (by omega)
      have hcc := (CellsAt.below h5 hb h4).prox (by simpa using hlt : j < (mkQs k n).length)
      rw [mkQs_get _ _ _ hlt] at hcc
      obtain ⟨x, hx⟩ : ∃ x : Int, x = k + j * 2 := ⟨_, rfl⟩
      have hx1 : 0 ≤ x := by omega
      have hx2 : x + 2 ≤ 9000000000000000000 := by omega
      have hxe : x + 1 + 1 = k + ((j + 1 : Nat) : Int) * 2 := by omega
      rw [← hx] at hcc ⊢
      have HX := Lib.hid hx; clear hx
      have HXE := Lib.hid hxe; clear hxe
      simp only [markQ] at hcc
      obtain ⟨c0, c1⟩ := hcc
      go_wp2_with fail
      go_roundw
      case rel => exact ⟨j + 1, by omega, by go_num, by rw [HXE.out], hb⟩
      case measure => simp [intOf]; omega
    · have hjn : j = n := by omega
      have HJ := Lib.hid hjn; clear hjn
      go_wp2_with fail
      go_ret
      exact ⟨ret_int (by rw [HJ.out]), hb⟩

end Go.Proofs.Ytapkicfbknoioaa
