/- Contract: spec.DismissMember. No conditions beyond sizes. -/
import Derived.Test.YtpjmcjdnobihbaaCommD
import Derived.Test.YtpjmcjdnobihbaaInts2
import Derived.Deep.DeepCutAuto
import Derived.Test.YtpjmcjdnobihbaaNestO
import Derived.Deep.RegionLaw
namespace Go.Proofs.Ytpjmcjdnobihbaa
open Go.RowKit
set_option linter.unusedVariables false
set_option linter.unusedSimpArgs false

theorem box_grownC {b : Nat} {cs : Array Value} {w w' : World} {row : Option Nat} (h : BoxAt w b cs) (hg : w.grownBy w' row) (hne : some b ≠ row) : BoxAt w' b cs :=
  ⟨by have := h.1; have := hg.size; omega, fun i => (World.cell?_of_block (w := w) (a := ⟨b, i, none⟩) (hg.block b h.1 hne)).trans (h.2.1 i), fun i => (World.frozen?_of_block (w := w) (a := ⟨b, i, none⟩) (hg.block b h.1 hne)).trans (h.2.2 i)⟩
set_option maxRecDepth 100000 in
set_option maxHeartbeats 2000000 in
theorem s_DismissMember (v : Value) (xs : List DCommittee) (n : ByteArray) (p : Int) (w : World) (h : CommsAt w v xs) (hn : CommsLe xs) :
    Calls Try.prog 25 #[v, .string n, .int .i64 p] w fun e w' => ∃ u, e = .returned (.tuple #[u, .bool (dismV xs n p).2]) ∧ OwnComms w' w.heap.size u (dismV xs n p).1 ∧ Below w.heap.size w w' := by
  have hF := s_l15Find v n xs w h
  obtain ⟨ao, cap, rfl⟩ := h.form
  have hno : memOk xs n p = false → Hid (dismV xs n p = ([], false)) := fun hm => dismV_no hm
  rcases idxBy_hit (isN n) xs with hi | ⟨i, hi, hi4, hi5⟩
  · have hm : memOk xs n p = false := by unfold memOk; rw [hi]; simp
    have HR := hno hm
    rw [HR.out]
    rw [hi] at hF
    have HF := Lib.hid hF; clear hF hno hm HR hi
    cases hok : commsOk xs with
    | false =>
      have HG := Lib.hid (fun w' (hb : Below w.heap.size w w') => hok ▸ s_l15Good _ xs w' (h.below hb) hn); clear hok
      go_enter Try.func25, Try.ntmps25
      go_wp2_with fail
      refine HF.out.mono ?_
      rintro e w1 ⟨rfl, hb1⟩
      go_wp2_with fail
      refine (HG.out _ hb1).mono ?_
      rintro e w2 ⟨rfl, hb2⟩
      have hb := below_step hb1 hb2
      go_wp2_with fail
      go_ret2
      exact ⟨_, rfl, OwnNest.base (OwnNest.lit _ _ w2) hb.size, hb.alloc hb.size _⟩
    | true =>
      have HG := Lib.hid (fun w' (hb : Below w.heap.size w w') => hok ▸ s_l15Good _ xs w' (h.below hb) hn); clear hok
      go_enter Try.func25, Try.ntmps25
      go_wp2_with fail
      refine HF.out.mono ?_
      rintro e w1 ⟨rfl, hb1⟩
      go_wp2_with fail
      refine (HG.out _ hb1).mono ?_
      rintro e w2 ⟨rfl, hb2⟩
      have hb := below_step hb1 hb2
      go_wp2_with fail
      go_ret2
      exact ⟨_, rfl, OwnNest.base (OwnNest.lit _ _ w2) hb.size, hb.alloc hb.size _⟩
  · have hnm : xs[i].name = n := of_decide_eq_true hi5
    rw [hi4] at hF
    have HF := Lib.hid hF; clear hF hi5
    have hi0 : (0 : Int) ≤ (i : Int) := by omega
    have hi1 : (i : Int) < (xs.length : Int) := by omega
    have hn0 : ¬ (i : Int) < 0 := by omega
    obtain ⟨b, off, u, rfl, g0, h5w, c0w, c1w, c2w⟩ := h.get hi
    obtain ⟨au, ku, rfl⟩ := h5w.form
    have HML := Lib.hid (hn.2 _ (List.getElem_mem hi)).1
    have hmk : memOk xs n p = (commsOk xs && hasB xs[i].members p) := by
      unfold memOk; rw [hi4, Int.toNat_natCast, getD_c hi, decide_eq_true hi0, Bool.true_and]
    cases hok : commsOk xs with
    | false =>
      have HR := hno (by rw [hmk, hok]; rfl)
      rw [HR.out]
      have HG := Lib.hid (fun w' (hb : Below w.heap.size w w') => hok ▸ s_l15Good _ xs w' (h.below hb) hn)
      clear hok hmk HR hno c0w c1w c2w hi4 hnm
      go_enter Try.func25, Try.ntmps25
      go_wp2_with fail
      refine HF.out.mono ?_
      rintro e w1 ⟨rfl, hb1⟩
      go_wp2_with fail
      refine (HG.out _ hb1).mono ?_
      rintro e w2 ⟨rfl, hb2⟩
      have hb := below_step hb1 hb2
      go_wp2_with fail
      go_ret2
      exact ⟨_, rfl, OwnNest.base (OwnNest.lit _ _ w2) hb.size, hb.alloc hb.size _⟩
    | true =>
      have HG := Lib.hid (fun w' (hb : Below w.heap.size w w') => hok ▸ s_l15Good _ xs w' (h.below hb) hn)
      cases hhas : hasB xs[i].members p with
      | false =>
        have HR := hno (by rw [hmk, hok, hhas]; rfl)
        rw [HR.out]
        have HC := Lib.hid (fun w' (hb : Below w.heap.size w w') => hhas ▸ s_l1Has _ xs[i].members p w' (h5w.below hb))
        clear hok hmk HR hno hhas hi4 hnm
        generalize xs[i] = x at *
        go_enter Try.func25, Try.ntmps25
        go_wp2_with fail
        refine HF.out.mono ?_
        rintro e w1 ⟨rfl, hb1⟩
        go_wp2_with fail
        refine (HG.out _ hb1).mono ?_
        rintro e w2 ⟨rfl, hb2⟩
        have hb := below_step hb1 hb2
        have c1 := (hb.cell (p := ⟨b, off + i * 3 + 1, none⟩) g0).trans c1w
        go_wp2_with fail
        refine (HC.out _ hb).mono ?_
        rintro e w3 ⟨rfl, rfl⟩
        go_wp2_with fail
        go_ret2
        exact ⟨_, rfl, OwnNest.base (OwnNest.lit _ _ w2) hb.size, hb.alloc hb.size _⟩
      | true =>
        have hm : memOk xs n p = true := by rw [hmk, hok, hhas]; rfl
        have HR : Hid (dismV xs n p = (putV xs (lessM p xs[i]), true)) := dismV_at hm hi hi4
        rw [HR.out]
        have HC := Lib.hid (fun w' (hb : Below w.heap.size w w') => hhas ▸ s_l1Has _ xs[i].members p w' (h5w.below hb))
        clear hok hmk hno hhas hi4 HR hm
        obtain ⟨x, hx⟩ : ∃ x, x = xs[i] := ⟨_, rfl⟩
        rw [← hx] at HC HML c0w c1w c2w h5w hnm ⊢
        have HXE := Lib.hid hx; clear hx
        go_enter Try.func25, Try.ntmps25
        go_wp2_with fail
        refine HF.out.mono ?_
        rintro e w1 ⟨rfl, hb1⟩
        go_wp2_with fail
        refine (HG.out _ hb1).mono ?_
        rintro e w2 ⟨rfl, hb2⟩
        have hb := below_step hb1 hb2
        have c1 := (hb.cell (p := ⟨b, off + i * 3 + 1, none⟩) g0).trans c1w
        have c2 := (hb.cell (p := ⟨b, off + i * 3 + 2, none⟩) g0).trans c2w
        go_wp2_with fail
        refine (HC.out _ hb).mono ?_
        rintro e w3 ⟨rfl, rfl⟩
        obtain ⟨W, hW⟩ : ∃ W, W = w2.alloc (.cells #[.string n, .slice none 0 0, .int .i64 x.head] 40) := ⟨_, rfl⟩
        have bA : BoxAt W w2.heap.size #[.string n, .slice none 0 0, .int .i64 x.head] := by rw [hW]; exact BoxAt.new _ _ _
        have hbW : Below w2.heap.size w2 W := by rw [hW]; exact (Below.refl _ _).alloc (Nat.le_refl _) _
        have HW := Lib.hid hW; clear hW
        go_upto_region 5 with fail
        rw [← HW.out]
        have hWs : w2.heap.size < W.heap.size := bA.1
        have hm12 := HML.out
        go_wp2_with fail
        go_loopw [10] (fun j wr => ∃ (k : Nat) (a' : Option Addr) (k' : Nat), k ≤ x.members.length ∧ j = .int .i64 k ∧ BoxAt wr w2.heap.size #[.string n, .slice a' (outB p (x.members.take k)).length k', .int .i64 x.head] ∧ OwnInts wr W.heap.size (.slice a' (outB p (x.members.take k)).length k') (outB p (x.members.take k)) ∧ W.heap.size ≤ wr.heap.size ∧ Below w2.heap.size w2 wr) (fun j _ => x.members.length - (intOf j).toNat)
        case atStart => exact ⟨0, none, 0, by omega, rfl, bA, World.ownsRow_nil _ _ 3 1, Nat.le_refl _, hbW⟩
        case round =>
          rename World => wa
          obtain ⟨k, a', k', hk, rfl, hB, ho, hWa, hbr⟩ := hrel
          have hbw := below_step hb hbr
          have c1r := (hbw.cell (p := ⟨b, off + i * 3 + 1, none⟩) g0).trans c1w
          have a1 := hB.cells
          by_cases hlt : k < x.members.length
          · obtain ⟨_, _, _, hv1, q1, q2, q3⟩ := h5w.below hbw
            cases hv1
            obtain ⟨b2, o2, rfl, l2, cs2⟩ := q3 (by omega)
            have c3 := cs2.int hlt
            have hk0 : (0 : Int) ≤ (k : Int) := by omega
            have hk1 : (k : Int) < (x.members.length : Int) := by omega
            clear q3
            by_cases hy : x.members[k] = p
            · have hyb : (x.members[k] != p) = false := by simp [hy]
              have HO := Lib.hid (outB_off hlt hy)
              clear hy
              generalize x.members[k] = y at *
              go_wp2_with fail
              go_roundw
              case rel => exact ⟨k + 1, a', k', by omega, by go_num, by rw [HO.out]; exact hB, by rw [HO.out]; exact ho, hWa, hbr⟩
              case measure => simp [intOf]; omega
            · have hyb : (x.members[k] != p) = true := by simp [hy]
              have HO := Lib.hid (outB_on hlt hy)
              have hql : (outB p (x.members.take k)).length ≤ 4000000 := by have := outB_len p (x.members.take k); rw [List.length_take] at this; omega
              clear hy
              generalize x.members[k] = y at *
              obtain ⟨Q, hQ⟩ : ∃ Q, Q = outB p (x.members.take k) := ⟨_, rfl⟩
              rw [← hQ] at hB ho a1 hql HO
              clear hQ
              have hal : Below wa.heap.size wa (wa.alloc (.cells #[.int .i64 y] 3)) := (Below.refl _ _).alloc (Nat.le_refl _) _
              have hals : W.heap.size ≤ (wa.alloc (.cells #[.int .i64 y] 3)).drew.heap.size := by
                have h1 := hB.1
                have h2 := hal.size
                exact Nat.le_trans hWa h2
              have HR1 : ∀ c ∈ (#[.int .i64 y] : Array Value).toList, c.oneCell' = true := by intro c hc; simp at hc; subst hc; rfl
              have HBd : Hid (BoxAt (wa.alloc (.cells #[.int .i64 y] 3)).drew w2.heap.size #[.string n, .slice a' Q.length k', .int .i64 x.head]) := hB.alloc _
              have hneb : some w2.heap.size ≠ (Value.slice a' Q.length k').ownBlock := fun e => by have := (ho.lt _ e.symm).1; omega
              have HNB := Lib.hid hneb; clear hneb
              have hbl : b < wa.heap.size := by have := hbw.size; omega
              go_wp2_with fail
              have ra := hB.rule
              have r1 := below_cell hbl c1r
              have r3 := below_cell l2 c3
              go_region_law (first
                | ((refine step_append_row (by rfl) (.tmp 60) (.tmp 69) _ (by rfl) W.heap.size 3 _ 1 8 int_info Try.underlying26 (by rfl) (by omega) (by omega) (.slice a' Q.length k') Q.length (ints Q) (by rfl) ((own_below ho hal).drew) _ 1 (#[.int .i64 y] : Array Value).toList (by rfl) (RowAt.drew (row_new wa #[.int .i64 y] 3 1 rfl)) HR1 (by omega) (by omega) hals ?_);
                   (intro v1 w1 o1 g1 e1);
                   (have B5 := box_grownC HBd.out g1 HNB.out);
                   (have hq5 : Below w2.heap.size wa w1 := (Below.grown (((hal.mono (Nat.le_of_lt hB.1)).drew)) g1 (by have := hB.1; have := hal.size; exact Nat.le_trans (Nat.le_of_lt hB.1) hal.size) (fun g hg => by have := (ho.lt g hg).1; omega)));
                   (obtain ⟨a1', k1, rfl⟩ := (rowAt_of_own o1).form);
                   (have b5 : w1.cell? ⟨w2.heap.size, 1, none⟩ = some (.slice a' Q.length k') := by simpa using B5.cells 1); (have bf5 : w1.frozen? ⟨w2.heap.size, 1, none⟩ = false := B5.free 1)))
              all_goals
                go_wp2_with fail
                go_roundw
                case rel =>
                  have o1' : OwnInts w1 W.heap.size (.slice a1' (Q ++ [y]).length k1) (Q ++ [y]) := by simpa [OwnInts, OwnI, ints] using o1
                  have hs1 : W.heap.size ≤ w1.heap.size := Nat.le_trans hals g1.size
                  refine ⟨k + 1, a1', k1, by omega, by go_num, ?_, ?_, ?_, (hbr.trans hq5).setCell (p := ⟨w2.heap.size, 1, none⟩) (Nat.le_refl _) _⟩
                  · rw [HO.out]
                    have := BoxAt.putC B5 (i := 1) (by simp) (.slice a1' (Q.length + 1) k1)
                    simpa using this
                  · rw [HO.out]
                    exact fin_own2 (lo := w2.heap.size) (b := w2.heap.size) o1' (Below.refl _ _) ((OutOf.refl w2.heap.size (w2.heap.size + 1) w1).set _) hWs
                  · simpa using hs1
                case measure => simp [intOf]; omega
          · obtain rfl : k = x.members.length := by omega
            rw [List.take_length] at hB ho a1
            obtain ⟨L, hLe⟩ : ∃ L, L = outB p x.members := ⟨_, rfl⟩
            rw [← hLe] at hB ho a1
            by_cases hst : 0 < L.length ∧ x.head = p
            · obtain ⟨h0, hhe⟩ := hst
              have HLM : Hid (lessM p x = ⟨n, L, L.getD 0 0⟩) := by
                simp only [Hid, lessM, headM, ← hLe]
                rw [if_pos ⟨h0, hhe⟩, hnm]
              have hhd : (x.head == p) = true := by simp [hhe]
              have h0I : (0 : Int) < (L.length : Int) := by omega
              clear hLe hhe
              have hoA := ho
              obtain ⟨_, _, _, e1, q1, q2, q3⟩ := ho.at_
              cases e1
              obtain ⟨g, o, rfl, lg, csL⟩ := q3 h0
              have d0 := csL.int h0
              rw [Nat.add_zero, ← getD_i h0] at d0
              clear q3
              generalize L.getD 0 0 = z at *
              have f2 := hB.free
              obtain ⟨WS, hWS⟩ : ∃ WS, WS = wa.setCell ⟨w2.heap.size, 2, none⟩ (.int .i64 z) := ⟨_, rfl⟩
              have bS : BoxAt WS w2.heap.size #[.string n, .slice (some ⟨g, o, none⟩) L.length k', .int .i64 z] := by rw [hWS]; exact BoxAt.putC hB (by simp) _
              have hbS : Below w2.heap.size wa WS := by rw [hWS]; exact (Below.refl _ _).setCell (p := ⟨w2.heap.size, 2, none⟩) (Nat.le_refl _) _
              have hoS : OwnInts WS W.heap.size (.slice (some ⟨g, o, none⟩) L.length k') L := by
                rw [hWS]
                exact fin_own2 (lo := w2.heap.size) (b := w2.heap.size) hoA (Below.refl _ _) ((OutOf.refl w2.heap.size (w2.heap.size + 1) wa).set _) hWs
              have hWSs : W.heap.size ≤ WS.heap.size := Nat.le_trans hWa hbS.size
              have hbwS : Below w.heap.size w WS := below_step hb (hbr.trans hbS)
              have aS := bS.cells
              have HWS := Lib.hid hWS; clear hWS
              go_upto_region 12 with fail
              rw [← HWS.out]
              clear a1 f2
              go_wp2_with fail
              refine (s_l15Put _ _ xs ⟨n, L, z⟩ W.heap.size _ (h.below hbwS) hn hoS hWSs).mono ?_
              rintro e w5 ⟨q, rfl, hq, hb5⟩
              go_wp2_with fail
              go_ret2
              exact ⟨_, rfl, by rw [HLM.out]; exact OwnNest.base hq (Nat.le_trans hb.size hbW.size), below_step hbwS hb5⟩
            · have HLM : Hid (lessM p x = ⟨n, L, x.head⟩) := by
                simp only [Hid, lessM, headM, ← hLe]
                rw [if_neg hst, hnm]
              clear hLe
              by_cases h0 : 0 < L.length
              · have hhd : (x.head == p) = false := by rw [beq_eq_false_iff_ne]; exact fun e => hst ⟨h0, e⟩
                have h0I : (0 : Int) < (L.length : Int) := by omega
                clear hst
                go_wp2_with fail
                refine (s_l15Put _ _ xs ⟨n, L, x.head⟩ W.heap.size _ (h.below hbw) hn ho hWa).mono ?_
                rintro e w5 ⟨q, rfl, hq, hb5⟩
                go_wp2_with fail
                go_ret2
                exact ⟨_, rfl, by rw [HLM.out]; exact OwnNest.base hq (Nat.le_trans hb.size hbW.size), below_step hbw hb5⟩
              · have h0I : ¬ (0 : Int) < (L.length : Int) := by omega
                clear hst
                go_wp2_with fail
                refine (s_l15Put _ _ xs ⟨n, L, x.head⟩ W.heap.size _ (h.below hbw) hn ho hWa).mono ?_
                rintro e w5 ⟨q, rfl, hq, hb5⟩
                go_wp2_with fail
                go_ret2
                exact ⟨_, rfl, by rw [HLM.out]; exact OwnNest.base hq (Nat.le_trans hb.size hbW.size), below_step hbw hb5⟩

end Go.Proofs.Ytpjmcjdnobihbaa
