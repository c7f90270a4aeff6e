/- Contracts of the laws' helpers on voters: to, eq, sz, mark, held. No conditions beyond sizes. -/
import Derived.Test.YtapkicfbknoioaaProxyS
namespace Go.Proofs.Ytapkicfbknoioaa
open Go.RowKit
set_option linter.unusedVariables false
set_option linter.unusedSimpArgs false

structure DVoters where
  weights : List Int
  proxies : List DProxy

abbrev vVoters (v u : Value) : Value := .agg #[v, u]
def VotersAt (w : World) (v u : Value) (d : DVoters) : Prop := IntsAt w v d.weights ∧ ProxsAt w u d.proxies
theorem VotersAt.below {w w' : World} {v u : Value} {d : DVoters} (h : VotersAt w v u d) (hb : Below w.heap.size w w') : VotersAt w' v u d := ⟨h.1.below hb, h.2.below hb⟩
theorem VotersAt.form {w : World} {v u : Value} {d : DVoters} (h : VotersAt w v u d) : ∃ ao cap ao' cap', v = .slice ao d.weights.length cap ∧ u = .slice ao' d.proxies.length cap' := by
  obtain ⟨a, c, h1⟩ := h.1.form
  obtain ⟨a', c', h2⟩ := h.2.form
  exact ⟨a, c, a', c', h1, h2⟩

def mkV (k : Int) (d : DVoters) : DVoters := ⟨upFrom k d.weights.length, mkQs (k + d.weights.length) d.proxies.length⟩

def OwnV (w : World) (B : Nat) (v u : Value) (d : DVoters) : Prop := OwnInts w B v d.weights ∧ OwnProxs w B u d.proxies ∧ (v.ownBlock = none ∨ u.ownBlock ≠ v.ownBlock)
theorem OwnV.at_ {w : World} {B : Nat} {v u : Value} {d : DVoters} (h : OwnV w B v u d) : VotersAt w v u d := ⟨OwnI.at_ h.1, OwnProxs.at_ h.2.1⟩
theorem OwnV.below {w w' : World} {B : Nat} {v u : Value} {d : DVoters} (h : OwnV w B v u d) (hb : Below w.heap.size w w') : OwnV w' B v u d := ⟨OwnI.below h.1 hb, own_below h.2.1 hb, h.2.2⟩
theorem OwnV.base {w : World} {B B' : Nat} {v u : Value} {d : DVoters} (h : OwnV w B v u d) (hB : B' ≤ B) : OwnV w B' v u d := ⟨own_base h.1 hB, own_base h.2.1 hB, h.2.2⟩
theorem OwnV.nil (w : World) (B : Nat) : OwnV w B (.slice none 0 0) (.slice none 0 0) ⟨[], []⟩ := ⟨World.ownsRow_nil w B 3 1, World.ownsRow_nil w B 61 2, .inl rfl⟩
def OwnRV (w : World) (lo hi : Nat) (v u : Value) (d : DVoters) : Prop := OwnIn 3 1 lo hi w v d.weights.length (ints d.weights) ∧ OwnIn 61 2 lo hi w u d.proxies.length (qcs d.proxies) ∧ (v.ownBlock = none ∨ u.ownBlock ≠ v.ownBlock)
theorem OwnRV.at_ {w : World} {lo hi : Nat} {v u : Value} {d : DVoters} (h : OwnRV w lo hi v u d) : VotersAt w v u d := ⟨OwnIn.at_ h.1, OwnIn.at_ h.2.1⟩
theorem OwnRV.keep {w w' : World} {lo hi : Nat} {v u : Value} {d : DVoters} (h : OwnRV w lo hi v u d) (hs : SameIn lo hi w w') : OwnRV w' lo hi v u d := ⟨OwnIn.keep h.1 hs, OwnIn.keep h.2.1 hs, h.2.2⟩
theorem OwnV.toR {w : World} {B : Nat} {v u : Value} {d : DVoters} (h : OwnV w B v u d) : OwnRV w B w.heap.size v u d := ⟨OwnIn.of h.1, OwnIn.of h.2.1, h.2.2⟩
theorem OwnRV.hiLe {w : World} {lo hi : Nat} {v u : Value} {d : DVoters} (h : OwnRV w lo hi v u d) : hi ≤ w.heap.size := h.1.2.2
theorem OwnRV.toV {w : World} {lo hi : Nat} {v u : Value} {d : DVoters} (h : OwnRV w lo hi v u d) : OwnV w lo v u d := ⟨h.1.1, h.2.1.1, h.2.2⟩

set_option maxHeartbeats 1000000 in
theorem toVoters_c (v u : Value) (d : DVoters) (w : World) (h : VotersAt w v u d) (hn : d.weights.length ≤ 1048576 ∧ d.proxies.length ≤ 1048576) :
    Calls Try.prog 8 #[vVoters v u] w fun e w' => ∃ p q, e = .returned (vVoters p q) ∧ OwnV w' w.heap.size p q d ∧ Below w.heap.size w w' := by
  obtain ⟨ao, cap, ao', cap', rfl, rfl⟩ := h.form
  obtain ⟨W, hW⟩ : ∃ W, W = ((w.alloc (.cells #[.slice ao d.weights.length cap, .slice ao' d.proxies.length cap'] 25)).alloc (.cells #[.slice none 0 0, .slice none 0 0] 29)).alloc (.cells #[.slice none 0 0, .slice none 0 0] 29) := ⟨_, rfl⟩
  have bA : BoxAt W w.heap.size #[.slice ao d.weights.length cap, .slice ao' d.proxies.length cap'] := by rw [hW]; exact ((BoxAt.new _ _ _).alloc _).alloc _
  have bR : BoxAt W (w.heap.size + 1) #[.slice none 0 0, .slice none 0 0] := by rw [hW]; exact (BoxAt.new_at _ _ _ _ (by simp)).alloc _
  have bT : BoxAt W (w.heap.size + 2) #[.slice none 0 0, .slice none 0 0] := by rw [hW]; exact BoxAt.new_at _ _ _ _ (by simp)
  have hWb : Below w.heap.size w W := by rw [hW]; go_grown
  have hWs : W.heap.size = w.heap.size + 3 := by rw [hW]; simp
  have hI := h.below hWb
  have HW := Lib.hid hW; clear hW
  have a0 := bA.cells
  go_enter Try.func8, Try.ntmps8
  go_wp2_with fail
  rw [← HW.out]
  go_wp2_with fail
  refine (toIntS_c _ d.weights _ hI.1 hn.1).mono ?_
  rintro e w1 ⟨p, rfl, ho, hb1⟩
  obtain ⟨ap, kp, rfl⟩ := ho.at_.form
  have A1 := bA.below hb1; have R1 := bR.below hb1; have T1 := bT.below hb1
  have a1 := A1.cells; have t1 := T1.cells; have tf1 := T1.free
  clear a0
  go_wp2_with fail
  have hs1 := hb1.size
  have hset : OutOf (w.heap.size + 2) (w.heap.size + 3) w1 (w1.setCell ⟨w.heap.size + 2, 0, none⟩ (.slice ap d.weights.length kp)) := OutOf.setIn (OutOf.refl _ _ _) (Nat.le_refl _) (by omega) _
  have hb1s : Below w.heap.size w (w1.setCell ⟨w.heap.size + 2, 0, none⟩ (.slice ap d.weights.length kp)) := (hWb.trans (hb1.mono (by omega))).trans (hset.below (by omega) (by omega))
  refine (toProxyS_c _ d.proxies _ (h.2.below hb1s) hn.2).mono ?_
  rintro e w2 ⟨q, rfl, hoq, hb2⟩
  obtain ⟨aq, kq, rfl⟩ := hoq.at_.form
  have hs2 := hb2.size
  simp only [World.size_setCell] at hs2
  have R2 := (OutOf.box hset R1 (.inl (by omega))).below hb2
  have r2 := R2.cells; have rf2 := R2.free
  have t20 : w2.cell? ⟨w.heap.size + 2, 0, none⟩ = some (.slice ap d.weights.length kp) := (hb2.cell (p := ⟨w.heap.size + 2, 0, none⟩) (by simp; omega)).trans (by simp [go_sem, t1])
  have t21 : w2.cell? ⟨w.heap.size + 2, 1, none⟩ = some (.slice none 0 0) := (hb2.cell (p := ⟨w.heap.size + 2, 1, none⟩) (by simp; omega)).trans (by simp [go_sem, t1])
  have tf2 : ∀ i, w2.frozen? ⟨w.heap.size + 2, i, none⟩ = false := fun i => (hb2.frozen (p := ⟨w.heap.size + 2, i, none⟩) (by simp; omega)).trans (by simp [go_sem, tf1])
  have hp2 : OwnR 3 w2 W.heap.size w1.heap.size (.slice ap d.weights.length kp) d.weights := (ho.toR.keep (hset.same (.inr (by omega)) (Nat.le_refl _))).keep (below_same hb2 (by simp))
  have hq2 := OwnIn.of hoq
  clear a1 t1 tf1
  go_wp2_with fail
  have hout : ∀ w3, OutOf w.heap.size (w.heap.size + 3) w2 w3 → OwnV w3 w.heap.size (.slice ap d.weights.length kp) (.slice aq d.proxies.length kq) d ∧ Below w.heap.size w w3 := by
    intro w3 ho3
    have h1 := hp2.keep (ho3.same (.inr (by omega)) (by omega))
    have h2 := hq2.keep (ho3.same (.inr (by simp; omega)) (Nat.le_refl _))
    refine ⟨⟨own_base h1.1 (by omega), own_base h2.1 (by simp; omega), ?_⟩, (hb1s.trans (hb2.mono (by simp; omega))).trans (ho3.below (Nat.le_refl _) (by omega))⟩
    cases hap : (Value.slice ap d.weights.length kp).ownBlock with
    | none => exact .inl rfl
    | some b =>
      refine .inr fun hc => ?_
      have e1 := h1.2.1 b hap
      have e2 := (hoq.lt b hc).1
      simp only [World.size_setCell] at e2
      omega
  refine bodyPost_ret (v := vVoters (.slice ap d.weights.length kp) (.slice aq d.proxies.length kq)) (by simp [results, Try.results8, go_sem, r2]) rfl ⟨_, _, rfl, hout _ ?_⟩
  repeat (first | with_reducible exact OutOf.refl _ _ _ | with_reducible refine OutOf.setIn ?_ ?_ ?_ _ | (simp; done) | omega)

set_option maxHeartbeats 1000000 in
theorem eqVoters_c (v u v' u' : Value) (d d' : DVoters) (w : World) (h : VotersAt w v u d) (h' : VotersAt w v' u' d') :
    Calls Try.prog 10 #[vVoters v u, vVoters v' u'] w fun e w' => e = .returned (.bool (decide (d.weights = d'.weights) && decide (d.proxies = d'.proxies))) ∧ Below w.heap.size w w' := by
  obtain ⟨ao, cap, ao', cap', rfl, rfl⟩ := h.form
  obtain ⟨bo, dap, bo', dap', rfl, rfl⟩ := h'.form
  obtain ⟨W, hW⟩ : ∃ W, W = (w.alloc (.cells #[.slice ao d.weights.length cap, .slice ao' d.proxies.length cap'] 29)).alloc (.cells #[.slice bo d'.weights.length dap, .slice bo' d'.proxies.length dap'] 29) := ⟨_, rfl⟩
  have bA : BoxAt W w.heap.size #[.slice ao d.weights.length cap, .slice ao' d.proxies.length cap'] := by rw [hW]; exact (BoxAt.new _ _ _).alloc _
  have bB : BoxAt W (w.heap.size + 1) #[.slice bo d'.weights.length dap, .slice bo' d'.proxies.length dap'] := by rw [hW]; exact BoxAt.new_at _ _ _ _ (by simp)
  have hWb : Below w.heap.size w W := by rw [hW]; go_grown
  have hI := h.below hWb
  have hI' := h'.below hWb
  have HW := Lib.hid hW; clear hW
  have a0 := bA.cells; have b0 := bB.cells
  go_enter Try.func10, Try.ntmps10
  go_wp2_with fail
  rw [← HW.out]
  go_wp2_with fail
  refine (eqIntS_c _ _ d.weights d'.weights _ hI.1 hI'.1).mono ?_
  rintro e w1 ⟨rfl, hb1⟩
  have a1 := (bA.below hb1).cells; have b1 := (bB.below hb1).cells
  clear a0 b0
  cases hd : decide (d.weights = d'.weights) with
  | false =>
    go_wp2_with fail
    go_ret
    exact ⟨ret_bool (by first | rfl | (rw [hd]; rfl)), hWb.trans (hb1.mono hWb.size)⟩
  | true =>
    go_wp2_with fail
    refine (eqProxyS_c _ _ d.proxies d'.proxies _ (hI.2.below hb1) (hI'.2.below hb1)).mono ?_
    rintro e w2 ⟨rfl, hb2⟩
    cases hd2 : decide (d.proxies = d'.proxies) with
    | false =>
      go_wp2_with fail
      go_ret
      exact ⟨ret_bool (by first | rfl | (rw [hd, hd2]; rfl) | (rw [hd2]; rfl) | (rw [hd]; rfl)), hWb.trans ((below_step hb1 hb2).mono hWb.size)⟩
    | true =>
      go_wp2_with fail
      go_ret
      exact ⟨ret_bool (by first | rfl | (rw [hd, hd2]; rfl) | (rw [hd2]; rfl) | (rw [hd]; rfl)), hWb.trans ((below_step hb1 hb2).mono hWb.size)⟩

set_option maxHeartbeats 1000000 in
theorem szVoters_c (v u : Value) (d : DVoters) (left : Int) (w : World) (h : VotersAt w v u d) (hl : 0 ≤ left) (hl2 : left ≤ 1048576) :
    Calls Try.prog 6 #[vVoters v u, .int .i64 left] w fun e w' => ∃ r : Int, e = .returned (.int .i64 r) ∧ (r < 0 ∨ (0 ≤ r ∧ r ≤ 1048576 ∧ (d.weights.length ≤ 1048576 ∧ d.proxies.length ≤ 1048576))) ∧ Below w.heap.size w w' := by
  obtain ⟨ao, cap, ao', cap', rfl, rfl⟩ := h.form
  obtain ⟨W, hW⟩ : ∃ W, W = w.alloc (.cells #[.slice ao d.weights.length cap, .slice ao' d.proxies.length cap'] 25) := ⟨_, rfl⟩
  have bA : BoxAt W w.heap.size #[.slice ao d.weights.length cap, .slice ao' d.proxies.length cap'] := by rw [hW]; exact BoxAt.new _ _ _
  have hWb : Below w.heap.size w W := by rw [hW]; go_grown
  have hI := h.below hWb
  have HW := Lib.hid hW; clear hW
  have a0 := bA.cells
  go_enter Try.func6, Try.ntmps6
  go_wp2_with fail
  rw [← HW.out]
  go_wp2_with fail
  refine (szIntS_c _ d.weights _ _ hI.1 hl hl2).mono ?_
  rintro e w1 ⟨rfl, hb1⟩
  have a1 := (bA.below hb1).cells
  clear a0
  have hb1' := hWb.trans (hb1.mono hWb.size)
  by_cases h1 : left - d.weights.length < 0
  · have hz : szSub left d.weights.length = -1 := by unfold szSub; rw [if_pos h1]
    rw [hz]
    go_wp2_with fail
    go_ret
    exact ⟨-1, rfl, .inl (by omega), hb1'⟩
  · have hz : szSub left d.weights.length = left - d.weights.length := by unfold szSub; rw [if_neg h1]
    rw [hz]
    obtain ⟨l2, hl2'⟩ : ∃ l2 : Int, l2 = left - d.weights.length := ⟨_, rfl⟩
    rw [← hl2']
    have hp1 : 0 ≤ l2 := by omega
    have hp2 : l2 ≤ 1048576 := by omega
    have hp3 : d.weights.length ≤ 1048576 := by omega
    have HL := Lib.hid hl2'; clear hl2' hz h1
    go_wp2_with fail
    refine (szProxyS_c _ d.proxies _ _ (hI.2.below hb1) hp1 hp2).mono ?_
    rintro e w2 ⟨r, rfl, hr, hb2⟩
    rcases hr with hr | ⟨hr0, hr1, hr2⟩
    · go_wp2_with fail
      go_ret
      exact ⟨-1, rfl, .inl (by omega), hWb.trans ((below_step hb1 hb2).mono hWb.size)⟩
    · go_wp2_with fail
      go_ret
      exact ⟨r, rfl, .inr ⟨hr0, hr1, hp3, hr2⟩, hWb.trans ((below_step hb1 hb2).mono hWb.size)⟩

set_option maxHeartbeats 1000000 in
theorem markVoters_r (v u : Value) (d : DVoters) (lo hi : Nat) (k : Int) (w : World) (h : OwnRV w lo hi v u d) (hk : 0 ≤ k) (hk2 : k + d.weights.length + d.proxies.length * 2 ≤ 9000000000000000000) :
    Calls Try.prog 11 #[vVoters v u, .int .i64 k] w fun e w' => e = .returned (.int .i64 (k + d.weights.length + d.proxies.length * 2)) ∧ OwnRV w' lo hi v u (mkV k d) ∧ OutOf lo hi w w' := by
  have hhi := h.hiLe
  obtain ⟨ao, cap, ao', cap', rfl, rfl⟩ := h.at_.form
  obtain ⟨W, hW⟩ : ∃ W, W = w.alloc (.cells #[.slice ao d.weights.length cap, .slice ao' d.proxies.length cap'] 29) := ⟨_, rfl⟩
  have bA : BoxAt W w.heap.size #[.slice ao d.weights.length cap, .slice ao' d.proxies.length cap'] := by rw [hW]; exact BoxAt.new _ _ _
  have hWb : Below w.heap.size w W := by rw [hW]; go_grown
  have hV := h.keep (below_same hWb hhi)
  have HW := Lib.hid hW; clear hW
  have a0 := bA.cells
  go_enter Try.func11, Try.ntmps11
  go_wp2_with fail
  rw [← HW.out]
  go_wp2_with fail
  refine (markIntS_c lo _ _ (ints d.weights) _ _ hV.1.1 hk (by omega)).mono ?_
  rintro e w1 ⟨rfl, hv1, hg1⟩
  have ho1 : OutOf lo hi W w1 := OutOf.of_grown hg1 fun b hb => ⟨(hV.1.1.lt b hb).1, hV.1.2.1 b hb⟩
  have a1 := (OutOf.box ho1 bA (.inr hhi)).cells
  have hne : (Value.slice ao' d.proxies.length cap').ownBlock = none ∨ (Value.slice ao' d.proxies.length cap').ownBlock ≠ (Value.slice ao d.weights.length cap).ownBlock := by
    rcases h.2.2 with h0 | h0
    · rw [h0]
      cases (Value.slice ao' d.proxies.length cap').ownBlock <;> simp
    · exact .inr h0
  have hu1 := hV.2.1.1.kept hg1 hne
  clear a0
  go_wp2_with fail
  refine (markProxyS_c lo _ _ (qcs d.proxies) _ _ hu1 (by omega) hk2).mono ?_
  rintro e w2 ⟨rfl, hu2, hg2⟩
  have ho2 : OutOf lo hi w1 w2 := OutOf.of_grown hg2 fun b hb => ⟨(hu1.lt b hb).1, hV.2.1.2.1 b hb⟩
  have hne2 : (Value.slice ao d.weights.length cap).ownBlock = none ∨ (Value.slice ao d.weights.length cap).ownBlock ≠ (Value.slice ao' d.proxies.length cap').ownBlock := by
    rcases h.2.2 with h0 | h0
    · exact .inl h0
    · exact .inr (fun e => h0 e.symm)
  have hv2 := hv1.kept hg2 hne2
  go_wp2_with fail
  go_ret
  have hz1 := ho1.size; have hz2 := ho2.size; have hz0 := hWb.size
  refine ⟨rfl, ⟨⟨?_, h.1.2.1, by omega⟩, ⟨?_, h.2.1.2.1, by omega⟩, h.2.2⟩, ((OutOf.of_below (lo := lo) (hi := hi) hWb).trans ho1).trans ho2⟩
  · simpa [mkV] using hv2
  · simpa [mkV] using hu2

set_option maxHeartbeats 1000000 in
theorem heldVoters_n (v u : Value) (d : DVoters) (k : Int) (w : World) (h : VotersAt w v u (mkV k d)) (hk : 0 ≤ k) (hk2 : k + d.weights.length + d.proxies.length * 2 ≤ 9000000000000000000) :
    Calls Try.prog 12 #[vVoters v u, .int .i64 k] w fun e w' => e = .returned (.int .i64 (k + d.weights.length + d.proxies.length * 2)) ∧ Below w.heap.size w w' := by
  obtain ⟨ao, cap, ao', cap', rfl, rfl⟩ : ∃ ao cap ao' cap', v = .slice ao d.weights.length cap ∧ u = .slice ao' d.proxies.length cap' := by simpa [mkV] using h.form
  obtain ⟨W, hW⟩ : ∃ W, W = w.alloc (.cells #[.slice ao d.weights.length cap, .slice ao' d.proxies.length cap'] 29) := ⟨_, rfl⟩
  have bA : BoxAt W w.heap.size #[.slice ao d.weights.length cap, .slice ao' d.proxies.length cap'] := by rw [hW]; exact BoxAt.new _ _ _
  have hWb : Below w.heap.size w W := by rw [hW]; go_grown
  have hI := h.below hWb
  have HW := Lib.hid hW; clear hW
  have a0 := bA.cells
  go_enter Try.func12, Try.ntmps12
  go_wp2_with fail
  rw [← HW.out]
  go_wp2_with fail
  refine (heldIntS_n _ d.weights _ _ hI.1 hk (by omega)).mono ?_
  rintro e w1 ⟨rfl, hb1⟩
  have a1 := (bA.below hb1).cells
  clear a0
  go_wp2_with fail
  refine (heldProxyS_n _ d.proxies _ _ (hI.2.below hb1) (by omega) hk2).mono ?_
  rintro e w2 ⟨rfl, hb2⟩
  go_wp2_with fail
  go_ret
  exact ⟨rfl, hWb.trans ((below_step hb1 hb2).mono hWb.size)⟩

end Go.Proofs.Ytapkicfbknoioaa
