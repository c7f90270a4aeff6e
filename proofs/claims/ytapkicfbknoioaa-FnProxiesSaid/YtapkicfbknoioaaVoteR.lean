/- Contracts: a voter's proxy is taken away. No conditions beyond sizes. -/
import Derived.Test.YtapkicfbknoioaaVoteA
import Derived.Test.YtapkicfbknoioaaDelP
import Derived.Test.YtapkicfbknoioaaStep
namespace Go.Proofs.Ytapkicfbknoioaa
open Go.RowKit
set_option linter.unusedVariables false
set_option linter.unusedSimpArgs false

/-- The proxies but those of x. -/
abbrev outQ (x : Int) (ps : List DProxy) : List DProxy := keepF (fun q : DProxy => q.fr == x) ps
theorem outQ_len (x : Int) (ps : List DProxy) : (outQ x ps).length ≤ ps.length := List.length_filter_le _ _

theorem OutOf.grown' {lo hi : Nat} {a w w' : World} {row : Option Nat} (h : OutOf lo hi a w) (g : w.grownBy w' row) (hr : ∀ k, row = some k → a.heap.size ≤ k) : OutOf lo hi a w' :=
  ⟨g.os.trans h.os, g.tape.trans h.tape, g.output.trans h.output, Nat.le_trans h.size g.size, fun k hk ho => (g.block k (Nat.lt_of_lt_of_le hk h.size) (fun e => by have := hr k e.symm; omega)).trans (h.block k hk ho)⟩
theorem own_apart {w w' : World} {B e n size lo hi : Nat} {v : Value} {cs : List Value} (h : w.ownsRow B e size v n cs) (ho : OutOf lo hi w w') (hB : hi ≤ B) : w'.ownsRow B e size v n cs := by
  refine ⟨h.1, ?_⟩
  rcases h.2 with h2 | ⟨g, cap, cur, rfl, hg, hgg, r⟩
  · exact .inl h2
  · exact .inr ⟨g, cap, cur, rfl, hg, (ho.block g (Array.getElem?_eq_some_iff.1 hgg).1 (by omega)).trans hgg, r⟩

theorem box_grownR {w w' : World} {b : Nat} {cs : Array Value} {row : Option Nat} (h : BoxAt w b cs) (hg : w.grownBy w' row) (hne : row ≠ some b) : BoxAt w' b cs :=
  ⟨by have := hg.size; have := h.1; omega, fun i => (World.cell?_of_block (w := w) (a := ⟨b, i, none⟩) (hg.block b h.1 (fun e => hne e.symm))).trans (h.2.1 i), fun i => (World.frozen?_of_block (w := w) (a := ⟨b, i, none⟩) (hg.block b h.1 (fun e => hne e.symm))).trans (h.2.2 i)⟩
theorem BoxAt.setR {w : World} {b i : Nat} {cs : Array Value} (h : BoxAt w b cs) (hi : i < cs.size) (v : Value) : BoxAt (w.setCell ⟨b, i, none⟩ v) b (cs.setIfInBounds i v) := by
  refine ⟨by simpa [World.setCell] using h.1, fun j => ?_, fun j => by simpa using h.2.2 j⟩
  by_cases he : i = j
  · subst he
    rw [World.cell?_setCell_same _ _ _ (u := cs[i]) (by rw [h.2.1 i, Array.getElem?_eq_getElem hi])]
    simp [hi]
  · rw [World.cell?_setCell_other _ _ _ _ (by simp), h.2.1 j]
    simp [Array.getElem?_setIfInBounds, he]

theorem i_revoked1 (q : DProxy) (b : Nat) (x : Int) (w : World) (hB : BoxAt w b #[.int .i64 x]) :
    Calls Try.prog 78 #[vProxy q, .pointer (some ⟨b, 0, none⟩)] w fun e w' => e = .returned (.bool (q.fr == x)) ∧ Below w.heap.size w w' := by
  obtain ⟨fr, to⟩ := q
  have b0 := ((hB.alloc (.cells #[.int .i64 fr, .int .i64 to] 61)).cells 0)
  simp at b0
  go_enter Try.func78, Try.ntmps78
  go_wp2_with fail
  go_ret
  exact ⟨rfl, by go_grown⟩

set_option maxHeartbeats 1000000 in
theorem i_revoked (v u : Value) (d : DVoters) (x : Int) (w : World) (h : VotersAt w v u d) (hn : d.proxies.length ≤ 1048576) :
    Calls Try.prog 48 #[vVoters v u, .int .i64 x] w fun e w' => ∃ q, e = .returned q ∧ OwnProxs w' w.heap.size q (outQ x d.proxies) ∧ Below w.heap.size w w' := by
  obtain ⟨ao, cap, ao', cap', rfl, rfl⟩ := h.form
  obtain ⟨W, hW⟩ : ∃ W, W = (w.alloc (.cells #[.slice ao d.weights.length cap, .slice ao' d.proxies.length cap'] 29)).alloc (.cells #[.int .i64 x] 3) := ⟨_, rfl⟩
  have bA : BoxAt W w.heap.size #[.slice ao d.weights.length cap, .slice ao' d.proxies.length cap'] := by rw [hW]; exact (BoxAt.new _ _ _).alloc _
  have bN : BoxAt W (w.heap.size + 1) #[.int .i64 x] := by rw [hW]; exact BoxAt.new_at _ _ _ _ (by simp)
  have hWb : Below w.heap.size w W := by rw [hW]; go_grown
  have hI := (h.below hWb).2
  have HW := Lib.hid hW; clear hW
  have a0 := (bA.alloc (.cells #[] 61)).cells
  have hlt := bN.1
  go_enter Try.func48, Try.ntmps48
  go_wp2_with (first
    | (at_builtin; refine wpList_copy_flat rfl (.tmp 5) (.tmp 7) _ rfl 61 (vProxy ⟨0, 0⟩) 2 16 proxy_info Try.underlying27 rfl (by omega) (by omega) _ _ (qcs d.proxies) rfl rfl hI (qcs_one _) (by omega) ?_; (intro v1 w1 o1 hb1);
       (have B1 := bN.below hb1
        have hf := rowAt_of_own o1
        obtain ⟨a1, k1, rfl⟩ := hf.form
        have hdel := DeleteFunc_proxy 78 (enters_of Try.func78 (by kernel_rfl) (by kernel_rfl)) [.pointer (some ⟨w.heap.size + 1, 0, none⟩)] (fun q : DProxy => q.fr == x) W.heap.size _ d.proxies w1 o1 hb1.size
          (fun q w' hb => i_revoked1 q (w.heap.size + 1) x w' ⟨by have := hb.size; have := hb1.size; omega, fun i => (hb.cell (p := ⟨w.heap.size + 1, i, none⟩) hlt).trans (B1.cells i), fun i => (hb.frozen (p := ⟨w.heap.size + 1, i, none⟩) hlt).trans (B1.free i)⟩)
        have HD := Lib.hid hdel; clear hdel))
    | (with_reducible change Go.wpList _ _ _ (Oper.mk _ (Op.buildSlice _ _ _) _ _ _ _ :: _) _ (World.alloc _ _); rw [← HW.out]))
  refine HD.out.mono ?_
  rintro e w2 ⟨u2, rfl, ho2, hb2⟩
  obtain ⟨a2, k2, rfl⟩ := (rowAt_of_own ho2).form
  go_wp2_with fail
  go_ret
  exact ⟨_, rfl, own_base ho2 hWb.size, hWb.trans ((hb1.trans hb2).mono hWb.size)⟩

set_option maxHeartbeats 2000000 in
theorem s_l12Without (v u : Value) (d : DVoters) (x : Int) (w : World) (h : VotersAt w v u d) (hn : d.weights.length ≤ 1048576 ∧ d.proxies.length ≤ 1048576) :
    Calls Try.prog 43 #[vVoters v u, .int .i64 x] w fun e w' => ∃ p q, e = .returned (vVoters p q) ∧ OwnV w' w.heap.size p q ⟨d.weights, outQ x d.proxies⟩ ∧ Below w.heap.size w w' := by
  obtain ⟨hn1, hn2⟩ := hn
  obtain ⟨ao, cap, ao', cap', rfl, rfl⟩ := h.form
  obtain ⟨W, hW⟩ : ∃ W, W = (w.alloc (.cells #[.slice ao d.weights.length cap, .slice ao' d.proxies.length cap'] 29)).alloc (.cells #[.slice none 0 0, .slice none 0 0] 29) := ⟨_, rfl⟩
  have bA : BoxAt W w.heap.size #[.slice ao d.weights.length cap, .slice ao' d.proxies.length cap'] := by rw [hW]; exact (BoxAt.new _ _ _).alloc _
  have bR : BoxAt W (w.heap.size + 1) #[.slice none 0 0, .slice none 0 0] := by rw [hW]; exact BoxAt.new_at _ _ _ _ (by simp)
  have hWb : Below w.heap.size w W := by rw [hW]; go_grown
  have hI := h.below hWb
  have hPW := h.2
  have HW := Lib.hid hW; clear hW
  have a0 := bA.cells
  have hlt := bR.1
  go_enter Try.func43, Try.ntmps43
  go_wp2_with fail
  rw [← HW.out]
  go_wp2_with fail
  refine (s_l1Own _ d.weights _ hI.1 (by omega)).mono ?_
  rintro e w2 ⟨p, rfl, ho, hb2⟩
  obtain ⟨ap, kp, rfl⟩ := ho.at_.form
  have A2 := bA.below hb2; have R2 := bR.below hb2
  have hs2 := hb2.size
  obtain ⟨W3, hW3⟩ : ∃ W3, W3 = w2.alloc (.cells #[.slice ap d.weights.length kp, .slice none 0 0] 29) := ⟨_, rfl⟩
  have O3 : BoxAt W3 w2.heap.size #[.slice ap d.weights.length kp, .slice none 0 0] := by rw [hW3]; exact BoxAt.new _ _ _
  have hb3 : Below w2.heap.size w2 W3 := by rw [hW3]; exact (Below.refl _ _).alloc (Nat.le_refl _) _
  have hs3 : W3.heap.size = w2.heap.size + 1 := by rw [hW3]; simp
  have A3 := A2.below hb3; have R3 := R2.below hb3
  have hbW3 : Below W.heap.size W W3 := below_step hb2 hb3
  have hP3 : Below w.heap.size w W3 := hWb.trans (hbW3.mono hWb.size)
  have hnil : W3.ownsRow W3.heap.size 61 2 (.slice none 0 0) 0 (qcs (outQ x (d.proxies.take 0))) := by simpa [qcs, keepF] using World.ownsRow_nil W3 W3.heap.size 61 2
  have HW3 := Lib.hid hW3; clear hW3
  have hw3 : OwnIn 3 1 W.heap.size w2.heap.size W3 (.slice ap d.weights.length kp) d.weights.length (ints d.weights) := OwnIn.keep (OwnIn.of ho) (below_same hb3 (Nat.le_refl _))
  clear a0
  go_wp2_with fail
  rw [← HW3.out]
  go_loopw [6] (fun i wr => ∃ k : Nat, k ≤ d.proxies.length ∧ i = .int .i64 k ∧ ∃ a' k', BoxAt wr w2.heap.size #[.slice ap d.weights.length kp, .slice a' (outQ x (d.proxies.take k)).length k'] ∧ wr.ownsRow W3.heap.size 61 2 (.slice a' (outQ x (d.proxies.take k)).length k') (outQ x (d.proxies.take k)).length (qcs (outQ x (d.proxies.take k))) ∧ OutOf w2.heap.size (w2.heap.size + 1) W3 wr) (fun i _ => d.proxies.length - (intOf i).toNat)
  case atStart => exact ⟨0, by omega, rfl, none, 0, by simpa [keepF] using O3, by simpa [keepF] using hnil, OutOf.refl _ _ _⟩
  case round =>
    obtain ⟨k, hk, rfl, a', k', hB, ho', hO⟩ := hrel
    have A4 := hO.box A3 (.inl (by omega))
    have R4 := hO.box R3 (.inl (by omega))
    have hbw : Below w.heap.size w wr := hP3.trans (hO.below (by omega) (by omega))
    have hPr := hPW.below hbw
    have hz := hO.size
    have a4 := A4.cells; have b4 := hB.cells; have bf4 := hB.free
    by_cases hlt : k < d.proxies.length
    · obtain ⟨_, _, _, hv, g1, g2, g3⟩ := hPr
      cases hv
      obtain ⟨b, off, rfl, h4, h5⟩ := g3 (by omega)
      unfold maxLen at g2
      obtain ⟨c0, c1⟩ := h5.prox hlt
      have hol : (outQ x (d.proxies.take k)).length ≤ 1048576 := by have := outQ_len x (d.proxies.take k); simp only [List.length_take] at this; omega
      cases heq : (d.proxies[k].fr == x) with
      | true =>
        have hq : (d.proxies[k].fr != x) = false := by simpa [bne] using heq
        have HK : Hid (outQ x (d.proxies.take (k + 1)) = outQ x (d.proxies.take k)) := keep_out _ hlt heq
        generalize d.proxies[k] = y at *
        obtain ⟨fr, to⟩ := y
        clear heq
        go_wp2_with fail
        go_roundw
        case rel => exact ⟨k + 1, by omega, by go_num, a', k', by rw [HK.out]; exact hB, by rw [HK.out]; exact ho', hO⟩
        case measure => simp [intOf]; omega
      | false =>
        have hq : (d.proxies[k].fr != x) = true := by simpa [bne] using heq
        have HK : Hid (outQ x (d.proxies.take (k + 1)) = outQ x (d.proxies.take k) ++ [d.proxies[k]]) := keep_in _ hlt heq
        generalize d.proxies[k] = y at *
        obtain ⟨fr, to⟩ := y
        clear heq
        have hal : Below wr.heap.size wr (wr.alloc (.cells #[.int .i64 fr, .int .i64 to] 61)) := (Below.refl _ _).alloc (Nat.le_refl _) _
        have hals : W3.heap.size ≤ (wr.alloc (.cells #[.int .i64 fr, .int .i64 to] 61)).heap.size := by simp; omega
        have HR1 : ∀ u ∈ (#[.int .i64 fr, .int .i64 to] : Array Value).toList, u.oneCell' = true := by simp [Value.oneCell']
        have hge := fun g hg => (ho'.lt g hg).1
        have hkw : IntKind.i64.wrap (k : Int) = (k : Int) := IntWalk.i64_in _ (by omega)
        have hk0 : (0 : Int) ≤ (k : Int) := by omega
        have hkl : (k : Int) < (d.proxies.length : Int) := by omega
        generalize hQ : outQ x (d.proxies.take k) = Q at *
        go_wp2_with fail
        have ra := A4.rule; have rb := hB.rule
        have HBd : Hid (BoxAt (wr.alloc (.cells #[.int .i64 fr, .int .i64 to] 61)).drew w2.heap.size #[.slice ap d.weights.length kp, .slice a' Q.length k']) := hB.alloc _
        have r0 := below_cell h4 c0; have r1 := below_cell h4 c1
        have E1 : Hid ((outQ x (d.proxies.take (k + 1))).length = Q.length + 1) := by rw [Hid, HK.out]; simp
        have E2 : Hid (qcs (outQ x (d.proxies.take (k + 1))) = qcs Q ++ (#[.int .i64 fr, .int .i64 to] : Array Value).toList) := by rw [Hid, HK.out]; simp [qcs, DProxy.cs]
        go_region_law (first
          | ((refine step_append_row (by rfl) (.tmp 27) (.tmp 33) _ (by rfl) W3.heap.size 61 _ 2 16 proxy_info Try.underlying27 (by rfl) (by omega) (by omega) (.slice a' Q.length k') Q.length (qcs Q) (by rfl) ((own_below ho' hal).drew) _ 1 (#[.int .i64 fr, .int .i64 to] : Array Value).toList (by rfl) (RowAt.drew (row_new wr #[.int .i64 fr, .int .i64 to] 61 2 rfl)) HR1 (by omega) (by omega) hals ?_);
             (intro v1 w1 o1 g1 e1);
             (have B5 := box_grownR (HBd.out) g1 (fun e => absurd (hge _ e) (by omega)));
             (have hO5 := OutOf.grown' ((hO.alloc (.cells #[.int .i64 fr, .int .i64 to] 61)).drew') g1 hge);
             (obtain ⟨a1, k1, rfl⟩ := (rowAt_of_own o1).form);
             (have b5 : w1.cell? ⟨w2.heap.size, 1, none⟩ = some (.slice a' Q.length k') := by simpa using B5.cells 1); (have bf5 : w1.frozen? ⟨w2.heap.size, 1, none⟩ = false := B5.free 1)))
        all_goals
          go_wp2_with fail
          go_roundw
          case rel =>
            have hset : OutOf w2.heap.size (w2.heap.size + 1) w1 (w1.setCell ⟨w2.heap.size, 1, none⟩ (.slice a1 (Q.length + 1) k1)) := OutOf.set (OutOf.refl _ _ _) _
            refine ⟨k + 1, by omega, by go_num, a1, k1, ?_, ?_, hO5.trans hset⟩
            · rw [E1.out]; simpa using B5.setR (i := 1) (by simp) (.slice a1 (Q.length + 1) k1)
            · rw [E1.out, E2.out]; exact own_apart o1 hset (by omega)
          case measure => simp [intOf]; omega
    · have HK : Hid (d.proxies.take k = d.proxies) := List.take_of_length_le (by omega)
      rw [HK.out] at ho' hB
      have b5 := hB.cells; have bf5 := hB.free
      have rf4 := R4.free; have r4 := R4.cells
      clear b4 bf4
      go_wp2_with fail
      have hz4 : w.heap.size + 1 < wr.heap.size := R4.1
      refine bodyPost_ret (v := vVoters (.slice ap d.weights.length kp) (.slice a' (outQ x d.proxies).length k')) (by simp [results, Try.results43, go_sem, r4]) rfl ⟨_, _, rfl, ?_⟩
      have hfin : ∀ wf, OutOf (w.heap.size + 1) (w.heap.size + 2) wr wf → OwnV wf w.heap.size (.slice ap d.weights.length kp) (.slice a' (outQ x d.proxies).length k') ⟨d.weights, outQ x d.proxies⟩ ∧ Below w.heap.size w wf := by
        intro wf hf
        have h1 := (hw3.keep (hO.same (.inl (by omega)) (by omega))).keep (hf.same (.inr (by omega)) (by omega))
        have h2 := own_apart ho' hf (by omega)
        refine ⟨⟨own_base h1.1 (by omega), own_base h2 (by omega), ?_⟩, hbw.trans (hf.below (by omega) (by omega))⟩
        cases hap : (Value.slice ap d.weights.length kp).ownBlock with
        | none => exact .inl rfl
        | some g =>
          refine .inr fun hc => ?_
          have q1 := h1.2.1 g hap
          have q2 := (ho'.lt g hc).1
          omega
      refine hfin _ ?_
      repeat (first | with_reducible exact OutOf.refl _ _ _ | with_reducible refine OutOf.setIn ?_ ?_ ?_ _ | (simp; done) | omega)

/-- RevokeProxy. -/
def revV (d : DVoters) (x : Int) : DVoters × Bool := if votersOk d && !((outQ x d.proxies).length == d.proxies.length) then (⟨d.weights, outQ x d.proxies⟩, true) else (⟨[], []⟩, false)
theorem revV_len (d : DVoters) (x : Int) (h : d.weights.length ≤ 1048576 ∧ d.proxies.length ≤ 1048576) : (revV d x).1.weights.length ≤ 4000000 ∧ (revV d x).1.proxies.length ≤ 4000000 := by
  have := outQ_len x d.proxies
  unfold revV
  split <;> simp <;> omega
theorem nextQ_len {n : Int} {ps : List DProxy} {pv : Option Int} (h : proxOk n pv ps = true) (x : Int) : (outQ x ps).length = ps.length ↔ nextQ ps x < 0 := by
  have hm := proxOk_mem h
  clear h
  induction ps with
  | nil => simp [keepF, nextQ]
  | cons p r ih =>
    have ih' := ih (fun q hq => hm q (List.mem_cons_of_mem _ hq))
    by_cases hp : p.fr = x
    · have h1 : nextQ (p :: r) x = p.to := by simp [nextQ, hp]
      have h2 := (inB_iff.1 (hm p List.mem_cons_self).2.1).1
      have h3 := outQ_len x r
      have h4 : outQ x (p :: r) = outQ x r := by simp [keepF, hp]
      rw [h1, h4, List.length_cons]
      constructor <;> intro h <;> omega
    · have h1 : nextQ (p :: r) x = nextQ r x := by simp [nextQ, hp]
      have h4 : outQ x (p :: r) = p :: outQ x r := by simp [keepF, hp]
      rw [h1, h4]
      simpa using ih'
theorem nextQ_has {n : Int} {ps : List DProxy} {pv : Option Int} (h : proxOk n pv ps = true) (x : Int) (hx : ¬ nextQ ps x < 0) : inB x 0 (n - 1) = true := by
  have hm := proxOk_mem h
  clear h
  induction ps with
  | nil => simp [nextQ] at hx
  | cons p r ih =>
    by_cases hp : p.fr = x
    · rw [← hp]; exact (hm p List.mem_cons_self).1
    · have h1 : nextQ (p :: r) x = nextQ r x := by simp [nextQ, hp]
      rw [h1] at hx
      exact ih hx (fun q hq => hm q (List.mem_cons_of_mem _ hq))
theorem revV_spec (d : DVoters) (x : Int) : revV d x = if votersOk d && inB x 0 ((d.weights.length : Int) - 1) && decide (¬ nextQ d.proxies x < 0) then (⟨d.weights, outQ x d.proxies⟩, true) else (⟨[], []⟩, false) := by
  unfold revV
  cases hok : votersOk d with
  | false => simp
  | true =>
    have hp := (votersOk_parts hok).2.2
    have h1 := nextQ_len hp x
    by_cases hx : nextQ d.proxies x < 0
    · have h2 := h1.2 hx
      simp [h2, hx]
    · have h2 := mt h1.1 hx
      have h3 := nextQ_has hp x hx
      simp [h2, hx, h3]

set_option maxHeartbeats 2000000 in
theorem s_RevokeProxy (v u : Value) (d : DVoters) (x : Int) (w : World) (h : VotersAt w v u d) (hn : d.weights.length ≤ 1048576 ∧ d.proxies.length ≤ 1048576) :
    Calls Try.prog 39 #[vVoters v u, .int .i64 x] w fun e w' => ∃ p q, e = .returned (.tuple #[vVoters p q, .bool (revV d x).2]) ∧ OwnV w' w.heap.size p q (revV d x).1 ∧ Below w.heap.size w w' := by
  obtain ⟨ao, cap, ao', cap', rfl, rfl⟩ := h.form
  obtain ⟨W, hW⟩ : ∃ W, W = (w.alloc (.cells #[.slice ao d.weights.length cap, .slice ao' d.proxies.length cap'] 29)).alloc (.cells #[.slice none 0 0, .slice none 0 0] 29) := ⟨_, rfl⟩
  have bA : BoxAt W w.heap.size #[.slice ao d.weights.length cap, .slice ao' d.proxies.length cap'] := by rw [hW]; exact (BoxAt.new _ _ _).alloc _
  have bR : BoxAt W (w.heap.size + 1) #[.slice none 0 0, .slice none 0 0] := by rw [hW]; exact BoxAt.new_at _ _ _ _ (by simp)
  have hWb : Below w.heap.size w W := by rw [hW]; go_grown
  have hI := h.below hWb
  have HW := Lib.hid hW; clear hW
  have a0 := bA.cells
  have hlt := bR.1
  have HV := s_l12Voter _ _ d x W hI hn
  have finF : ∀ w1 wf, Below W.heap.size W w1 → OutOf (w.heap.size + 1) (w.heap.size + 2) w1 wf → OwnV wf w.heap.size (.slice none 0 0) (.slice none 0 0) ⟨[], []⟩ ∧ Below w.heap.size w wf := fun w1 wf h1 h2 =>
    ⟨OwnV.nil _ _, fin_below2 (hWb.trans (h1.mono hWb.size)) h2 (Nat.le_succ _)⟩
  rw [revV_spec]
  cases hok : votersOk d && inB x 0 ((d.weights.length : Int) - 1) with
  | false =>
    rw [hok] at HV
    have HV' := Lib.hid HV; clear HV hok
    simp only [Bool.false_and, Bool.false_eq_true, if_false]
    go_enter Try.func39, Try.ntmps39
    go_wp2_with fail
    rw [← HW.out]
    go_wp2_with fail
    refine HV'.out.mono ?_
    rintro e w1 ⟨rfl, hb1⟩
    have R1 := bR.below hb1
    have r1 := R1.cells; have rf1 := R1.free
    clear a0
    go_wp2_with fail
    refine bodyPost_ret (v := .tuple #[vVoters (.slice none 0 0) (.slice none 0 0), .bool false]) (by simp [results, Try.results39, go_sem, r1]) rfl ⟨_, _, rfl, finF w1 _ hb1 ?_⟩
    repeat (first | with_reducible exact OutOf.refl _ _ _ | with_reducible refine OutOf.setIn ?_ ?_ ?_ _ | (simp; done) | omega)
  | true =>
    rw [hok] at HV
    have HV' := Lib.hid HV; clear HV hok
    simp only [Bool.true_and]
    cases hx : decide (nextQ d.proxies x < 0) with
    | true =>
      have hx' : nextQ d.proxies x < 0 := by simpa using hx
      have hR : (if decide (¬ nextQ d.proxies x < 0) = true then ((⟨d.weights, outQ x d.proxies⟩ : DVoters), true) else (⟨[], []⟩, false)) = (⟨[], []⟩, false) := by simp [hx']
      rw [hR]
      have HX := Lib.hid hx'; clear hR hx hx'
      go_enter Try.func39, Try.ntmps39
      go_wp2_with fail
      rw [← HW.out]
      go_wp2_with fail
      refine HV'.out.mono ?_
      rintro e w1 ⟨rfl, hb1⟩
      have A1 := bA.below hb1
      have a1 := A1.cells
      clear a0
      go_wp2_with fail
      refine (s_l12Next _ _ d x _ (hI.below hb1)).mono ?_
      rintro e w2 ⟨rfl, hb2⟩
      have hb12 := below_step hb1 hb2
      have R2 := bR.below hb12
      have r2 := R2.cells; have rf2 := R2.free
      have hx := HX.out
      clear a1
      go_wp2_with fail
      refine bodyPost_ret (v := .tuple #[vVoters (.slice none 0 0) (.slice none 0 0), .bool false]) (by simp [results, Try.results39, go_sem, r2]) rfl ⟨_, _, rfl, finF w2 _ hb12 ?_⟩
      repeat (first | with_reducible exact OutOf.refl _ _ _ | with_reducible refine OutOf.setIn ?_ ?_ ?_ _ | (simp; done) | omega)
    | false =>
      have hx' : ¬ nextQ d.proxies x < 0 := by simpa using hx
      have hR : (if decide (¬ nextQ d.proxies x < 0) = true then ((⟨d.weights, outQ x d.proxies⟩ : DVoters), true) else (⟨[], []⟩, false)) = (⟨d.weights, outQ x d.proxies⟩, true) := by simp [hx']
      rw [hR]
      have HX := Lib.hid hx'; clear hR hx hx'
      go_enter Try.func39, Try.ntmps39
      go_wp2_with fail
      rw [← HW.out]
      go_wp2_with fail
      refine HV'.out.mono ?_
      rintro e w1 ⟨rfl, hb1⟩
      have A1 := bA.below hb1
      have a1 := A1.cells
      clear a0
      go_wp2_with fail
      refine (s_l12Next _ _ d x _ (hI.below hb1)).mono ?_
      rintro e w2 ⟨rfl, hb2⟩
      have hb12 := below_step hb1 hb2
      have A2 := bA.below hb12
      have a2 := A2.cells
      have hx := HX.out
      clear a1
      go_wp2_with fail
      refine (s_l12Without _ _ d x _ (hI.below hb12) hn).mono ?_
      rintro e w3 ⟨p, q, rfl, ho3, hb3⟩
      obtain ⟨a3, k3, a3', k3', rfl, rfl⟩ := ho3.at_.form
      have hb13 := below_step hb12 hb3
      have R3 := bR.below hb13
      have r3 := R3.cells; have rf3 := R3.free
      have hs2 := hb12.size
      clear a2
      go_wp2_with fail
      refine bodyPost_ret (v := .tuple #[vVoters (.slice a3 d.weights.length k3) (.slice a3' (outQ x d.proxies).length k3'), .bool true]) (by simp [results, Try.results39, go_sem, r3]) rfl ⟨_, _, rfl, ?_⟩
      have hfin : ∀ wf, OutOf (w.heap.size + 1) (w.heap.size + 2) w3 wf → OwnV wf w.heap.size (.slice a3 d.weights.length k3) (.slice a3' (outQ x d.proxies).length k3') ⟨d.weights, outQ x d.proxies⟩ ∧ Below w.heap.size w wf := fun wf hf =>
        ⟨⟨own_base (own_apart ho3.1 hf (by omega)) (by omega), own_base (own_apart ho3.2.1 hf (by omega)) (by omega), ho3.2.2⟩, fin_below2 (hWb.trans (hb13.mono hWb.size)) hf (Nat.le_succ _)⟩
      refine hfin _ ?_
      repeat (first | with_reducible exact OutOf.refl _ _ _ | with_reducible refine OutOf.setIn ?_ ?_ ?_ _ | (simp; done) | omega)

end Go.Proofs.Ytapkicfbknoioaa
