/- Contract: spec.GiveProxy. No conditions beyond sizes. -/
import Derived.Test.YtapkicfbknoioaaGiveL
import Derived.Deep.CutBlock
import Derived.Deep.DeepCutAuto
namespace Go.Proofs.Ytapkicfbknoioaa
open Go.RowKit
set_option linter.unusedVariables false
set_option linter.unusedSimpArgs false

theorem BoxAt.drw {w : World} {b : Nat} {cs : Array Value} (h : BoxAt w b cs) : BoxAt w.drew b cs := h
theorem bl1 (w : World) (o : Obj) : Below w.heap.size w (w.alloc o).drew := Below.drew ((Below.refl _ _).alloc (Nat.le_refl _) _)
theorem bl2 (w : World) (o o' : Obj) : Below w.heap.size w ((w.alloc o).alloc o').drew := Below.drew (Below.alloc ((Below.refl _ _).alloc (Nat.le_refl _) _) (by simp) _)
theorem RowAt.tailQ1 {w : World} {ao : Option Addr} {n cap k size : Nat} {cs : List Value} (h : RowAt w (.slice ao n cap) n size cs) (hk : k ≤ n) : RowAt w (.slice (if cap = k then ao else ao.map (·.add (k * size))) (n - k) (cap - k)) (n - k) size (cs.drop (k * size)) := RowAt.tail h hk
theorem RowAt.tailQ2 {w : World} {b off n cap k size : Nat} {cs : List Value} (h : RowAt w (.slice (some ⟨b, off, none⟩) n cap) n size cs) (hk : k ≤ n) : RowAt w (.slice (if cap = k then some ⟨b, off, none⟩ else some ⟨b, off + k * size, none⟩) (n - k) (cap - k)) (n - k) size (cs.drop (k * size)) := by
  have := RowAt.tailQ1 h hk
  simpa [Addr.add_lit] using this
theorem proxOk_len {n : Int} : ∀ {ps : List DProxy} {pv : Option Int} (lo : Int), proxOk n pv ps = true → (∀ y, pv = some y → lo ≤ y + 1) → (pv = none → lo ≤ 0) → lo + ps.length ≤ n ∨ ps = []
  | [], _, _, _, _, _ => .inr rfl
  | p :: r, pv, lo, h, h1, h2 => by
    refine .inl ?_
    have hm := proxOk_mem h p List.mem_cons_self
    have h3 := inB_iff.1 hm.1
    simp only [proxOk, Bool.and_eq_true] at h
    have h4 : lo ≤ p.fr := by
      cases pv with
      | none => have := h2 rfl; omega
      | some y => have := h1 y rfl; have := hm.2.2 y rfl; omega
    rcases proxOk_len (lo + 1) h.2 (fun y hy => by cases hy; omega) (fun e => by cases e) with h5 | h5
    · simp only [List.length_cons]; omega
    · subst h5; simp only [List.length_cons, List.length_nil]; omega
/-- Valid voters have few proxies. -/
theorem votersOk_few {d : DVoters} (h : votersOk d = true) : d.weights.length ≤ 12 ∧ d.proxies.length ≤ 12 := by
  have h1 := votersOk_parts h
  refine ⟨h1.1, ?_⟩
  rcases proxOk_len 0 h1.2.2 (fun y hy => by cases hy) (fun _ => Int.le_refl _) with h2 | h2
  · have := h1.1; omega
  · rw [h2]; exact Nat.zero_le _
theorem putQ_cells {x t : Int} {qs : List DProxy} {k : Nat} (hk : k = atQ x qs) (hkn : k ≤ qs.length) : k + 1 + (qs.length - k) = (putQ x t qs).length ∧ ((qcs qs).take (k * 2) ++ (#[.int .i64 x, .int .i64 t] : Array Value).toList) ++ (qcs qs).drop (k * 2) = qcs (putQ x t qs) := by
  have hd : ∀ (ps : List DProxy) (k : Nat), (qcs ps).drop (k * 2) = qcs (ps.drop k) := fun ps k => by
    induction k generalizing ps with
    | zero => simp
    | succ k ih =>
      cases ps with
      | nil => simp [qcs]
      | cons p r =>
        have : (k + 1) * 2 = k * 2 + 1 + 1 := by omega
        rw [this]
        simp only [qcs, List.flatMap_cons, DProxy.cs, List.cons_append, List.nil_append, List.drop_succ_cons]
        exact ih r
  refine ⟨by rw [putQ_len]; omega, ?_⟩
  rw [qcs_take, hd, putQ, ← hk]
  simp [qcs, DProxy.cs]

/-- Behind the appends: the box holds the new proxies. -/
def GivAft (w3 W5 wx : World) (p q : Value) (L : List DProxy) : Prop := ∃ a6 k6 y3, wx = World.setCell y3 ⟨w3.heap.size, 1, none⟩ (.slice a6 L.length k6) ∧ BoxAt y3 w3.heap.size #[p, q] ∧ y3.ownsRow W5.heap.size 61 2 (.slice a6 L.length k6) L.length (qcs L) ∧ Below W5.heap.size W5 y3

set_option maxRecDepth 100000 in
set_option maxHeartbeats 12000000 in
theorem s_GiveProxy (v u : Value) (d : DVoters) (x t : Int) (w : World) (h : VotersAt w v u d) (hn : d.weights.length ≤ 1048576 ∧ d.proxies.length ≤ 1048576) :
    Calls Try.prog 7 #[vVoters v u, .int .i64 x, .int .i64 t] w fun e w' => ∃ p q, e = .returned (.tuple #[vVoters p q, .bool (giveV d x t).2]) ∧ OwnV w' w.heap.size p q (giveV d x t).1 ∧ Below w.heap.size w w' := by
  obtain ⟨ao, cap, ao', cap', rfl, rfl⟩ := h.form
  obtain ⟨W, hW⟩ : ∃ W, W = (w.alloc (.cells #[.slice ao d.weights.length cap, .slice ao' d.proxies.length cap'] 29)).alloc (.cells #[.slice none 0 0, .slice none 0 0] 29) := ⟨_, rfl⟩
  have bA : BoxAt W w.heap.size #[.slice ao d.weights.length cap, .slice ao' d.proxies.length cap'] := by rw [hW]; exact (BoxAt.new _ _ _).alloc _
  have bR : BoxAt W (w.heap.size + 1) #[.slice none 0 0, .slice none 0 0] := by rw [hW]; exact BoxAt.new_at _ _ _ _ (by simp)
  have hWb : Below w.heap.size w W := by rw [hW]; go_grown
  have hI := h.below hWb
  have HW := Lib.hid hW; clear hW
  have a0 := bA.cells
  have hlt := bR.1
  have HV := s_l12Voter _ _ d x W hI hn
  have finF : ∀ w1 wf, Below W.heap.size W w1 → OutOf (w.heap.size + 1) (w.heap.size + 2) w1 wf → OwnV wf w.heap.size (.slice none 0 0) (.slice none 0 0) ⟨[], []⟩ ∧ Below w.heap.size w wf := fun w1 wf h1 h2 =>
    ⟨OwnV.nil _ _, fin_below2 (hWb.trans (h1.mono hWb.size)) h2 (Nat.le_succ _)⟩
  rw [giveV_spec]
  cases hok : votersOk d && inB x 0 ((d.weights.length : Int) - 1) with
  | false =>
    rw [hok] at HV
    have HV' := Lib.hid HV; clear HV hok
    simp only [Bool.false_eq_true, if_false]
    go_enter Try.func7, Try.ntmps7
    go_wp2_with fail
    rw [← HW.out]
    go_wp2_with fail
    refine HV'.out.mono ?_
    rintro e w1 ⟨rfl, hb1⟩
    have R1 := bR.below hb1
    have r1 := R1.cells; have rf1 := R1.free
    clear a0
    go_wp2_with fail
    refine bodyPost_ret (v := .tuple #[vVoters (.slice none 0 0) (.slice none 0 0), .bool false]) (by simp [results, Try.results7, go_sem, r1]) rfl ⟨_, _, rfl, finF w1 _ hb1 ?_⟩
    repeat (first | with_reducible exact OutOf.refl _ _ _ | with_reducible refine OutOf.setIn ?_ ?_ ?_ _ | (simp; done) | omega)
  | true =>
    rw [hok] at HV
    have hfew := votersOk_few (Bool.and_eq_true_iff.1 hok).1
    have HV' := Lib.hid HV; clear HV hok
    simp only [if_true]
    obtain ⟨R, hR⟩ : ∃ R, R = (if votersOk (givD d x t) = true then (givD d x t, true) else ((⟨[], []⟩ : DVoters), false)) := ⟨_, rfl⟩
    rw [← hR]
    obtain ⟨qs, hqs⟩ : ∃ qs, qs = outQ x d.proxies := ⟨_, rfl⟩
    have hql : qs.length ≤ 12 := by rw [hqs]; exact Nat.le_trans (outQ_len _ _) hfew.2
    have hG : givD d x t = ⟨d.weights, putQ x t qs⟩ := by rw [hqs]; rfl
    rw [hG] at hR
    have HR := Lib.hid hR; have HQS := Lib.hid hqs; clear hR hqs hG
    go_enter Try.func7, Try.ntmps7
    go_wp2_with fail
    rw [← HW.out]
    go_wp2_with fail
    refine HV'.out.mono ?_
    rintro e w1 ⟨rfl, hb1⟩
    have A1 := bA.below hb1
    have a1 := A1.cells
    clear a0
    go_wp2_with fail
    refine (s_l12Without _ _ d x _ (hI.below hb1) hn).mono ?_
    rw [← HQS.out]
    rintro e w3 ⟨p, q, rfl, ho3, hb3⟩
    obtain ⟨a3, k3, a3', k3', rfl, rfl⟩ := ho3.at_.form
    dsimp only at ho3
    have hb13 := below_step hb1 hb3
    have hs13 := hb3.size
    obtain ⟨W5, hW5⟩ : ∃ W5, W5 = w3.alloc (.cells #[.slice a3 d.weights.length k3, .slice a3' qs.length k3'] 29) := ⟨_, rfl⟩
    have O5 : BoxAt W5 w3.heap.size #[.slice a3 d.weights.length k3, .slice a3' qs.length k3'] := by rw [hW5]; exact BoxAt.new _ _ _
    have hb5 : Below w3.heap.size w3 W5 := by rw [hW5]; exact (Below.refl _ _).alloc (Nat.le_refl _) _
    have hs5 : W5.heap.size = w3.heap.size + 1 := by rw [hW5]; simp
    have ho5 := ho3.below hb5
    have hP : ProxsAt W5 (.slice a3' qs.length k3') qs := ho5.at_.2
    have HW5 := Lib.hid hW5; have HS5 := Lib.hid hs5; clear hW5 hs5
    have o5 := O5.cells; have of5 := O5.free
    clear a1 ho5
    go_upto_block 0 with fail
    rw [← HW5.out]
    go_cut [9] from 18 to 34 (fun i wx => i = .int .i64 (atQ x qs : Nat) ∧ W5 = wx)
    case first => as_aux_lemma =>
      go_wp2_with fail
      go_loopw [9] (fun i wr => ∃ k : Nat, k ≤ qs.length ∧ i = .int .i64 k ∧ Hid (atQ x qs = k + atQ x (qs.drop k)) ∧ W5 = wr) (fun i _ => qs.length - (intOf i).toNat)
      case atStart => exact ⟨0, by omega, rfl, by simp [Hid], by trivial⟩
      case round =>
        obtain ⟨k, hk, rfl, HK, rfl⟩ := hrel
        obtain ⟨hP0, _, _, hvP, q1, q2, q3⟩ := hP
        cases hvP
        unfold maxLen at q2
        by_cases hlt' : k < qs.length
        · obtain ⟨b, off, rfl, h4, h5⟩ := q3 (by omega)
          obtain ⟨c0, c1⟩ := h5.prox hlt'
          by_cases hx : qs[k].fr < x
          · have HK2 : Hid (atQ x qs = (k + 1) + atQ x (qs.drop (k + 1))) := by have := HK.out; rw [atQ_on hlt' hx] at this; rw [Hid]; omega
            generalize qs[k] = y at *
            obtain ⟨fr, tq⟩ := y
            go_wp2_with fail
            go_roundw
            case rel => exact ⟨k + 1, by omega, by go_num, HK2, by trivial⟩
            case measure => simp [intOf]; omega
          · have HK2 : Hid (k = atQ x qs) := by have := HK.out; rw [atQ_off hlt' hx] at this; rw [Hid]; omega
            generalize qs[k] = y at *
            obtain ⟨fr, tq⟩ := y
            go_wp2_with fail
            go_meet
            exact ⟨by rw [← HK2.out], by trivial⟩
        · have HK2 : Hid (k = atQ x qs) := by
            have h0 := HK.out
            have : qs.drop k = [] := List.drop_of_length_le (by omega)
            rw [this] at h0; rw [Hid]; simp [atQ] at h0; omega
          go_wp2_with fail
          go_meet
          exact ⟨by rw [← HK2.out], by trivial⟩
    case rest =>
      obtain ⟨rfl, rfl⟩ := hcut
      obtain ⟨k, hat⟩ : ∃ k, k = atQ x qs := ⟨_, rfl⟩
      have hk : k ≤ qs.length := by rw [hat]; exact atQ_le x qs
      have hE := putQ_cells (x := x) (t := t) hat hk
      rw [← hat]
      have hI5 : Hid (RowAt W5 (.slice a3' qs.length k3') qs.length 2 (qcs qs)) := hP
      obtain ⟨hP0, _, _, hvP, q1, q2, q3⟩ := hP
      cases hvP
      unfold maxLen at q2
      have E1 := Lib.hid hE.1; have E2 := Lib.hid hE.2
      have hk2 : k ≤ qs.length := hk
      have hk0 : (0 : Int) ≤ (k : Int) := by omega
      have hkn : (k : Int) ≤ (qs.length : Int) := by omega
      have hkc : (k : Int) ≤ (k3' : Int) := by omega
      have hnc : (qs.length : Int) ≤ (k3' : Int) := by omega
      have HP1 := fun u hu => qcs_one qs u (List.mem_of_mem_take (i := k * 2) hu)
      have HP3 := fun u hu => qcs_one qs u (List.mem_of_mem_drop (i := k * 2) hu)
      have HR1 : ∀ u ∈ (#[.int .i64 x, .int .i64 t] : Array Value).toList, u.oneCell' = true := by simp [Value.oneCell']
      have oa := fun o => (O5.alloc o).cells
      have ob := fun o o' => ((O5.alloc o).alloc o').cells
      clear hat hE hP0 q3
      go_upto_region 7 with fail
      go_cut [9] (fun _ wx => GivAft w3 W5 wx (.slice a3 d.weights.length k3) (.slice a3' qs.length k3') (putQ x t qs))
      case first => as_aux_lemma =>
        go_region_law (first
        | ((with_reducible change ite (Region.wanted (Oper.mk (some 40) _ _ _ _ _) _ = true) (Oper.wp _ _ _ (World.drew (World.alloc W5 (Obj.cells #[] _))) _ _) _); (refine step_append_row (by rfl) (.tmp 35) (.tmp 39) _ (by rfl) W5.heap.size 61 _ 2 16 proxy_info Try.underlying27 (by rfl) (by omega) (by omega) (.slice (some ⟨W5.heap.size, 0, none⟩) 0 0) 0 [] (by rfl) ((own_emptyA W5 61 2).drew) _ k ((qcs qs).take (k * 2)) (by rfl) (RowAt.head (RowAt.below hI5.out (bl1 W5 _)) hk2) HP1 (by omega) (by omega) (Below.size (bl1 W5 _)) ?_); (intro v1 y1 o1 g1 a1); (have hc1 : Below W5.heap.size W5 y1 := Below.grown (bl1 W5 _) g1 (Below.size (bl1 W5 _)) (own_ge (by omega) 0 0)); (simp only [Nat.zero_add, List.nil_append] at o1); (have X1 : BoxAt y1 w3.heap.size _ := box_grownR ((O5.alloc _).drw) g1 (fun e => by have := HS5.out; simp [Value.ownBlock] at e; omega)); (have x1 := X1.cells); (have xf1 := X1.free); (have xa1 := fun o => (X1.alloc o).cells))
        | ((with_reducible change ite (Region.wanted (Oper.mk (some 40) _ _ _ _ _) _ = true) (Oper.wp _ _ _ (World.drew (World.alloc (World.alloc W5 (Obj.cells #[] _)) (Obj.cells #[_, _] _))) _ _) _); (refine step_append_row (by rfl) (.tmp 35) (.tmp 39) _ (by rfl) W5.heap.size 61 _ 2 16 proxy_info Try.underlying27 (by rfl) (by omega) (by omega) (.slice (some ⟨W5.heap.size, 0, none⟩) 0 0) 0 [] (by rfl) ((own_emptyB W5 61 2 _).drew) _ k ((qcs qs).take (k * 2)) (by rfl) (RowAt.head (RowAt.below hI5.out (bl2 W5 _ _)) hk2) HP1 (by omega) (by omega) (Below.size (bl2 W5 _ _)) ?_); (intro v1 y1 o1 g1 a1); (have hc1 : Below W5.heap.size W5 y1 := Below.grown (bl2 W5 _ _) g1 (Below.size (bl2 W5 _ _)) (own_ge (by omega) 0 0)); (simp only [Nat.zero_add, List.nil_append] at o1); (have X1 : BoxAt y1 w3.heap.size _ := box_grownR (((O5.alloc _).alloc _).drw) g1 (fun e => by have := HS5.out; simp [Value.ownBlock] at e; omega)); (have x1 := X1.cells); (have xf1 := X1.free); (have xa1 := fun o => (X1.alloc o).cells); (have hr1 := RowAt.grown (RowAt.drew (row_oneA W5 61 2 #[.int .i64 x, .int .i64 t] (.cells #[] 61) rfl)) g1 (some_ne_own (by omega) 0 0)))
        | ((with_reducible change ite (Region.wanted (Oper.mk (some 40) _ _ _ _ _) _ = true) (Oper.wp _ _ _ (World.drew (World.alloc (World.alloc W5 (Obj.cells #[_, _] _)) (Obj.cells #[] _))) _ _) _); (refine step_append_row (by rfl) (.tmp 35) (.tmp 39) _ (by rfl) W5.heap.size 61 _ 2 16 proxy_info Try.underlying27 (by rfl) (by omega) (by omega) (.slice (some ⟨W5.heap.size + 1, 0, none⟩) 0 0) 0 [] (by rfl) ((own_emptyC W5 61 2 _).drew) _ k ((qcs qs).take (k * 2)) (by rfl) (RowAt.head (RowAt.below hI5.out (bl2 W5 _ _)) hk2) HP1 (by omega) (by omega) (Below.size (bl2 W5 _ _)) ?_); (intro v1 y1 o1 g1 a1); (have hc1 : Below W5.heap.size W5 y1 := Below.grown (bl2 W5 _ _) g1 (Below.size (bl2 W5 _ _)) (own_ge (by omega) 0 0)); (simp only [Nat.zero_add, List.nil_append] at o1); (have X1 : BoxAt y1 w3.heap.size _ := box_grownR (((O5.alloc _).alloc _).drw) g1 (fun e => by have := HS5.out; simp [Value.ownBlock] at e; omega)); (have x1 := X1.cells); (have xf1 := X1.free); (have xa1 := fun o => (X1.alloc o).cells); (have hr1 := RowAt.grown (RowAt.drew (row_oneB W5 61 2 #[.int .i64 x, .int .i64 t] (.cells #[] 61) rfl)) g1 (some_ne_own (by omega) 0 0)))
        | ((with_reducible change ite (Region.wanted (Oper.mk (some 45) _ _ _ _ _) _ = true) (Oper.wp _ _ _ (y1) _ _) _); (refine step_append_row (by rfl) (.tmp 40) (.tmp 44) _ (by rfl) W5.heap.size 61 _ 2 16 proxy_info Try.underlying27 (by rfl) (by omega) (by omega) v1 k ((qcs qs).take (k * 2)) (by rfl) (o1) _ 1 #[.int .i64 x, .int .i64 t].toList (by rfl) (hr1) HR1 (by omega) (by omega) (Below.size (hc1)) ?_); (intro v2 y2 o2 g2 a2); (have hc2 : Below W5.heap.size W5 y2 := Below.grown (hc1) g2 (Below.size (hc1)) (fun b hb => (o1.lt b hb).1)); (have X2 : BoxAt y2 w3.heap.size _ := box_grownR (X1) g2 (fun e => by have := HS5.out; have := (o1.lt _ e).1; omega)); (have x2 := X2.cells); (have xf2 := X2.free))
        | ((with_reducible change ite (Region.wanted (Oper.mk (some 45) _ _ _ _ _) _ = true) (Oper.wp _ _ _ (World.alloc y1 _) _ _) _); (refine step_append_row (by rfl) (.tmp 40) (.tmp 44) _ (by rfl) W5.heap.size 61 _ 2 16 proxy_info Try.underlying27 (by rfl) (by omega) (by omega) v1 k ((qcs qs).take (k * 2)) (by rfl) (own_below o1 ((Below.refl _ _).alloc (Nat.le_refl _) _)) _ 1 #[.int .i64 x, .int .i64 t].toList (by rfl) (row_oneN y1 61 2 #[.int .i64 x, .int .i64 t] rfl) HR1 (by omega) (by omega) (Below.size (Below.alloc hc1 (Below.size hc1) _)) ?_); (intro v2 y2 o2 g2 a2); (have hc2 : Below W5.heap.size W5 y2 := Below.grown (Below.alloc hc1 (Below.size hc1) _) g2 (Below.size (Below.alloc hc1 (Below.size hc1) _)) (fun b hb => (o1.lt b hb).1)); (have X2 : BoxAt y2 w3.heap.size _ := box_grownR (X1.alloc _) g2 (fun e => by have := HS5.out; have := (o1.lt _ e).1; omega)); (have x2 := X2.cells); (have xf2 := X2.free))
        | ((with_reducible change ite (Region.wanted (Oper.mk (some 50) _ _ _ _ _) _ = true) (Oper.wp _ _ _ (y2) _ _) _); (refine step_append_row (by rfl) (.tmp 45) (.tmp 49) _ (by rfl) W5.heap.size 61 _ 2 16 proxy_info Try.underlying27 (by rfl) (by omega) (by omega) v2 (k + 1) ((qcs qs).take (k * 2) ++ (#[.int .i64 x, .int .i64 t] : Array Value).toList) (by rfl) (o2) _ (qs.length - k) ((qcs qs).drop (k * 2)) (by rfl) (RowAt.tailQ1 (RowAt.below hI5.out hc2) hk2) HP3 (by omega) (by omega) (Below.size hc2) ?_); (intro v3 y3 o3 g3 a3z); (have hc3 : Below W5.heap.size W5 y3 := Below.grown hc2 g3 (Below.size hc2) (fun b hb => (o2.lt b hb).1)); (have X3 : BoxAt y3 w3.heap.size _ := box_grownR X2 g3 (fun e => by have := HS5.out; have := (o2.lt _ e).1; omega)); (rw [E1.out, E2.out] at o3); (obtain ⟨a6, k6, rfl⟩ := (rowAt_of_own o3).form); (have x3 := X3.cells); (have xf3 := X3.free))
        | ((with_reducible change ite (Region.wanted (Oper.mk (some 50) _ _ _ _ _) _ = true) (Oper.wp _ _ _ (y2) _ _) _); (refine step_append_row (by rfl) (.tmp 45) (.tmp 49) _ (by rfl) W5.heap.size 61 _ 2 16 proxy_info Try.underlying27 (by rfl) (by omega) (by omega) v2 (k + 1) ((qcs qs).take (k * 2) ++ (#[.int .i64 x, .int .i64 t] : Array Value).toList) (by rfl) (o2) _ (qs.length - k) ((qcs qs).drop (k * 2)) (by rfl) (RowAt.tailQ2 (RowAt.below hI5.out hc2) hk2) HP3 (by omega) (by omega) (Below.size hc2) ?_); (intro v3 y3 o3 g3 a3z); (have hc3 : Below W5.heap.size W5 y3 := Below.grown hc2 g3 (Below.size hc2) (fun b hb => (o2.lt b hb).1)); (have X3 : BoxAt y3 w3.heap.size _ := box_grownR X2 g3 (fun e => by have := HS5.out; have := (o2.lt _ e).1; omega)); (rw [E1.out, E2.out] at o3); (obtain ⟨a6, k6, rfl⟩ := (rowAt_of_own o3).form); (have x3 := X3.cells); (have xf3 := X3.free)))
        all_goals go_wp2_with fail
        all_goals go_meet
        all_goals exact ⟨_, _, _, rfl, X3, o3, hc3⟩
      case rest =>
        rename World => wx
        obtain ⟨a6, k6, y3, rfl, X3, o6, hc3⟩ := hcut
        clear oa ob HP1 HP3 HR1 hI5
        have hs5 := HS5.out
        have hsc := hc3.size
        have ho6 : OutOf w3.heap.size (w3.heap.size + 1) y3 (y3.setCell ⟨w3.heap.size, 1, none⟩ (.slice a6 (putQ x t qs).length k6)) := (OutOf.refl _ _ _).set _
        have hB6 : Below w3.heap.size w3 (y3.setCell ⟨w3.heap.size, 1, none⟩ (.slice a6 (putQ x t qs).length k6)) := (hb5.trans (hc3.mono (by omega))).trans (ho6.below (Nat.le_refl _) (by omega))
        have B6 : BoxAt (y3.setCell ⟨w3.heap.size, 1, none⟩ (.slice a6 (putQ x t qs).length k6)) w3.heap.size #[.slice a3 d.weights.length k3, .slice a6 (putQ x t qs).length k6] := by simpa using X3.setR (i := 1) (by simp) (.slice a6 (putQ x t qs).length k6)
        have hown6 : OwnV (y3.setCell ⟨w3.heap.size, 1, none⟩ (.slice a6 (putQ x t qs).length k6)) w1.heap.size (.slice a3 d.weights.length k3) (.slice a6 (putQ x t qs).length k6) ⟨d.weights, putQ x t qs⟩ := by
          refine ⟨OwnI.below ho3.1 hB6, own_base (own_apart o6 ho6 (by omega)) (by omega), ?_⟩
          cases hq : (Value.slice a3 d.weights.length k3).ownBlock with
          | none => exact .inl rfl
          | some g => exact .inr (fun e => by have h1 := (o6.lt _ e).1; have h2 := (ho3.1.lt _ hq).2; omega)
        have hB16 := below_step hb13 hB6
        have b6 := B6.cells
        have W6n : ∃ W6, W6 = y3.setCell ⟨w3.heap.size, 1, none⟩ (.slice a6 (putQ x t qs).length k6) := ⟨_, rfl⟩
        obtain ⟨W6, hW6⟩ := W6n
        rw [← hW6] at b6 hB6 hB16 hown6 B6
        have HW6 := Lib.hid hW6
        rw [← hW6]
        clear hW6 ho6 o5 of5
        go_wp2_with fail
        refine (s_l12Good _ _ ⟨d.weights, putQ x t qs⟩ _ hown6.at_ ⟨hn.1, by dsimp only; rw [putQ_len]; omega⟩).mono ?_
        rintro e w9 ⟨rfl, hb9⟩
        have hC9 := below_step hB16 hb9
        have B9 := B6.below hb9
        have b9 := B9.cells
        have R9 := bR.below hC9
        have r9 := R9.cells; have rf9 := R9.free
        have hown9 := hown6.below hb9
        have hs9 := hC9.size
        have hs1 := hb1.size
        clear b6
        cases hvo : votersOk ⟨d.weights, putQ x t qs⟩ with
        | false =>
          have hR3 : R = (⟨[], []⟩, false) := by rw [HR.out, if_neg (by rw [hvo]; simp)]
          have HR3 := Lib.hid hR3; clear hR3 hvo
          go_wp2_with fail
          refine bodyPost_ret (v := .tuple #[vVoters (.slice none 0 0) (.slice none 0 0), .bool false]) (by simp [results, Try.results7, go_sem, r9]) rfl ?_
          rw [HR3.out]
          refine ⟨_, _, rfl, finF w9 _ hC9 ?_⟩
          repeat (first | with_reducible exact OutOf.refl _ _ _ | with_reducible refine OutOf.setIn ?_ ?_ ?_ _ | (simp; done) | omega)
        | true =>
          have hR3 : R = (⟨d.weights, putQ x t qs⟩, true) := by rw [HR.out, if_pos hvo]
          have HR3 := Lib.hid hR3; clear hR3 hvo
          go_wp2_with fail
          refine bodyPost_ret (v := .tuple #[vVoters (.slice a3 d.weights.length k3) (.slice a6 (putQ x t qs).length k6), .bool true]) (by simp [results, Try.results7, go_sem, r9, b9]) rfl ?_
          rw [HR3.out]
          refine ⟨_, _, rfl, ?_⟩
          have hfin : ∀ wf, OutOf (w.heap.size + 1) (w.heap.size + 2) w9 wf → OwnV wf w.heap.size (.slice a3 d.weights.length k3) (.slice a6 (putQ x t qs).length k6) ⟨d.weights, putQ x t qs⟩ ∧ Below w.heap.size w wf := fun wf hf =>
            ⟨⟨own_base (own_apart hown9.1 hf (by omega)) (by omega), own_base (own_apart hown9.2.1 hf (by omega)) (by omega), hown9.2.2⟩, fin_below2 (hWb.trans (hC9.mono hWb.size)) hf (Nat.le_succ _)⟩
          refine hfin _ ?_
          repeat (first | with_reducible exact OutOf.refl _ _ _ | with_reducible refine OutOf.setIn ?_ ?_ ?_ _ | (simp; done) | omega)

end Go.Proofs.Ytapkicfbknoioaa
