/- Contract: impl.RevokeProxy. No conditions beyond sizes. -/
import Derived.Test.YtapkicfbknoioaaVoteR
import Derived.Deep.DeepCutAuto
namespace Go.Proofs.Ytapkicfbknoioaa
open Go.RowKit
set_option linter.unusedVariables false
set_option linter.unusedSimpArgs false

def CutR (W wx : World) (d : DVoters) (t : Value) : Prop := ∃ b a k a' k', t = .pointer (some ⟨b, 0, none⟩) ∧ W.heap.size ≤ b ∧ BoxAt wx b #[.slice a d.weights.length k, .slice a' d.proxies.length k'] ∧ OwnV wx W.heap.size (.slice a d.weights.length k) (.slice a' d.proxies.length k') d ∧ Below W.heap.size W wx

theorem own_offR {w w' : World} {B e n size b : Nat} {v : Value} {cs : List Value} (h : w.ownsRow B e size v n cs) (ho : OutOf b (b + 1) w w') (hne : v.ownBlock ≠ some b) : w'.ownsRow B e size v n cs := by
  refine ⟨h.1, ?_⟩
  rcases h.2 with h2 | ⟨g, cap, cur, rfl, hg, hgg, r⟩
  · exact .inl h2
  · have hgb : g ≠ b := fun e => hne (by simp [Value.ownBlock, e])
    exact .inr ⟨g, cap, cur, rfl, hg, (ho.block g (Array.getElem?_eq_some_iff.1 hgg).1 (by omega)).trans hgg, r⟩
theorem apart_of {v u : Value} {lo1 hi1 lo2 hi2 : Nat} (h1 : ∀ g, v.ownBlock = some g → lo1 ≤ g ∧ g < hi1) (h2 : ∀ g, u.ownBlock = some g → lo2 ≤ g ∧ g < hi2) (h : hi1 ≤ lo2 ∨ hi2 ≤ lo1) : v.ownBlock = none ∨ u.ownBlock ≠ v.ownBlock := by
  cases hv : v.ownBlock with
  | none => exact .inl rfl
  | some g =>
    refine .inr fun hc => ?_
    have q1 := h1 g hv
    have q2 := h2 g hc
    omega
theorem cutR_alloc {W wz : World} {d : DVoters} {a a' : Option Addr} {k k' : Nat} {t : TypeId} (h1 : OwnInts wz W.heap.size (.slice a d.weights.length k) d.weights) (h2 : OwnProxs wz W.heap.size (.slice a' d.proxies.length k') d.proxies)
    (hd : (Value.slice a d.weights.length k).ownBlock = none ∨ (Value.slice a' d.proxies.length k').ownBlock ≠ (Value.slice a d.weights.length k).ownBlock) (hB : Below W.heap.size W wz) :
    CutR W (wz.alloc (.cells #[.slice a d.weights.length k, .slice a' d.proxies.length k'] t)) d (.pointer (some ⟨wz.heap.size, 0, none⟩)) :=
  ⟨_, a, k, a', k', rfl, hB.size, BoxAt.new _ _ _, ⟨own_below h1 ((Below.refl _ _).alloc (Nat.le_refl _) _), own_below h2 ((Below.refl _ _).alloc (Nat.le_refl _) _), hd⟩, hB.alloc hB.size _⟩
theorem cutR_set {W wz : World} {b : Nat} {d : DVoters} {a a' : Option Addr} {k k' : Nat} (hb : W.heap.size ≤ b) (hbox : BoxAt wz b #[.slice none 0 0, .slice none 0 0]) (h1 : OwnInts wz W.heap.size (.slice a d.weights.length k) d.weights) (h2 : OwnProxs wz W.heap.size (.slice a' d.proxies.length k') d.proxies)
    (n1 : (Value.slice a d.weights.length k).ownBlock ≠ some b) (n2 : (Value.slice a' d.proxies.length k').ownBlock ≠ some b)
    (hd : (Value.slice a d.weights.length k).ownBlock = none ∨ (Value.slice a' d.proxies.length k').ownBlock ≠ (Value.slice a d.weights.length k).ownBlock) (hB : Below W.heap.size W wz) :
    CutR W ((wz.setCell ⟨b, 0, none⟩ (.slice a d.weights.length k)).setCell ⟨b, 1, none⟩ (.slice a' d.proxies.length k')) d (.pointer (some ⟨b, 0, none⟩)) := by
  have ho : OutOf b (b + 1) wz ((wz.setCell ⟨b, 0, none⟩ (.slice a d.weights.length k)).setCell ⟨b, 1, none⟩ (.slice a' d.proxies.length k')) := OutOf.set (OutOf.set (OutOf.refl _ _ _) _) _
  refine ⟨b, a, k, a', k', rfl, hb, ?_, ⟨own_offR h1 ho n1, own_offR h2 ho n2, hd⟩, hB.trans (ho.below hb hB.size)⟩
  have := (hbox.setR (i := 0) (by simp) (.slice a d.weights.length k)).setR (i := 1) (by simp) (.slice a' d.proxies.length k')
  simpa using this

set_option maxHeartbeats 2000000 in
theorem i_RevokeProxy (v u : Value) (d : DVoters) (x : Int) (w : World) (h : VotersAt w v u d) (hn : d.weights.length ≤ 1048576 ∧ d.proxies.length ≤ 1048576) :
    Calls Try.prog 37 #[vVoters v u, .int .i64 x] w fun e w' => ∃ p q, e = .returned (.tuple #[vVoters p q, .bool (revV d x).2]) ∧ OwnV w' w.heap.size p q (revV d x).1 ∧ Below w.heap.size w w' := by
  have hn1 := hn.1
  have hn2 := hn.2
  obtain ⟨ao, cap, ao', cap', rfl, rfl⟩ := h.form
  obtain ⟨W, hW⟩ : ∃ W, W = (w.alloc (.cells #[.slice ao d.weights.length cap, .slice ao' d.proxies.length cap'] 29)).alloc (.cells #[.slice none 0 0, .slice none 0 0] 29) := ⟨_, rfl⟩
  have bA : BoxAt W w.heap.size #[.slice ao d.weights.length cap, .slice ao' d.proxies.length cap'] := by rw [hW]; exact (BoxAt.new _ _ _).alloc _
  have bR : BoxAt W (w.heap.size + 1) #[.slice none 0 0, .slice none 0 0] := by rw [hW]; exact BoxAt.new_at _ _ _ _ (by simp)
  have hWb : Below w.heap.size w W := by rw [hW]; go_grown
  have hI := h.below hWb
  have HW := Lib.hid hW; clear hW
  have hlt := bR.1
  have rA := bA.rule
  go_enter Try.func37, Try.ntmps37
  go_upto_region 1 with fail
  rw [← HW.out]
  go_cut [6] (fun t wx => CutR W wx ⟨d.weights, outQ x d.proxies⟩ t)
  case first =>
    go_region_held3 (fun w' => Below W.heap.size W w') (first | assumption | exact Below.refl _ _ | exact Below.drew (by assumption) | exact Below.drew (Below.refl _ _) | exact Below.alloc (by assumption) (Below.size (by assumption)) _ | exact Below.drew (Below.alloc (by assumption) (Below.size (by assumption)) _) | exact Below.setCell (p := ⟨_, _, none⟩) (Below.setCell (p := ⟨_, _, none⟩) (by assumption) (by first | exact Nat.le_refl _ | exact Below.size (by assumption)) _) (by first | exact Nat.le_refl _ | exact Below.size (by assumption)) _ | exact Below.drew (Below.setCell (p := ⟨_, _, none⟩) (Below.setCell (p := ⟨_, _, none⟩) (by assumption) (by first | exact Nat.le_refl _ | exact Below.size (by assumption)) _) (by first | exact Nat.le_refl _ | exact Below.size (by assumption)) _) | go_grown) (first
      | (go_at_call 47; refine (i_copyInts _ d.weights _ (hI.1.below (by first | assumption | exact Below.drew (by assumption))) (by omega)).mono ?_; rintro e w2 ⟨p, rfl, ho2, hb2⟩; have hm2 := below_step (W := W) (by assumption) hb2; obtain ⟨a2, k2, rfl⟩ := ho2.at_.form; (first | (have xb2 : BoxAt w2 W.heap.size #[.slice none 0 0, .slice none 0 0] := BoxAt.below (by first | exact xb3 | exact BoxAt.new W _ _) hb2; have xc2 := xb2.cells; have xf2 := xb2.free) | (have xb2 : BoxAt w2 w3.heap.size #[.slice none 0 0, .slice none 0 0] := BoxAt.below (by exact BoxAt.new w3 _ _) hb2; have xc2 := xb2.cells; have xf2 := xb2.free) | skip))
      | (go_at_call 48; refine (i_revoked _ _ d x _ (hI.below (by first | assumption | exact Below.drew (by assumption))) hn2).mono ?_; rintro e w3 ⟨q, rfl, ho3, hb3⟩; have hm3 := below_step (W := W) (by assumption) hb3; obtain ⟨a3, k3, rfl⟩ := (rowAt_of_own ho3).form; (first | (have xb3 : BoxAt w3 W.heap.size #[.slice none 0 0, .slice none 0 0] := BoxAt.below (by first | exact xb2 | exact BoxAt.new W _ _) hb3; have xc3 := xb3.cells; have xf3 := xb3.free) | (have xb3 : BoxAt w3 w2.heap.size #[.slice none 0 0, .slice none 0 0] := BoxAt.below (by exact BoxAt.new w2 _ _) hb3; have xc3 := xb3.cells; have xf3 := xb3.free) | skip)))
    all_goals (go_wp2_with fail)
    all_goals go_meet
    all_goals (have s2 := hm2.size; have s3 := hm3.size)
    all_goals first
      | exact cutR_alloc (d := ⟨d.weights, outQ x d.proxies⟩) (by first | exact own_base ho2 (by first | exact Nat.le_refl _ | exact s2 | exact s3 | (simp; done) | exact Nat.le_trans s2 (by simp) | exact Nat.le_trans s3 (by simp)) | exact own_base (own_below (by first | exact ho2 | exact own_below ho2 ((Below.refl _ _).alloc (Nat.le_refl _) _)) hb3) (by first | exact Nat.le_refl _ | exact s2 | exact s3 | (simp; done) | exact Nat.le_trans s2 (by simp) | exact Nat.le_trans s3 (by simp))) (by first | exact own_base ho3 (by first | exact Nat.le_refl _ | exact s2 | exact s3 | (simp; done) | exact Nat.le_trans s2 (by simp) | exact Nat.le_trans s3 (by simp)) | exact own_base (own_below (by first | exact ho3 | exact own_below ho3 ((Below.refl _ _).alloc (Nat.le_refl _) _)) hb2) (by first | exact Nat.le_refl _ | exact s2 | exact s3 | (simp; done) | exact Nat.le_trans s2 (by simp) | exact Nat.le_trans s3 (by simp))) (apart_of (fun g hg => ho2.lt g hg) (fun g hg => ho3.lt g hg) (by first | exact .inl (by first | exact Nat.le_refl _ | (simp; done)) | exact .inr (by first | exact Nat.le_refl _ | (simp; done)))) (by assumption)
      | exact cutR_set (d := ⟨d.weights, outQ x d.proxies⟩) (by first | exact Nat.le_refl _ | exact s2 | exact s3 | (simp; done) | exact Nat.le_trans s2 (by simp) | exact Nat.le_trans s3 (by simp)) (by assumption) (by first | exact own_base ho2 (by first | exact Nat.le_refl _ | exact s2 | exact s3 | (simp; done) | exact Nat.le_trans s2 (by simp) | exact Nat.le_trans s3 (by simp)) | exact own_base (own_below (by first | exact ho2 | exact own_below ho2 ((Below.refl _ _).alloc (Nat.le_refl _) _)) hb3) (by first | exact Nat.le_refl _ | exact s2 | exact s3 | (simp; done) | exact Nat.le_trans s2 (by simp) | exact Nat.le_trans s3 (by simp))) (by first | exact own_base ho3 (by first | exact Nat.le_refl _ | exact s2 | exact s3 | (simp; done) | exact Nat.le_trans s2 (by simp) | exact Nat.le_trans s3 (by simp)) | exact own_base (own_below (by first | exact ho3 | exact own_below ho3 ((Below.refl _ _).alloc (Nat.le_refl _) _)) hb2) (by first | exact Nat.le_refl _ | exact s2 | exact s3 | (simp; done) | exact Nat.le_trans s2 (by simp) | exact Nat.le_trans s3 (by simp))) (fun e => by have hc := ho2.lt _ e; have c1 := hc.1; have c2 := hc.2; first | (exact absurd c2 (Nat.lt_irrefl _)) | (have l2 := hb2.size; have l3 := hb3.size; (try dsimp only [World.drew, World.drewN] at c1); (try dsimp only [World.drew, World.drewN] at l2); (try dsimp only [World.drew, World.drewN] at l3); (try simp at c1); (try simp at l2); (try simp at l3); omega)) (fun e => by have hc := ho3.lt _ e; have c1 := hc.1; have c2 := hc.2; first | (exact absurd c2 (Nat.lt_irrefl _)) | (have l2 := hb2.size; have l3 := hb3.size; (try dsimp only [World.drew, World.drewN] at c1); (try dsimp only [World.drew, World.drewN] at l2); (try dsimp only [World.drew, World.drewN] at l3); (try simp at c1); (try simp at l2); (try simp at l3); omega)) (apart_of (fun g hg => ho2.lt g hg) (fun g hg => ho3.lt g hg) (by first | exact .inl (by first | exact Nat.le_refl _ | (simp; done)) | exact .inr (by first | exact Nat.le_refl _ | (simp; done)))) (by assumption)
  obtain ⟨b, a, k, a', k', rfl, hbW, hbox, hown, hC⟩ := hcut
  rename World => wx
  have A1 := rA wx hC
  have hV := i_AreVoters _ _ d wx (hI.below hC) hn
  have HV := Lib.hid hV; clear hV
  go_wp2_with fail
  refine HV.out.mono ?_
  rintro e w4 ⟨rfl, hb4⟩
  have hC4 := below_step hC hb4
  have X4 := hbox.below hb4
  have x4 := X4.cells
  have A4 := rA w4 hC4
  have R4 := bR.below hC4
  have r4 := R4.cells; have rf4 := R4.free
  have hown4 := hown.below hb4
  have hbl : w.heap.size < w4.heap.size := by have := R4.1; omega
  have finF : ∀ wf, OutOf (w.heap.size + 1) (w.heap.size + 2) w4 wf → OwnV wf w.heap.size (.slice none 0 0) (.slice none 0 0) ⟨[], []⟩ ∧ Below w.heap.size w wf := fun wf h2 =>
    ⟨OwnV.nil _ _, fin_below2 (hWb.trans (hC4.mono hWb.size)) h2 (Nat.le_succ _)⟩
  clear A1 rA
  cases hok : votersOk d with
  | false =>
      have HR : Hid (revV d x = (⟨[], []⟩, false)) := by simp [Hid, revV, hok]
      go_wp2_with fail
      refine bodyPost_ret (v := .tuple #[vVoters (.slice none 0 0) (.slice none 0 0), .bool false]) (by simp [results, Try.results37, go_sem, r4]) rfl ?_
      rw [HR.out]
      refine ⟨_, _, rfl, finF _ ?_⟩
      repeat (first | with_reducible exact OutOf.refl _ _ _ | with_reducible refine OutOf.setIn ?_ ?_ ?_ _ | (simp; done) | omega)
  | true =>
    cases hq : ((outQ x d.proxies).length == d.proxies.length) with
    | true =>
      have hq2 : (((outQ x d.proxies).length : Int) == (d.proxies.length : Int)) = true := by
        have hq3 : (outQ x d.proxies).length = d.proxies.length := by simpa using hq
        rw [hq3]; simp
      have HR : Hid (revV d x = (⟨[], []⟩, false)) := by simp only [Hid, revV, hok, hq]; simp
      clear hq
      go_wp2_with fail
      refine bodyPost_ret (v := .tuple #[vVoters (.slice none 0 0) (.slice none 0 0), .bool false]) (by simp [results, Try.results37, go_sem, r4]) rfl ?_
      rw [HR.out]
      refine ⟨_, _, rfl, finF _ ?_⟩
      repeat (first | with_reducible exact OutOf.refl _ _ _ | with_reducible refine OutOf.setIn ?_ ?_ ?_ _ | (simp; done) | omega)
    | false =>
      have hq2 : (((outQ x d.proxies).length : Int) == (d.proxies.length : Int)) = false := by
        have hq3 : ¬ (outQ x d.proxies).length = d.proxies.length := by simpa using hq
        simp only [beq_eq_false_iff_ne]
        omega
      have HR : Hid (revV d x = (⟨d.weights, outQ x d.proxies⟩, true)) := by
        have hq' := hq
        simp only [Hid, revV, hok, hq']; simp
      clear hq
      go_wp2_with fail
      refine bodyPost_ret (v := .tuple #[vVoters (.slice a d.weights.length k) (.slice a' (outQ x d.proxies).length k'), .bool true]) (by simp [results, Try.results37, go_sem, r4, x4]) rfl ?_
      rw [HR.out]
      refine ⟨_, _, rfl, ?_⟩
      have hfin : ∀ wf, OutOf (w.heap.size + 1) (w.heap.size + 2) w4 wf → OwnV wf w.heap.size (.slice a d.weights.length k) (.slice a' (outQ x d.proxies).length k') ⟨d.weights, outQ x d.proxies⟩ ∧ Below w.heap.size w wf := fun wf hf =>
        ⟨⟨own_base (own_apart hown4.1 hf (by omega)) (by omega), own_base (own_apart hown4.2.1 hf (by omega)) (by omega), hown4.2.2⟩, fin_below2 (hWb.trans (hC4.mono hWb.size)) hf (Nat.le_succ _)⟩
      refine hfin _ ?_
      repeat (first | with_reducible exact OutOf.refl _ _ _ | with_reducible refine OutOf.setIn ?_ ?_ ?_ _ | (simp; done) | omega)

end Go.Proofs.Ytapkicfbknoioaa
