/- Contract: impl.GiveProxy. No conditions beyond sizes. -/
import Derived.Test.YtapkicfbknoioaaGiveL
import Derived.Test.YtapkicfbknoioaaInsP
import Derived.Test.YtapkicfbknoioaaVoteS
namespace Go.Proofs.Ytapkicfbknoioaa
open Go.RowKit
set_option linter.unusedVariables false
set_option linter.unusedSimpArgs false

def CutG (W wx : World) (d : DVoters) (t : Value) : Prop := ∃ b a k a' k', t = .pointer (some ⟨b, 0, none⟩) ∧ W.heap.size ≤ b ∧ BoxAt wx b #[.slice a d.weights.length k, .slice a' d.proxies.length k'] ∧ OwnV wx W.heap.size (.slice a d.weights.length k) (.slice a' d.proxies.length k') d ∧ Below W.heap.size W wx ∧
  (Value.slice a d.weights.length k).ownBlock ≠ some b ∧ (Value.slice a' d.proxies.length k').ownBlock ≠ some b
theorem cutG_alloc {W wz : World} {d : DVoters} {a a' : Option Addr} {k k' : Nat} {t : TypeId} (h1 : OwnInts wz W.heap.size (.slice a d.weights.length k) d.weights) (h2 : OwnProxs wz W.heap.size (.slice a' d.proxies.length k') d.proxies)
    (hd : (Value.slice a d.weights.length k).ownBlock = none ∨ (Value.slice a' d.proxies.length k').ownBlock ≠ (Value.slice a d.weights.length k).ownBlock) (hB : Below W.heap.size W wz) :
    CutG W (wz.alloc (.cells #[.slice a d.weights.length k, .slice a' d.proxies.length k'] t)) d (.pointer (some ⟨wz.heap.size, 0, none⟩)) :=
  ⟨_, a, k, a', k', rfl, hB.size, BoxAt.new _ _ _, ⟨own_below h1 ((Below.refl _ _).alloc (Nat.le_refl _) _), own_below h2 ((Below.refl _ _).alloc (Nat.le_refl _) _), hd⟩, hB.alloc hB.size _, fun e => absurd (h1.lt _ e).2 (Nat.lt_irrefl _), fun e => absurd (h2.lt _ e).2 (Nat.lt_irrefl _)⟩
theorem cutG_set {W wz : World} {b : Nat} {d : DVoters} {a a' : Option Addr} {k k' : Nat} (hb : W.heap.size ≤ b) (hbox : BoxAt wz b #[.slice none 0 0, .slice none 0 0]) (h1 : OwnInts wz W.heap.size (.slice a d.weights.length k) d.weights) (h2 : OwnProxs wz W.heap.size (.slice a' d.proxies.length k') d.proxies)
    (n1 : (Value.slice a d.weights.length k).ownBlock ≠ some b) (n2 : (Value.slice a' d.proxies.length k').ownBlock ≠ some b)
    (hd : (Value.slice a d.weights.length k).ownBlock = none ∨ (Value.slice a' d.proxies.length k').ownBlock ≠ (Value.slice a d.weights.length k).ownBlock) (hB : Below W.heap.size W wz) :
    CutG W ((wz.setCell ⟨b, 0, none⟩ (.slice a d.weights.length k)).setCell ⟨b, 1, none⟩ (.slice a' d.proxies.length k')) d (.pointer (some ⟨b, 0, none⟩)) := by
  have ho : OutOf b (b + 1) wz ((wz.setCell ⟨b, 0, none⟩ (.slice a d.weights.length k)).setCell ⟨b, 1, none⟩ (.slice a' d.proxies.length k')) := OutOf.set (OutOf.set (OutOf.refl _ _ _) _) _
  refine ⟨b, a, k, a', k', rfl, hb, ?_, ⟨own_offR h1 ho n1, own_offR h2 ho n2, hd⟩, hB.trans (ho.below hb hB.size), n1, n2⟩
  have := (hbox.setR (i := 0) (by simp) (.slice a d.weights.length k)).setR (i := 1) (by simp) (.slice a' d.proxies.length k')
  simpa using this
theorem proxOk_lenI {n : Int} : ∀ {ps : List DProxy} {pv : Option Int} (lo : Int), proxOk n pv ps = true → (∀ y, pv = some y → lo ≤ y + 1) → (pv = none → lo ≤ 0) → lo + ps.length ≤ n ∨ ps = []
  | [], _, _, _, _, _ => .inr rfl
  | p :: r, pv, lo, h, h1, h2 => by
    refine .inl ?_
    have hm := proxOk_mem h p List.mem_cons_self
    have h3 := inB_iff.1 hm.1
    simp only [proxOk, Bool.and_eq_true] at h
    have h4 : lo ≤ p.fr := by
      cases pv with
      | none => have := h2 rfl; omega
      | some y => have := h1 y rfl; have := hm.2.2 y rfl; omega
    rcases proxOk_lenI (lo + 1) h.2 (fun y hy => by cases hy; omega) (fun e => by cases e) with h5 | h5
    · simp only [List.length_cons]; omega
    · subst h5; simp only [List.length_cons, List.length_nil]; omega
/-- Valid voters have few proxies. -/
theorem votersOk_fewI {d : DVoters} (h : votersOk d = true) : d.weights.length ≤ 12 ∧ d.proxies.length ≤ 12 := by
  have h1 := votersOk_parts h
  refine ⟨h1.1, ?_⟩
  rcases proxOk_lenI 0 h1.2.2 (fun y hy => by cases hy) (fun _ => Int.le_refl _) with h2 | h2
  · have := h1.1; omega
  · rw [h2]; exact Nat.zero_le _
theorem own_grownG {w w' : World} {B e n size : Nat} {v : Value} {cs : List Value} {row : Option Nat} (h : w.ownsRow B e size v n cs) (hg : w.grownBy w' row) (hne : v.ownBlock = none ∨ row ≠ v.ownBlock) : w'.ownsRow B e size v n cs := by
  refine ⟨h.1, ?_⟩
  rcases h.2 with h2 | ⟨g, cap, cur, rfl, hB, hgg, r⟩
  · exact .inl h2
  · refine .inr ⟨g, cap, cur, rfl, hB, (hg.block g (Array.getElem?_eq_some_iff.1 hgg).1 (fun e => ?_)).trans hgg, r⟩
    rcases hne with h3 | h3
    · simp [Value.ownBlock] at h3
    · exact h3 (by simpa [Value.ownBlock] using e.symm)

set_option maxRecDepth 100000 in
set_option maxHeartbeats 4000000 in
theorem i_GiveProxy (v u : Value) (d : DVoters) (x t : Int) (w : World) (h : VotersAt w v u d) (hn : d.weights.length ≤ 1048576 ∧ d.proxies.length ≤ 1048576) :
    Calls Try.prog 9 #[vVoters v u, .int .i64 x, .int .i64 t] w fun e w' => ∃ p q, e = .returned (.tuple #[vVoters p q, .bool (giveV d x t).2]) ∧ OwnV w' w.heap.size p q (giveV d x t).1 ∧ Below w.heap.size w w' := by
  have hn1 := hn.1
  have hn2 := hn.2
  have hnn : d.weights.length ≤ 1048576 ∧ d.proxies.length ≤ 1048576 := ⟨hn1, hn2⟩
  obtain ⟨ao, cap, ao', cap', rfl, rfl⟩ := h.form
  obtain ⟨W, hW⟩ : ∃ W, W = (w.alloc (.cells #[.slice ao d.weights.length cap, .slice ao' d.proxies.length cap'] 29)).alloc (.cells #[.slice none 0 0, .slice none 0 0] 29) := ⟨_, rfl⟩
  have bA : BoxAt W w.heap.size #[.slice ao d.weights.length cap, .slice ao' d.proxies.length cap'] := by rw [hW]; exact (BoxAt.new _ _ _).alloc _
  have bR : BoxAt W (w.heap.size + 1) #[.slice none 0 0, .slice none 0 0] := by rw [hW]; exact BoxAt.new_at _ _ _ _ (by simp)
  have hWb : Below w.heap.size w W := by rw [hW]; go_grown
  have hI0 := h.below hWb
  have HW := Lib.hid hW; clear hW
  have a0 := bA.cells
  have hlt := bR.1
  have HV := i_AreVoters _ _ d W hI0 hnn
  have finF : ∀ w1 wf, Below W.heap.size W w1 → OutOf (w.heap.size + 1) (w.heap.size + 2) w1 wf → OwnV wf w.heap.size (.slice none 0 0) (.slice none 0 0) ⟨[], []⟩ ∧ Below w.heap.size w wf := fun w1 wf h1 h2 =>
    ⟨OwnV.nil _ _, fin_below2 (hWb.trans (h1.mono hWb.size)) h2 (Nat.le_succ _)⟩
  unfold giveV
  cases hok : votersOk d with
  | false =>
    rw [hok] at HV
    have HV' := Lib.hid HV; clear HV hok
    simp only [Bool.false_and, Bool.false_eq_true, if_false]
    go_enter Try.func9, Try.ntmps9
    go_wp2_with fail
    rw [← HW.out]
    go_wp2_with fail
    refine HV'.out.mono ?_
    rintro e w1 ⟨rfl, hb1⟩
    have R1 := bR.below hb1
    have r1 := R1.cells; have rf1 := R1.free
    clear a0
    go_wp2_with fail
    refine bodyPost_ret (v := .tuple #[vVoters (.slice none 0 0) (.slice none 0 0), .bool false]) (by simp [results, Try.results9, go_sem, r1]) rfl ⟨_, _, rfl, finF w1 _ hb1 ?_⟩
    repeat (first | with_reducible exact OutOf.refl _ _ _ | with_reducible refine OutOf.setIn ?_ ?_ ?_ _ | (simp; done) | omega)
  | true =>
    rw [hok] at HV
    have hfew := votersOk_fewI hok
    have HV' := Lib.hid HV; clear HV hok
    simp only [Bool.true_and]
    obtain ⟨R, hR⟩ : ∃ R, R = (if votersOk (givD d x t) = true then (givD d x t, true) else ((⟨[], []⟩ : DVoters), false)) := ⟨_, rfl⟩
    rw [← hR]
    have HR := Lib.hid hR; clear hR
    go_enter Try.func9, Try.ntmps9
    go_wp2_with fail
    rw [← HW.out]
    go_wp2_with fail
    refine HV'.out.mono ?_
    rintro e w1 ⟨rfl, hb1⟩
    have A1 := bA.below hb1
    have rA := A1.rule
    have hI := hI0.below hb1
    have R1 := bR.below hb1
    have hW1 : Below w.heap.size w w1 := hWb.trans (hb1.mono hWb.size)
    clear a0
    go_upto_region 3 with fail
    go_cut [8] (fun t wx => CutG w1 wx ⟨d.weights, outQ x d.proxies⟩ t)
    case first =>
      go_region_held3 (fun w' => Below w1.heap.size w1 w') (first | assumption | exact Below.refl _ _ | exact Below.drew (by assumption) | exact Below.drew (Below.refl _ _) | exact Below.alloc (by assumption) (Below.size (by assumption)) _ | exact Below.drew (Below.alloc (by assumption) (Below.size (by assumption)) _) | exact Below.setCell (p := ⟨_, _, none⟩) (Below.setCell (p := ⟨_, _, none⟩) (by assumption) (by first | exact Nat.le_refl _ | exact Below.size (by assumption)) _) (by first | exact Nat.le_refl _ | exact Below.size (by assumption)) _ | exact Below.drew (Below.setCell (p := ⟨_, _, none⟩) (Below.setCell (p := ⟨_, _, none⟩) (by assumption) (by first | exact Nat.le_refl _ | exact Below.size (by assumption)) _) (by first | exact Nat.le_refl _ | exact Below.size (by assumption)) _) | go_grown) (first
        | (go_at_call 47; refine (i_copyInts _ d.weights _ (hI.1.below (by first | assumption | exact Below.drew (by assumption))) (by omega)).mono ?_; rintro e w2 ⟨p, rfl, ho2, hb2⟩; have hm2 := below_step (W := w1) (by assumption) hb2; obtain ⟨a2, k2, rfl⟩ := ho2.at_.form; (first | (have xb2 : BoxAt w2 w1.heap.size #[.slice none 0 0, .slice none 0 0] := BoxAt.below (by first | exact xb3 | exact BoxAt.new w1 _ _) hb2; have xc2 := xb2.cells; have xf2 := xb2.free) | (have xb2 : BoxAt w2 w3.heap.size #[.slice none 0 0, .slice none 0 0] := BoxAt.below (by exact BoxAt.new w3 _ _) hb2; have xc2 := xb2.cells; have xf2 := xb2.free) | skip))
        | (go_at_call 48; refine (i_revoked _ _ d x _ (hI.below (by first | assumption | exact Below.drew (by assumption))) hn2).mono ?_; rintro e w3 ⟨q, rfl, ho3, hb3⟩; have hm3 := below_step (W := w1) (by assumption) hb3; obtain ⟨a3, k3, rfl⟩ := (rowAt_of_own ho3).form; (first | (have xb3 : BoxAt w3 w1.heap.size #[.slice none 0 0, .slice none 0 0] := BoxAt.below (by first | exact xb2 | exact BoxAt.new w1 _ _) hb3; have xc3 := xb3.cells; have xf3 := xb3.free) | (have xb3 : BoxAt w3 w2.heap.size #[.slice none 0 0, .slice none 0 0] := BoxAt.below (by exact BoxAt.new w2 _ _) hb3; have xc3 := xb3.cells; have xf3 := xb3.free) | skip)))
      all_goals (go_wp2_with fail)
      all_goals go_meet
      all_goals (have s2 := hm2.size; have s3 := hm3.size)
      all_goals first
        | exact cutG_alloc (d := ⟨d.weights, outQ x d.proxies⟩) (by first | exact own_base ho2 (by first | exact Nat.le_refl _ | exact s2 | exact s3 | (simp; done) | exact Nat.le_trans s2 (by simp) | exact Nat.le_trans s3 (by simp)) | exact own_base (own_below (by first | exact ho2 | exact own_below ho2 ((Below.refl _ _).alloc (Nat.le_refl _) _)) hb3) (by first | exact Nat.le_refl _ | exact s2 | exact s3 | (simp; done) | exact Nat.le_trans s2 (by simp) | exact Nat.le_trans s3 (by simp))) (by first | exact own_base ho3 (by first | exact Nat.le_refl _ | exact s2 | exact s3 | (simp; done) | exact Nat.le_trans s2 (by simp) | exact Nat.le_trans s3 (by simp)) | exact own_base (own_below (by first | exact ho3 | exact own_below ho3 ((Below.refl _ _).alloc (Nat.le_refl _) _)) hb2) (by first | exact Nat.le_refl _ | exact s2 | exact s3 | (simp; done) | exact Nat.le_trans s2 (by simp) | exact Nat.le_trans s3 (by simp))) (apart_of (fun g hg => ho2.lt g hg) (fun g hg => ho3.lt g hg) (by first | exact .inl (by first | exact Nat.le_refl _ | (simp; done)) | exact .inr (by first | exact Nat.le_refl _ | (simp; done)))) (by assumption)
        | exact cutG_set (d := ⟨d.weights, outQ x d.proxies⟩) (by first | exact Nat.le_refl _ | exact s2 | exact s3 | (simp; done) | exact Nat.le_trans s2 (by simp) | exact Nat.le_trans s3 (by simp)) (by assumption) (by first | exact own_base ho2 (by first | exact Nat.le_refl _ | exact s2 | exact s3 | (simp; done) | exact Nat.le_trans s2 (by simp) | exact Nat.le_trans s3 (by simp)) | exact own_base (own_below (by first | exact ho2 | exact own_below ho2 ((Below.refl _ _).alloc (Nat.le_refl _) _)) hb3) (by first | exact Nat.le_refl _ | exact s2 | exact s3 | (simp; done) | exact Nat.le_trans s2 (by simp) | exact Nat.le_trans s3 (by simp))) (by first | exact own_base ho3 (by first | exact Nat.le_refl _ | exact s2 | exact s3 | (simp; done) | exact Nat.le_trans s2 (by simp) | exact Nat.le_trans s3 (by simp)) | exact own_base (own_below (by first | exact ho3 | exact own_below ho3 ((Below.refl _ _).alloc (Nat.le_refl _) _)) hb2) (by first | exact Nat.le_refl _ | exact s2 | exact s3 | (simp; done) | exact Nat.le_trans s2 (by simp) | exact Nat.le_trans s3 (by simp))) (fun e => by have hc := ho2.lt _ e; have c1 := hc.1; have c2 := hc.2; first | (exact absurd c2 (Nat.lt_irrefl _)) | (have l2 := hb2.size; have l3 := hb3.size; (try dsimp only [World.drew, World.drewN] at c1); (try dsimp only [World.drew, World.drewN] at l2); (try dsimp only [World.drew, World.drewN] at l3); (try simp at c1); (try simp at l2); (try simp at l3); omega)) (fun e => by have hc := ho3.lt _ e; have c1 := hc.1; have c2 := hc.2; first | (exact absurd c2 (Nat.lt_irrefl _)) | (have l2 := hb2.size; have l3 := hb3.size; (try dsimp only [World.drew, World.drewN] at c1); (try dsimp only [World.drew, World.drewN] at l2); (try dsimp only [World.drew, World.drewN] at l3); (try simp at c1); (try simp at l2); (try simp at l3); omega)) (apart_of (fun g hg => ho2.lt g hg) (fun g hg => ho3.lt g hg) (by first | exact .inl (by first | exact Nat.le_refl _ | (simp; done)) | exact .inr (by first | exact Nat.le_refl _ | (simp; done)))) (by assumption)
    obtain ⟨b, a, k, a', k', rfl, hbW, hbox, hown, hC, hnb1, hnb2⟩ := hcut
    rename World => wx
    obtain ⟨qs, hqs⟩ : ∃ qs, qs = outQ x d.proxies := ⟨_, rfl⟩
    have hql : qs.length ≤ 12 := by rw [hqs]; exact Nat.le_trans (outQ_len _ _) hfew.2
    have hG : givD d x t = ⟨d.weights, putQ x t qs⟩ := by rw [hqs]; rfl
    have hRo := HR.out
    rw [hG] at hRo
    have HR2 := Lib.hid hRo
    dsimp only at hbox hown hnb1 hnb2
    rw [← hqs] at hbox hown hnb2
    clear hRo HR hqs hG rA
    have hP : ProxsAt wx (.slice a' qs.length k') qs := hown.at_.2
    have b0 := hbox.cells; have bf0 := hbox.free
    have hsx := hC.size
    have hbx := hbox.1
    have R2 := R1.below hC
    go_wp2_with fail
    go_loopw [9] (fun i wr => ∃ k : Nat, k ≤ qs.length ∧ i = .int .i64 k ∧ Hid (atQ x qs = k + atQ x (qs.drop k)) ∧ wx = wr) (fun i _ => qs.length - (intOf i).toNat)
    case atStart => exact ⟨0, by omega, rfl, by simp [Hid], by trivial⟩
    case round =>
      obtain ⟨n, hk, rfl, HK, rfl⟩ := hrel
      obtain ⟨hP0, _, _, hvP, q1, q2, q3⟩ := hP
      cases hvP
      unfold maxLen at q2
      by_cases hgo : ∃ h : n < qs.length, qs[n].fr < x
      · obtain ⟨hlt', hx⟩ := hgo
        obtain ⟨c, off, rfl, h4, h5⟩ := q3 (by omega)
        obtain ⟨c0, c1⟩ := h5.prox hlt'
        have HK2 : Hid (atQ x qs = (n + 1) + atQ x (qs.drop (n + 1))) := by have := HK.out; rw [atQ_on hlt' hx] at this; rw [Hid]; omega
        generalize qs[n] = y at *
        obtain ⟨fr, tq⟩ := y
        go_wp2_with fail
        go_roundw
        case rel => exact ⟨n + 1, by omega, by go_num, HK2, by trivial⟩
        case measure => simp [intOf]; omega
      · have hat : n = atQ x qs := by
          have h0 := HK.out
          by_cases hlt' : n < qs.length
          · rw [atQ_off hlt' (fun hx => hgo ⟨hlt', hx⟩)] at h0; omega
          · have : qs.drop n = [] := List.drop_of_length_le (by omega)
            rw [this] at h0; simp [atQ] at h0; omega
        have hcase : (∃ h : n < qs.length, ¬ qs[n].fr < x) ∨ n = qs.length := by
          by_cases hlt' : n < qs.length
          · exact .inl ⟨hlt', fun hx => hgo ⟨hlt', hx⟩⟩
          · exact .inr (by omega)
        have HAT := Lib.hid hat
        obtain ⟨W6, hW6⟩ : ∃ W6, W6 = wx.alloc (.cells #[.int .i64 x, .int .i64 t] 61) := ⟨_, rfl⟩
        have N6 : BoxAt W6 wx.heap.size #[.int .i64 x, .int .i64 t] := by rw [hW6]; exact BoxAt.new _ _ _
        have hsh6 : W6.shape? wx.heap.size = some (61, 2) := by rw [hW6]; simp only [World.shape?, heap_alloc_new]; rfl
        have hb6 : Below wx.heap.size wx W6 := by rw [hW6]; exact (Below.refl _ _).alloc (Nat.le_refl _) _
        have HINS := slices_Insert_proxy w1.heap.size (.slice a' qs.length k') qs n wx.heap.size ⟨x, t⟩ W6 hk (own_below hown.2.1 hb6) (by have := hb6.size; omega) (by omega) N6 hsh6 (fun e => absurd (hown.2.1.lt _ e).2 (Nat.lt_irrefl _))
        have HI := Lib.hid HINS
        have HW6 := Lib.hid hW6
        have B6 := hbox.below hb6
        have hown6 := hown.below hb6
        clear hat hgo hP0 HINS hW6
        rcases hcase with ⟨hlt', hx⟩ | hke
        case' inl =>
          obtain ⟨c, off, rfl, h4, h5⟩ := q3 (by omega)
          obtain ⟨c0, c1⟩ := h5.prox hlt'
          generalize qs[n] = y at *
          obtain ⟨fr, tq⟩ := y
          have hdone : ¬ fr < x := hx
          clear hx q3 h5
        case' inr =>
          have hdone : ¬ (n : Int) < (qs.length : Int) := by omega
          have HKE := Lib.hid hke
          clear q3 hke
        all_goals
          go_wp2_with fail
          rw [← HW6.out]
          refine HI.out.mono ?_
          rintro e w7 ⟨p7, rfl, o7, g7, ap7⟩
          have hput : qs.take n ++ (⟨x, t⟩ : DProxy) :: qs.drop n = putQ x t qs := by rw [putQ, ← HAT.out]
          have hpl : qs.length + 1 = (putQ x t qs).length := (putQ_len x t qs).symm
          rw [hput, hpl] at o7
          obtain ⟨a7, k7, rfl⟩ := (rowAt_of_own o7).form
          have B7 : BoxAt w7 b _ := box_grownR B6 g7 hnb2
          have b7 := B7.cells; have bf7 := B7.free
          have hs67 := g7.size
          have hs6 := hb6.size
          have hw7 := own_grownG hown6.1 g7 (hown6.2.2)
          have hne7 : (Value.slice a7 (putQ x t qs).length k7).ownBlock ≠ some b := fun e => by
            rcases ap7 with h | h
            · rw [h] at e; exact hnb2 e
            · have := h _ e; omega
          have hap : (Value.slice a d.weights.length k).ownBlock = none ∨ (Value.slice a7 (putQ x t qs).length k7).ownBlock ≠ (Value.slice a d.weights.length k).ownBlock := by
            rcases ap7 with h | h
            · rw [h]; exact hown6.2.2
            · cases hq : (Value.slice a d.weights.length k).ownBlock with
              | none => exact .inl rfl
              | some g => exact .inr (fun e => by have := h _ e; have := (hown.1.lt _ hq).2; omega)
          have hC7 : Below w1.heap.size w1 w7 := Below.grown (hC.trans (hb6.mono hsx)) g7 (by omega) (fun q hq => (hown.2.1.lt q hq).1)
          have ho8 : OutOf b (b + 1) w7 (w7.setCell ⟨b, 1, none⟩ (.slice a7 (putQ x t qs).length k7)) := (OutOf.refl _ _ _).set _
          have hown8 : OwnV (w7.setCell ⟨b, 1, none⟩ (.slice a7 (putQ x t qs).length k7)) w1.heap.size (.slice a d.weights.length k) (.slice a7 (putQ x t qs).length k7) ⟨d.weights, putQ x t qs⟩ := ⟨own_offR hw7 ho8 hnb1, own_offR o7 ho8 hne7, hap⟩
          have B8 : BoxAt (w7.setCell ⟨b, 1, none⟩ (.slice a7 (putQ x t qs).length k7)) b #[.slice a d.weights.length k, .slice a7 (putQ x t qs).length k7] := by simpa using B7.setR (i := 1) (by simp) (.slice a7 (putQ x t qs).length k7)
          have hC8 : Below w1.heap.size w1 (w7.setCell ⟨b, 1, none⟩ (.slice a7 (putQ x t qs).length k7)) := hC7.trans (ho8.below hbW hC7.size)
          clear b0 bf0 hput hpl
          go_wp2_with fail
          refine (i_AreVoters _ _ ⟨d.weights, putQ x t qs⟩ _ hown8.at_ ⟨hn1, by dsimp only; rw [putQ_len]; omega⟩).mono ?_
          rintro e w9 ⟨rfl, hb9⟩
          have hC9 := below_step hC8 hb9
          have B9 := B8.below hb9
          have b9 := B9.cells
          have R9 := R1.below hC9
          have r9 := R9.cells; have rf9 := R9.free
          have hown9 := hown8.below hb9
          have hs9 := hC9.size
          have hs1 := hb1.size
          cases hvo : votersOk ⟨d.weights, putQ x t qs⟩ with
          | false =>
            have hR3 : R = (⟨[], []⟩, false) := by rw [HR2.out, if_neg (by rw [hvo]; simp)]
            have HR3 := Lib.hid hR3; clear hR3 hvo
            go_wp2_with fail
            refine bodyPost_ret (v := .tuple #[vVoters (.slice none 0 0) (.slice none 0 0), .bool false]) (by simp [results, Try.results9, go_sem, r9]) rfl ?_
            rw [HR3.out]
            refine ⟨_, _, rfl, finF w9 _ (below_step hb1 hC9) ?_⟩
            repeat (first | with_reducible exact OutOf.refl _ _ _ | with_reducible refine OutOf.setIn ?_ ?_ ?_ _ | (simp; done) | omega)
          | true =>
            have hR3 : R = (⟨d.weights, putQ x t qs⟩, true) := by rw [HR2.out, if_pos hvo]
            have HR3 := Lib.hid hR3; clear hR3 hvo
            go_wp2_with fail
            refine bodyPost_ret (v := .tuple #[vVoters (.slice a d.weights.length k) (.slice a7 (putQ x t qs).length k7), .bool true]) (by simp [results, Try.results9, go_sem, r9, b9]) rfl ?_
            rw [HR3.out]
            refine ⟨_, _, rfl, ?_⟩
            have hfin : ∀ wf, OutOf (w.heap.size + 1) (w.heap.size + 2) w9 wf → OwnV wf w.heap.size (.slice a d.weights.length k) (.slice a7 (putQ x t qs).length k7) ⟨d.weights, putQ x t qs⟩ ∧ Below w.heap.size w wf := fun wf hf =>
              ⟨⟨own_base (own_apart hown9.1 hf (by omega)) (by omega), own_base (own_apart hown9.2.1 hf (by omega)) (by omega), hown9.2.2⟩, fin_below2 (hW1.trans (hC9.mono hW1.size)) hf (Nat.le_succ _)⟩
            refine hfin _ ?_
            repeat (first | with_reducible exact OutOf.refl _ _ _ | with_reducible refine OutOf.setIn ?_ ?_ ?_ _ | (simp; done) | omega)

end Go.Proofs.Ytapkicfbknoioaa
