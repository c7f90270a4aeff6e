/- Contracts: HeldWeights, the reference's and the program's. No conditions beyond sizes. -/
import Derived.Test.YtapkicfbknoioaaVoteA
import Derived.Test.YtapkicfbknoioaaPush
namespace Go.Proofs.Ytapkicfbknoioaa
open Go.RowKit
set_option linter.unusedVariables false
set_option linter.unusedSimpArgs false

theorem nextQ_in {n : Int} {ps : List DProxy} (hin : ∀ p ∈ ps, inB p.to 0 (n - 1) = true) (x : Int) : nextQ ps x < 0 ∨ inB (nextQ ps x) 0 (n - 1) = true := by
  rcases nextQ_idx ps x with ⟨_, h⟩ | ⟨i, hi, _, h⟩
  · exact .inl (by omega)
  · exact .inr (by rw [h]; exact hin _ (List.getElem_mem hi))
theorem walkQ_in {n : Int} {ps : List DProxy} (hin : ∀ p ∈ ps, inB p.to 0 (n - 1) = true) (k : Nat) : ∀ x, inB x 0 (n - 1) = true → inB (walkQ ps k x).1 0 (n - 1) = true := by
  induction k with
  | zero => intro x h; exact h
  | succ k ih =>
    intro x h
    by_cases hx : nextQ ps x < 0
    · rw [walkQ_stop hx]; exact h
    · rw [walkQ_go hx]
      rcases nextQ_in hin x with h1 | h1
      · exact absurd h1 hx
      · exact ih _ h1
theorem followQ_in {d : DVoters} (hok : votersOk d = true) {k : Nat} (hk : k < d.weights.length) : ∃ m : Nat, (followQ d.proxies k).1 = m ∧ m < d.weights.length := by
  have hp := (votersOk_parts hok).2.2
  have := inB_iff.1 (walkQ_in (n := d.weights.length) (fun p hm => (proxOk_mem hp p hm).2.1) (d.proxies.length + 1) k (inB_iff.2 (by omega)))
  exact ⟨((followQ d.proxies k).1).toNat, by unfold followQ; omega, by unfold followQ; omega⟩
theorem okW_mem {xs : List Int} (h : okW xs = true) : ∀ x ∈ xs, 0 ≤ x ∧ x ≤ 100 := by
  intro x hx
  simp only [okW, Bool.not_eq_true', List.any_eq_false] at h
  have := h x hx
  simp only [Bool.not_eq_true', Bool.not_eq_false] at this
  exact inB_iff.1 (by simpa using this)

/-- The weights held, by the first k voters' votes. -/
def heldQ (d : DVoters) : Nat → List Int
  | 0 => List.replicate d.weights.length 0
  | k + 1 => (heldQ d k).set (followQ d.proxies k).1.toNat ((heldQ d k).getD (followQ d.proxies k).1.toNat 0 + d.weights.getD k 0)
@[simp] theorem heldQ_len (d : DVoters) (k : Nat) : (heldQ d k).length = d.weights.length := by
  induction k with
  | zero => simp [heldQ]
  | succ k ih => simp [heldQ, ih]
theorem getD_eqx {xs : List Int} {k : Nat} (h : k < xs.length) : xs.getD k 0 = xs[k] := by simp [List.getD_eq_getElem?_getD, List.getElem?_eq_getElem h]
theorem getD_mem {xs : List Int} {k : Nat} (h : k < xs.length) : xs.getD k 0 ∈ xs := by
  rw [getD_eqx h]; exact List.getElem_mem h
theorem heldQ_bd {d : DVoters} (hok : votersOk d = true) (k : Nat) (hk : k ≤ d.weights.length) : ∀ e ∈ heldQ d k, 0 ≤ e ∧ e ≤ 100 * k := by
  have hw := okW_mem (votersOk_parts hok).2.1
  induction k with
  | zero => intro e he; simp [heldQ] at he; omega
  | succ k ih =>
    intro e he
    have ih := ih (by omega)
    obtain ⟨m, hm, hml⟩ := followQ_in hok (show k < d.weights.length by omega)
    simp only [heldQ, hm, Int.toNat_natCast] at he
    rcases List.mem_or_eq_of_mem_set he with h1 | h1
    · have := ih e h1; omega
    · have h2 := ih _ (getD_mem (xs := heldQ d k) (k := m) (by simpa using hml))
      have h3 := hw _ (getD_mem (xs := d.weights) (k := k) (by omega))
      omega
theorem heldQ_succ {d : DVoters} {k m : Nat} (hm : (followQ d.proxies k).1 = m) (hk : k < d.weights.length) : heldQ d (k + 1) = (heldQ d k).set m ((heldQ d k).getD m 0 + d.weights[k]) := by
  simp only [heldQ, hm, Int.toNat_natCast]
  rw [getD_eqx hk]
theorem ints_setx (xs : List Int) (k : Nat) (x : Int) : (ints xs).set k (.int .i64 x) = ints (xs.set k x) := by simp [ints, List.map_set]
theorem ints_getx {xs : List Int} {k : Nat} (h : k < xs.length) : (ints xs)[k]? = some (.int .i64 (xs.getD k 0)) := by
  rw [getD_eqx h]; simp [ints, List.getElem?_eq_getElem h]

set_option maxHeartbeats 1000000 in
theorem s_l12Held (v u : Value) (d : DVoters) (w : World) (h : VotersAt w v u d) (hn : d.weights.length ≤ 1048576 ∧ d.proxies.length ≤ 1048576) (hok : votersOk d = true) :
    Calls Try.prog 63 #[vVoters v u] w fun e w' => ∃ p, e = .returned p ∧ OwnInts w' w.heap.size p (heldQ d d.weights.length) ∧ Below w.heap.size w w' := by
  obtain ⟨i0, hi, hz0, hz1, hz2⟩ := info_parts int_info
  have h12 := (votersOk_parts hok).1
  have HOK := Lib.hid hok; clear hok
  have hn2 := hn.2
  obtain ⟨ao, cap, ao', cap', rfl, rfl⟩ := h.form
  obtain ⟨W, hW⟩ : ∃ W, W = w.alloc (.cells #[.slice ao d.weights.length cap, .slice ao' d.proxies.length cap'] 29) := ⟨_, rfl⟩
  have bA : BoxAt W w.heap.size #[.slice ao d.weights.length cap, .slice ao' d.proxies.length cap'] := by rw [hW]; exact BoxAt.new _ _ _
  have hWb : Below w.heap.size w W := by rw [hW]; go_grown
  have hI := h.below hWb
  have HW := Lib.hid hW; clear hW
  have a0 := bA.cells
  obtain ⟨h3, g3⟩ := hI.parts
  go_enter Try.func63, Try.ntmps63
  go_wp2_with (at_make; rw [← HW.out]; refine wpList_make_full _ rfl _ _ 22 rfl W.heap.size 3 i0 (.int .i64 0) 1 Try.underlying22 hi hz0 hz1 _ _ _ _ d.weights.length rfl rfl rfl rfl ?c1 ?c2 ?c3 ?_)
  case c1 => rw [hz2]; omega
  case c2 => unfold maxLen; omega
  case c3 => omega
  intro w1 hown hg
  simp only [toList_madeCells_one, Nat.mul_one] at hown
  have hb : Below W.heap.size W w1 := (Below.refl _ _).grown hg (Nat.le_refl _) (by simp)
  have a1 := (bA.below hb).cells
  go_wp2_with fail
  go_loopw [4] (fun i wr => ∃ k : Nat, k ≤ d.weights.length ∧ i = .int .i64 k ∧ wr.ownsRow W.heap.size 3 1 (.slice (some ⟨W.heap.size, 0, none⟩) d.weights.length d.weights.length) d.weights.length (ints (heldQ d k)) ∧ Below W.heap.size W wr) (fun i _ => d.weights.length - (intOf i).toNat)
  case atStart => exact ⟨0, by omega, rfl, by simpa [heldQ, ints] using hown, hb⟩
  case round =>
    obtain ⟨k, hk, rfl, hown, hb⟩ := hrel
    have bR := bA.below hb
    have ar := bR.cells
    have hfin : Below w.heap.size w wr := hWb.trans (hb.mono hWb.size)
    by_cases hlt : k < d.weights.length
    · obtain ⟨b, off, rfl, h4, h5⟩ := h3 (by omega)
      have hc := h5.int hlt
      obtain ⟨m, hm, hml⟩ := followQ_in HOK.out hlt
      have hbd := heldQ_bd HOK.out k hk _ (getD_mem (xs := heldQ d k) (k := m) (by simpa using hml))
      have hxb := okW_mem (votersOk_parts HOK.out).2.1 _ (List.getElem_mem hlt)
      have hsu := heldQ_succ hm hlt
      have HS := s_l12Steps _ _ d (k : Int) wr (h.below hfin) (by omega)
      rw [hm] at HS
      have hout : ∀ w2, Below wr.heap.size wr w2 → w2.cell? ⟨W.heap.size, m, none⟩ = some (.int .i64 ((heldQ d k).getD m 0)) ∧ (w2.frozen? ⟨W.heap.size, m, none⟩ = false) ∧ w2.cell? ⟨b, off + k, none⟩ = some (.int .i64 d.weights[k]) ∧
          (w2.setCell ⟨W.heap.size, m, none⟩ (.int .i64 ((heldQ d k).getD m 0 + d.weights[k]))).ownsRow W.heap.size 3 1 (.slice (some ⟨W.heap.size, 0, none⟩) d.weights.length d.weights.length) d.weights.length (ints (heldQ d (k + 1))) ∧ Below W.heap.size W w2 ∧ W.heap.size < w2.heap.size := by
        intro w2 hb2
        have ho2 := own_below hown hb2
        refine ⟨?_, ho2.frozenAt m, ?_, ?_, below_step hb hb2, ?_⟩
        · rw [ho2.cellAt m (by omega)]; exact ints_getx (by simpa using hml)
        · rw [(below_step hb hb2).cell (p := ⟨b, off + k, none⟩) h4]; exact hc
        · rw [hsu, ← ints_setx]; exact (ho2.stored m _).1
        · exact (ho2.lt W.heap.size rfl).2
      have HOUT := Lib.hid hout; clear hout
      have HS' := Lib.hid HS; clear HS hm hsu
      generalize (followQ d.proxies (k : Int)).2 = st at *
      generalize (heldQ d k).getD m 0 = e at *
      generalize d.weights[k] = x at *
      go_wp2_with (go_at_call 71; refine HS'.out.mono ?_; rintro e' w2 ⟨rfl, hb2⟩; have a2 := (bR.below hb2).cells; obtain ⟨q1, q2, q3, q4, q5, q6⟩ := HOUT.out w2 hb2)
      go_region
      all_goals go_wp2_with fail
      all_goals go_roundw
      all_goals first | (case rel => exact ⟨k + 1, by omega, by go_num, q4, by go_grown⟩) | (case measure => simp [intOf]; omega)
    · obtain rfl : k = d.weights.length := by omega
      have hown' : OwnInts wr W.heap.size (.slice (some ⟨W.heap.size, 0, none⟩) d.weights.length d.weights.length) (heldQ d d.weights.length) := by simpa [OwnI] using hown
      go_wp2_with fail
      go_ret
      exact ⟨_, rfl, own_base hown' hWb.size, hfin⟩

set_option maxHeartbeats 1000000 in
theorem i_heldWeights (v u : Value) (d : DVoters) (w : World) (h : VotersAt w v u d) (hn : d.weights.length ≤ 1048576 ∧ d.proxies.length ≤ 1048576) (hok : votersOk d = true) :
    Calls Try.prog 62 #[vVoters v u] w fun e w' => ∃ p, e = .returned p ∧ OwnInts w' w.heap.size p (heldQ d d.weights.length) ∧ Below w.heap.size w w' := by
  obtain ⟨i0, hi, hz0, hz1, hz2⟩ := info_parts int_info
  have h12 := (votersOk_parts hok).1
  have HTO := Lib.hid (votersOk_to (votersOk_parts hok).2.2)
  have HOK := Lib.hid hok; clear hok
  have hn2 := hn.2
  obtain ⟨ao, cap, ao', cap', rfl, rfl⟩ := h.form
  obtain ⟨W, hW⟩ : ∃ W, W = w.alloc (.cells #[.slice ao d.weights.length cap, .slice ao' d.proxies.length cap'] 29) := ⟨_, rfl⟩
  have bA : BoxAt W w.heap.size #[.slice ao d.weights.length cap, .slice ao' d.proxies.length cap'] := by rw [hW]; exact BoxAt.new _ _ _
  have hWb : Below w.heap.size w W := by rw [hW]; go_grown
  have hI := h.below hWb
  have HW := Lib.hid hW; clear hW
  have a0 := bA.cells
  obtain ⟨h3, g3⟩ := hI.parts
  go_enter Try.func62, Try.ntmps62
  go_wp2_with (at_make; rw [← HW.out]; refine wpList_make_full _ rfl _ _ 22 rfl W.heap.size 3 i0 (.int .i64 0) 1 Try.underlying22 hi hz0 hz1 _ _ _ _ d.weights.length rfl rfl rfl rfl ?c1 ?c2 ?c3 ?_)
  case c1 => rw [hz2]; omega
  case c2 => unfold maxLen; omega
  case c3 => omega
  intro w1 hown hg
  simp only [toList_madeCells_one, Nat.mul_one] at hown
  have hb : Below W.heap.size W w1 := (Below.refl _ _).grown hg (Nat.le_refl _) (by simp)
  have a1 := (bA.below hb).cells
  go_wp2_with fail
  go_loopw [15] (fun i wr => ∃ k : Nat, k ≤ d.weights.length ∧ i = .int .i64 k ∧ wr.ownsRow W.heap.size 3 1 (.slice (some ⟨W.heap.size, 0, none⟩) d.weights.length d.weights.length) d.weights.length (ints (heldQ d k)) ∧ Below W.heap.size W wr) (fun i _ => d.weights.length - (intOf i).toNat)
  case atStart => exact ⟨0, by omega, rfl, by simpa [heldQ, ints] using hown, hb⟩
  case round =>
    obtain ⟨k, hk, rfl, hown, hb⟩ := hrel
    have bR := bA.below hb
    have ar := bR.cells
    have hfin : Below w.heap.size w wr := hWb.trans (hb.mono hWb.size)
    by_cases hlt : k < d.weights.length
    · obtain ⟨b, off, rfl, h4, h5⟩ := h3 (by omega)
      have hc : wr.cell? ⟨b, off + k, none⟩ = some (.int .i64 d.weights[k]) := by rw [hb.cell (p := ⟨b, off + k, none⟩) h4]; exact h5.int hlt
      obtain ⟨m, hm, hml⟩ := followQ_in HOK.out hlt
      have hbd := heldQ_bd HOK.out k hk _ (getD_mem (xs := heldQ d k) (k := m) (by simpa using hml))
      have hxb := okW_mem (votersOk_parts HOK.out).2.1 _ (List.getElem_mem hlt)
      have hsu := heldQ_succ hm hlt
      have HS := i_follow _ _ d (k : Int) wr (h.below hfin) (by omega) HTO.out
      rw [hm] at HS
      have hout : ∀ w2, Below wr.heap.size wr w2 → w2.cell? ⟨W.heap.size, m, none⟩ = some (.int .i64 ((heldQ d k).getD m 0)) ∧ (w2.frozen? ⟨W.heap.size, m, none⟩ = false) ∧
          (w2.setCell ⟨W.heap.size, m, none⟩ (.int .i64 ((heldQ d k).getD m 0 + d.weights[k]))).ownsRow W.heap.size 3 1 (.slice (some ⟨W.heap.size, 0, none⟩) d.weights.length d.weights.length) d.weights.length (ints (heldQ d (k + 1))) ∧ Below W.heap.size W w2 ∧ W.heap.size < w2.heap.size := by
        intro w2 hb2
        have ho2 := own_below hown hb2
        refine ⟨?_, ho2.frozenAt m, ?_, below_step hb hb2, ?_⟩
        · rw [ho2.cellAt m (by omega)]; exact ints_getx (by simpa using hml)
        · rw [hsu, ← ints_setx]; exact (ho2.stored m _).1
        · exact (ho2.lt W.heap.size rfl).2
      have HOUT := Lib.hid hout; clear hout
      have HS' := Lib.hid HS; clear HS hm hsu
      generalize (followQ d.proxies (k : Int)).2 = st at *
      generalize (heldQ d k).getD m 0 = e at *
      generalize d.weights[k] = x at *
      go_wp2_with (go_at_call 68; refine HS'.out.mono ?_; rintro e' w2 ⟨rfl, hb2⟩; obtain ⟨q1, q2, q4, q5, q6⟩ := HOUT.out w2 hb2)
      go_roundw
      case rel => exact ⟨k + 1, by omega, by go_num, q4, by go_grown⟩
      case measure => simp [intOf]; omega
    · obtain rfl : k = d.weights.length := by omega
      have hown' : OwnInts wr W.heap.size (.slice (some ⟨W.heap.size, 0, none⟩) d.weights.length d.weights.length) (heldQ d d.weights.length) := by simpa [OwnI] using hown
      go_wp2_with fail
      go_ret
      exact ⟨_, rfl, own_base hown' hWb.size, hfin⟩

/-- HeldWeights. -/
def heldV (d : DVoters) : List Int × Bool := if votersOk d then (heldQ d d.weights.length, true) else ([], false)
theorem heldV_len (d : DVoters) : (heldV d).1.length ≤ 4000000 := by
  unfold heldV
  split
  · rename_i h; have := (votersOk_parts h).1; simp; omega
  · simp

theorem s_HeldWeights (v u : Value) (d : DVoters) (w : World) (h : VotersAt w v u d) (hn : d.weights.length ≤ 1048576 ∧ d.proxies.length ≤ 1048576) :
    Calls Try.prog 31 #[vVoters v u] w fun e w' => ∃ p, e = .returned (.tuple #[p, .bool (heldV d).2]) ∧ OwnInts w' w.heap.size p (heldV d).1 ∧ Below w.heap.size w w' := by
  obtain ⟨ao, cap, ao', cap', rfl, rfl⟩ := h.form
  obtain ⟨W, hW⟩ : ∃ W, W = w.alloc (.cells #[.slice ao d.weights.length cap, .slice ao' d.proxies.length cap'] 29) := ⟨_, rfl⟩
  have bA : BoxAt W w.heap.size #[.slice ao d.weights.length cap, .slice ao' d.proxies.length cap'] := by rw [hW]; exact BoxAt.new _ _ _
  have hWb : Below w.heap.size w W := by rw [hW]; go_grown
  have HQ := s_l12Good _ _ d W (h.below hWb) hn
  have HW := Lib.hid hW; clear hW
  have a0 := bA.cells
  cases hok : votersOk d with
  | false =>
    have HR : heldV d = ([], false) := by simp [heldV, hok]
    rw [HR]
    rw [hok] at HQ
    have HQ' := Lib.hid HQ; clear HQ hok HR
    go_enter Try.func31, Try.ntmps31
    go_wp2_with fail
    rw [← HW.out]
    go_wp2_with (go_at_call 44; refine HQ'.out.mono ?_; rintro e w1 ⟨rfl, hb1⟩; have hb1' := hWb.trans (hb1.mono hWb.size))
    go_ret2
    exact ⟨_, rfl, own_base (own_lit0 w1 3) hb1'.size, hb1'.alloc hb1'.size _⟩
  | true =>
    have HR : heldV d = (heldQ d d.weights.length, true) := by simp [heldV, hok]
    rw [HR]
    have HOK := Lib.hid hok
    rw [hok] at HQ
    have HQ' := Lib.hid HQ; clear HQ hok HR
    go_enter Try.func31, Try.ntmps31
    go_wp2_with fail
    rw [← HW.out]
    go_wp2_with (first | (go_at_call 44; refine HQ'.out.mono ?_; rintro e w1 ⟨rfl, hb1⟩; have hb1' := hWb.trans (hb1.mono hWb.size); have a1 := (bA.below hb1).cells) | (go_at_call 63; refine (s_l12Held _ _ d _ (h.below hb1') hn HOK.out).mono ?_; rintro e w2 ⟨p, rfl, ho, hb2⟩))
    obtain ⟨ap, kp, rfl⟩ := ho.at_.form
    go_ret2
    exact ⟨_, rfl, own_base ho hb1'.size, hb1'.trans (hb2.mono hb1'.size)⟩

theorem i_HeldWeights (v u : Value) (d : DVoters) (w : World) (h : VotersAt w v u d) (hn : d.weights.length ≤ 1048576 ∧ d.proxies.length ≤ 1048576) :
    Calls Try.prog 30 #[vVoters v u] w fun e w' => ∃ p, e = .returned (.tuple #[p, .bool (heldV d).2]) ∧ OwnInts w' w.heap.size p (heldV d).1 ∧ Below w.heap.size w w' := by
  obtain ⟨ao, cap, ao', cap', rfl, rfl⟩ := h.form
  obtain ⟨W, hW⟩ : ∃ W, W = w.alloc (.cells #[.slice ao d.weights.length cap, .slice ao' d.proxies.length cap'] 29) := ⟨_, rfl⟩
  have bA : BoxAt W w.heap.size #[.slice ao d.weights.length cap, .slice ao' d.proxies.length cap'] := by rw [hW]; exact BoxAt.new _ _ _
  have hWb : Below w.heap.size w W := by rw [hW]; go_grown
  have HQ := i_AreVoters _ _ d W (h.below hWb) hn
  have HW := Lib.hid hW; clear hW
  have a0 := bA.cells
  cases hok : votersOk d with
  | false =>
    have HR : heldV d = ([], false) := by simp [heldV, hok]
    rw [HR]
    rw [hok] at HQ
    have HQ' := Lib.hid HQ; clear HQ hok HR
    go_enter Try.func30, Try.ntmps30
    go_wp2_with fail
    rw [← HW.out]
    go_wp2_with (go_at_call 32; refine HQ'.out.mono ?_; rintro e w1 ⟨rfl, hb1⟩; have hb1' := hWb.trans (hb1.mono hWb.size))
    go_ret2
    exact ⟨_, rfl, World.ownsRow_nil _ _ 3 1, hb1'⟩
  | true =>
    have HR : heldV d = (heldQ d d.weights.length, true) := by simp [heldV, hok]
    rw [HR]
    have HOK := Lib.hid hok
    rw [hok] at HQ
    have HQ' := Lib.hid HQ; clear HQ hok HR
    go_enter Try.func30, Try.ntmps30
    go_wp2_with fail
    rw [← HW.out]
    go_wp2_with (first | (go_at_call 32; refine HQ'.out.mono ?_; rintro e w1 ⟨rfl, hb1⟩; have hb1' := hWb.trans (hb1.mono hWb.size); have a1 := (bA.below hb1).cells) | (go_at_call 62; refine (i_heldWeights _ _ d _ (h.below hb1') hn HOK.out).mono ?_; rintro e w2 ⟨p, rfl, ho, hb2⟩))
    obtain ⟨ap, kp, rfl⟩ := ho.at_.form
    go_ret2
    exact ⟨_, rfl, own_base ho hb1'.size, hb1'.trans (hb2.mono hb1'.size)⟩

end Go.Proofs.Ytapkicfbknoioaa
