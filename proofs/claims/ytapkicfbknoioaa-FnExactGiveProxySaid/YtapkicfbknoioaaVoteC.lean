/- Contracts: WeightPresent, DirectVotes, CastVotes, the reference's and the program's. No conditions beyond sizes. -/
import Derived.Test.YtapkicfbknoioaaVoteH
namespace Go.Proofs.Ytapkicfbknoioaa
open Go.RowKit
set_option linter.unusedVariables false
set_option linter.unusedSimpArgs false

theorem rising_mem {lo hi : Int} {xs : List Int} : ∀ {p : Option Int}, risB lo hi p xs = true → ∀ x ∈ xs, lo ≤ x ∧ x ≤ hi := by
  induction xs with
  | nil => intro p h x hx; cases hx
  | cons a r ih =>
    intro p h x hx
    simp only [risB, Bool.and_eq_true] at h
    rcases List.mem_cons.1 hx with rfl | hx
    · exact inB_iff.1 h.1.1
    · exact ih h.2 x hx
/-- The sum of the first k that are present. -/
def sumK (L ps : List Int) : Nat → Int
  | 0 => 0
  | k + 1 => sumK L ps k + L.getD (ps.getD k 0).toNat 0
theorem sumK_bd {L ps : List Int} (hL : ∀ e ∈ L, 0 ≤ e ∧ e ≤ 1200) (k : Nat) : 0 ≤ sumK L ps k ∧ sumK L ps k ≤ 1200 * k := by
  induction k with
  | zero => simp [sumK]
  | succ k ih =>
    simp only [sumK]
    have : 0 ≤ L.getD (ps.getD k 0).toNat 0 ∧ L.getD (ps.getD k 0).toNat 0 ≤ 1200 := by
      by_cases h : (ps.getD k 0).toNat < L.length
      · exact hL _ (getD_mem h)
      · have : L.getD (ps.getD k 0).toNat 0 = 0 := by
          rw [List.getD_eq_getElem?_getD, List.getElem?_eq_none (by omega)]; rfl
        omega
    omega
def presV (d : DVoters) (ps : List Int) : Int × Bool :=
  if votersOk d && rising 0 ((d.weights.length : Int) - 1) ps then (sumK (heldQ d d.weights.length) ps ps.length, true) else (0, false)
theorem heldQ_1200 {d : DVoters} (hok : votersOk d = true) : ∀ e ∈ heldQ d d.weights.length, 0 ≤ e ∧ e ≤ 1200 := by
  intro e he
  have := heldQ_bd hok d.weights.length (Nat.le_refl _) e he
  have := (votersOk_parts hok).1
  omega

set_option maxHeartbeats 1000000 in
theorem s_WeightPresent (v u : Value) (d : DVoters) (q : Value) (ps : List Int) (w : World) (h : VotersAt w v u d) (g : IntsAt w q ps) (hn : d.weights.length ≤ 1048576 ∧ d.proxies.length ≤ 1048576) (hn1 : ps.length ≤ 1048576) :
    Calls Try.prog 21 #[vVoters v u, q] w fun e w' => e = .returned (.tuple #[.int .i64 (presV d ps).1, .bool (presV d ps).2]) ∧ Below w.heap.size w w' := by
  have hnn := hn.1
  obtain ⟨ao, cap, ao', cap', rfl, rfl⟩ := h.form
  obtain ⟨qo, qc, rfl⟩ := g.form
  obtain ⟨W, hW⟩ : ∃ W, W = w.alloc (.cells #[.slice ao d.weights.length cap, .slice ao' d.proxies.length cap'] 29) := ⟨_, rfl⟩
  have bA : BoxAt W w.heap.size #[.slice ao d.weights.length cap, .slice ao' d.proxies.length cap'] := by rw [hW]; exact BoxAt.new _ _ _
  have hWb : Below w.heap.size w W := by rw [hW]; go_grown
  have HQ := s_l12Good _ _ d W (h.below hWb) hn
  have HW := Lib.hid hW; clear hW
  have a0 := bA.cells
  cases hok : votersOk d with
  | false =>
    have HR : Hid (presV d ps = (0, false)) := by simp [Hid, presV, hok]
    rw [hok] at HQ
    have HQ' := Lib.hid HQ; clear HQ hok
    go_enter Try.func21, Try.ntmps21
    go_wp2_with fail
    rw [← HW.out]
    go_wp2_with (go_at_call 44; refine HQ'.out.mono ?_; rintro e w1 ⟨rfl, hb1⟩; have hb1' := hWb.trans (hb1.mono hWb.size))
    go_ret2
    exact ⟨ret_ib (by rw [HR.out]) (by rw [HR.out]), hb1'⟩
  | true =>
    have HOK := Lib.hid hok
    rw [hok] at HQ
    have HQ' := Lib.hid HQ; clear HQ
    cases hri : rising 0 ((d.weights.length : Int) - 1) ps with
    | false =>
      have HR : Hid (presV d ps = (0, false)) := by simp [Hid, presV, hri]
      have HI := Lib.hid hri; clear hri hok
      go_enter Try.func21, Try.ntmps21
      go_wp2_with fail
      rw [← HW.out]
      go_wp2_with (first | (go_at_call 44; refine HQ'.out.mono ?_; rintro e w1 ⟨rfl, hb1⟩; have hb1' := hWb.trans (hb1.mono hWb.size); have a1 := (bA.below hb1).cells) | (go_at_call 67; refine (s_l1Rising _ ps _ _ _ (g.below hb1')).mono ?_; rw [HI.out]; rintro e w2 ⟨rfl, hb2⟩))
      go_ret2
      exact ⟨ret_ib (by rw [HR.out]) (by rw [HR.out]), hb1'.trans (hb2.mono hb1'.size)⟩
    | true =>
      have HR : Hid (presV d ps = (sumK (heldQ d d.weights.length) ps ps.length, true)) := by simp [Hid, presV, hok, hri]
      have hmem := rising_mem hri
      have HM := Lib.hid hmem; clear hmem
      have HI := Lib.hid hri; clear hri hok
      go_enter Try.func21, Try.ntmps21
      go_wp2_with fail
      rw [← HW.out]
      go_wp2_with (first | (go_at_call 44; refine HQ'.out.mono ?_; rintro e w1 ⟨rfl, hb1⟩; have hb1' := hWb.trans (hb1.mono hWb.size); have a1 := (bA.below hb1).cells) | (go_at_call 67; refine (s_l1Rising _ ps _ _ _ (g.below hb1')).mono ?_; rw [HI.out]; rintro e w2 ⟨rfl, hb2⟩; have hb2' := hb1'.trans (hb2.mono hb1'.size); have a2 := (bA.below (below_step hb1 hb2)).cells) | (go_at_call 63; refine (s_l12Held _ _ d _ (h.below hb2') hn HOK.out).mono ?_; rintro e w3 ⟨p, rfl, ho, hb3⟩; have hb3' := hb2'.trans (hb3.mono hb2'.size); obtain ⟨_, po, pc, rfl, p1, p2, p3⟩ := ho.at_))
      have hg := g.below hb3'
      obtain ⟨_, qo', qc', hsl, q1, q2, q3⟩ := hg
      simp only [Value.slice.injEq, true_and] at hsl
      obtain ⟨rfl, rfl⟩ := hsl
      have hbd := Lib.hid (heldQ_1200 HOK.out)
      have hLl := heldQ_len d d.weights.length
      generalize heldQ d d.weights.length = L at *
      go_loopw [7, 8] (fun s i wr => ∃ k : Nat, k ≤ ps.length ∧ i = .int .i64 k ∧ s = .int .i64 (sumK L ps k) ∧ w3 = wr) (fun _ i _ => ps.length - (intOf i).toNat)
      case atStart => exact ⟨0, by omega, rfl, rfl, by trivial⟩
      case round =>
        obtain ⟨k, hk, rfl, rfl, rfl⟩ := hrel
        have hsb := sumK_bd (ps := ps) hbd.out k
        by_cases hlt : k < ps.length
        · obtain ⟨b, off, rfl, h4, h5⟩ := q3 (by omega)
          have hc := h5.int hlt
          have hx := HM.out _ (List.getElem_mem hlt)
          obtain ⟨m, hm⟩ : ∃ m : Nat, ps[k] = (m : Int) := ⟨ps[k].toNat, by omega⟩
          rw [hm] at hc hx
          have hml : m < L.length := by omega
          obtain ⟨b', off', rfl, h4', h5'⟩ := p3 (by omega)
          have hc' := h5'.int hml
          have hxb := hbd.out _ (List.getElem_mem hml)
          have HS : Hid (sumK L ps (k + 1) = sumK L ps k + L[m]) := by
            simp only [Hid, sumK]
            rw [getD_eqx hlt, hm, Int.toNat_natCast, getD_eqx hml]
          clear hm
          generalize L[m] = x at *
          generalize sumK L ps k = s at *
          go_wp2_with fail
          go_roundw
          case rel => exact ⟨k + 1, by omega, by go_num, by rw [HS.out], by trivial⟩
          case measure => simp [intOf]; omega
        · obtain rfl : k = ps.length := by omega
          go_wp2_with fail
          go_ret2
          exact ⟨ret_ib (by rw [HR.out]) (by rw [HR.out]), hb3'⟩

set_option maxHeartbeats 1000000 in
theorem i_WeightPresent (v u : Value) (d : DVoters) (q : Value) (ps : List Int) (w : World) (h : VotersAt w v u d) (g : IntsAt w q ps) (hn : d.weights.length ≤ 1048576 ∧ d.proxies.length ≤ 1048576) (hn1 : ps.length ≤ 1048576) :
    Calls Try.prog 20 #[vVoters v u, q] w fun e w' => e = .returned (.tuple #[.int .i64 (presV d ps).1, .bool (presV d ps).2]) ∧ Below w.heap.size w w' := by
  have hnn := hn.1
  obtain ⟨ao, cap, ao', cap', rfl, rfl⟩ := h.form
  obtain ⟨qo, qc, rfl⟩ := g.form
  obtain ⟨W, hW⟩ : ∃ W, W = w.alloc (.cells #[.slice ao d.weights.length cap, .slice ao' d.proxies.length cap'] 29) := ⟨_, rfl⟩
  have bA : BoxAt W w.heap.size #[.slice ao d.weights.length cap, .slice ao' d.proxies.length cap'] := by rw [hW]; exact BoxAt.new _ _ _
  have hWb : Below w.heap.size w W := by rw [hW]; go_grown
  have HQ := i_AreVoters _ _ d W (h.below hWb) hn
  have HW := Lib.hid hW; clear hW
  have a0 := bA.cells
  cases hok : votersOk d with
  | false =>
    have HR : Hid (presV d ps = (0, false)) := by simp [Hid, presV, hok]
    rw [hok] at HQ
    have HQ' := Lib.hid HQ; clear HQ hok
    go_enter Try.func20, Try.ntmps20
    go_wp2_with fail
    rw [← HW.out]
    go_wp2_with (go_at_call 32; refine HQ'.out.mono ?_; rintro e w1 ⟨rfl, hb1⟩; have hb1' := hWb.trans (hb1.mono hWb.size))
    go_ret2
    exact ⟨ret_ib (by rw [HR.out]) (by rw [HR.out]), hb1'⟩
  | true =>
    have HOK := Lib.hid hok
    rw [hok] at HQ
    have HQ' := Lib.hid HQ; clear HQ
    cases hri : rising 0 ((d.weights.length : Int) - 1) ps with
    | false =>
      have HR : Hid (presV d ps = (0, false)) := by simp [Hid, presV, hri]
      have HI := Lib.hid hri; clear hri hok
      go_enter Try.func20, Try.ntmps20
      go_wp2_with fail
      rw [← HW.out]
      go_wp2_with (first | (go_at_call 32; refine HQ'.out.mono ?_; rintro e w1 ⟨rfl, hb1⟩; have hb1' := hWb.trans (hb1.mono hWb.size); have a1 := (bA.below hb1).cells) | (go_at_call 66; refine (i_ascending _ ps _ _ _ (g.below hb1')).mono ?_; rw [HI.out]; rintro e w2 ⟨rfl, hb2⟩))
      go_ret2
      exact ⟨ret_ib (by rw [HR.out]) (by rw [HR.out]), hb1'.trans (hb2.mono hb1'.size)⟩
    | true =>
      have HR : Hid (presV d ps = (sumK (heldQ d d.weights.length) ps ps.length, true)) := by simp [Hid, presV, hok, hri]
      have hmem := rising_mem hri
      have HM := Lib.hid hmem; clear hmem
      have HI := Lib.hid hri; clear hri hok
      go_enter Try.func20, Try.ntmps20
      go_wp2_with fail
      rw [← HW.out]
      go_wp2_with (first | (go_at_call 32; refine HQ'.out.mono ?_; rintro e w1 ⟨rfl, hb1⟩; have hb1' := hWb.trans (hb1.mono hWb.size); have a1 := (bA.below hb1).cells) | (go_at_call 66; refine (i_ascending _ ps _ _ _ (g.below hb1')).mono ?_; rw [HI.out]; rintro e w2 ⟨rfl, hb2⟩; have hb2' := hb1'.trans (hb2.mono hb1'.size); have a2 := (bA.below (below_step hb1 hb2)).cells) | (go_at_call 62; refine (i_heldWeights _ _ d _ (h.below hb2') hn HOK.out).mono ?_; rintro e w3 ⟨p, rfl, ho, hb3⟩; have hb3' := hb2'.trans (hb3.mono hb2'.size); obtain ⟨_, po, pc, rfl, p1, p2, p3⟩ := ho.at_))
      have hg := g.below hb3'
      obtain ⟨_, qo', qc', hsl, q1, q2, q3⟩ := hg
      simp only [Value.slice.injEq, true_and] at hsl
      obtain ⟨rfl, rfl⟩ := hsl
      have hbd := Lib.hid (heldQ_1200 HOK.out)
      have hLl := heldQ_len d d.weights.length
      generalize heldQ d d.weights.length = L at *
      go_loopw [7, 26] (fun s i wr => ∃ k : Nat, k ≤ ps.length ∧ i = .int .i64 k ∧ s = .int .i64 (sumK L ps k) ∧ w3 = wr) (fun _ i _ => ps.length - (intOf i).toNat)
      case atStart => exact ⟨0, by omega, rfl, rfl, by trivial⟩
      case round =>
        obtain ⟨k, hk, rfl, rfl, rfl⟩ := hrel
        have hsb := sumK_bd (ps := ps) hbd.out k
        by_cases hlt : k < ps.length
        · obtain ⟨b, off, rfl, h4, h5⟩ := q3 (by omega)
          have hc := h5.int hlt
          have hx := HM.out _ (List.getElem_mem hlt)
          obtain ⟨m, hm⟩ : ∃ m : Nat, ps[k] = (m : Int) := ⟨ps[k].toNat, by omega⟩
          rw [hm] at hc hx
          have hml : m < L.length := by omega
          obtain ⟨b', off', rfl, h4', h5'⟩ := p3 (by omega)
          have hc' := h5'.int hml
          have hxb := hbd.out _ (List.getElem_mem hml)
          have HS : Hid (sumK L ps (k + 1) = sumK L ps k + L[m]) := by
            simp only [Hid, sumK]
            rw [getD_eqx hlt, hm, Int.toNat_natCast, getD_eqx hml]
          clear hm
          generalize L[m] = x at *
          generalize sumK L ps k = s at *
          go_wp2_with fail
          go_roundw
          case rel => exact ⟨k + 1, by omega, by go_num, by rw [HS.out], by trivial⟩
          case measure => simp [intOf]; omega
        · obtain rfl : k = ps.length := by omega
          go_wp2_with fail
          go_ret2
          exact ⟨ret_ib (by rw [HR.out]) (by rw [HR.out]), hb3'⟩

/-- The voters among the first k who give no proxy. -/
def dirK (ps : List DProxy) : Nat → List Int
  | 0 => []
  | k + 1 => dirK ps k ++ (if nextQ ps k < 0 then [(k : Int)] else [])
theorem dirK_len (ps : List DProxy) (k : Nat) : (dirK ps k).length ≤ k := by
  induction k with
  | zero => simp [dirK]
  | succ k ih =>
    simp only [dirK, List.length_append]
    split <;> simp <;> omega
theorem dirK_on {ps : List DProxy} {k : Nat} (h : nextQ ps k < 0) : dirK ps (k + 1) = dirK ps k ++ [(k : Int)] := by simp [dirK, h]
theorem dirK_off {ps : List DProxy} {k : Nat} (h : ¬ nextQ ps k < 0) : dirK ps (k + 1) = dirK ps k := by simp [dirK, h]
def dirV (d : DVoters) : List Int × Bool := if votersOk d then (dirK d.proxies d.weights.length, true) else ([], false)
theorem dirV_len (d : DVoters) : (dirV d).1.length ≤ 4000000 := by
  unfold dirV
  split
  · rename_i h; have := (votersOk_parts h).1; have := dirK_len d.proxies d.weights.length; simp; omega
  · simp

set_option maxHeartbeats 1000000 in
theorem s_DirectVotes (v u : Value) (d : DVoters) (w : World) (h : VotersAt w v u d) (hn : d.weights.length ≤ 1048576 ∧ d.proxies.length ≤ 1048576) :
    Calls Try.prog 33 #[vVoters v u] w fun e w' => ∃ p, e = .returned (.tuple #[p, .bool (dirV d).2]) ∧ OwnInts w' w.heap.size p (dirV d).1 ∧ Below w.heap.size w w' := by
  obtain ⟨ao, cap, ao', cap', rfl, rfl⟩ := h.form
  obtain ⟨W, hW⟩ : ∃ W, W = (w.alloc (.cells #[.slice ao d.weights.length cap, .slice ao' d.proxies.length cap'] 29)).alloc (.cells #[] 3) := ⟨_, rfl⟩
  have bA : BoxAt W w.heap.size #[.slice ao d.weights.length cap, .slice ao' d.proxies.length cap'] := by rw [hW]; exact (BoxAt.new _ _ _).alloc _
  have hWb : Below w.heap.size w W := by rw [hW]; go_grown
  have hWs : W.heap.size = w.heap.size + 2 := by rw [hW]; simp
  have hlit : OwnInts W (w.heap.size + 1) (.slice (some ⟨w.heap.size + 1, 0, none⟩) 0 0) [] := by
    have := own_lit0 (w.alloc (.cells #[.slice ao d.weights.length cap, .slice ao' d.proxies.length cap'] 29)) 3
    rw [hW]
    simp only [World.size_alloc] at this
    exact this
  have HQ := s_l12Good _ _ d W (h.below hWb) hn
  have HW := Lib.hid hW; clear hW
  have a0 := bA.cells
  cases hok : votersOk d with
  | false =>
    have HR : dirV d = ([], false) := by simp [dirV, hok]
    rw [HR]
    rw [hok] at HQ
    have HQ' := Lib.hid HQ; clear HQ hok HR
    go_enter Try.func33, Try.ntmps33
    go_wp2_with (go_at_call 44; rw [← HW.out]; refine HQ'.out.mono ?_; rintro e w1 ⟨rfl, hb1⟩; have hb1' := hWb.trans (hb1.mono hWb.size))
    go_ret2
    exact ⟨_, rfl, own_base (OwnI.below hlit hb1) (by omega), hb1'⟩
  | true =>
    have HR : dirV d = (dirK d.proxies d.weights.length, true) := by simp [dirV, hok]
    have h12 := (votersOk_parts hok).1
    rw [HR]
    rw [hok] at HQ
    have HQ' := Lib.hid HQ; clear HQ hok HR
    go_enter Try.func33, Try.ntmps33
    go_wp2_with (go_at_call 44; rw [← HW.out]; refine HQ'.out.mono ?_; rintro e w1 ⟨rfl, hb1⟩; have hb1' := hWb.trans (hb1.mono hWb.size); have a1 := (bA.below hb1).cells; have ho1 := OwnI.below hlit hb1)
    go_loopw [4, 5] (fun o i wr => ∃ k : Nat, k ≤ d.weights.length ∧ i = .int .i64 k ∧ OwnInts wr (w.heap.size + 1) o (dirK d.proxies k) ∧ Below (w.heap.size + 1) W wr) (fun _ i _ => d.weights.length - (intOf i).toNat)
    case atStart => exact ⟨0, by omega, rfl, ho1, hb1.mono (by omega)⟩
    case round =>
      obtain ⟨k, hk, rfl, ho, hb⟩ := hrel
      have hsz := hb.size
      have hfin : Below w.heap.size w wr := hWb.trans (hb.mono (by omega))
      have ar : ∀ i, wr.cell? ⟨w.heap.size, i, none⟩ = (#[.slice ao d.weights.length cap, .slice ao' d.proxies.length cap'] : Array Value)[i]? := fun i => (hb.cell (p := ⟨w.heap.size, i, none⟩) (by simp)).trans (bA.cells i)
      have hlen := dirK_len d.proxies k
      by_cases hlt : k < d.weights.length
      · have HN := s_l12Next _ _ d (k : Int) wr (h.below hfin)
        by_cases hx : nextQ d.proxies k < 0
        · have HL := Lib.hid (dirK_on hx)
          have HN' := Lib.hid HN; clear HN
          generalize nextQ d.proxies k = z at *
          go_wp2_with (first | (go_at_call 74; refine HN'.out.mono ?_; rintro e w2 ⟨rfl, hb2⟩; have hs2 := hb2.size; have ho2 := OwnI.below ho hb2; have hb2' := hb.trans (hb2.mono (by omega))) | (at_builtin; refine wpList_push_int rfl (.tmp 22) (.tmp 24) _ rfl _ 3 _ int_info Try.underlying22 _ _ (k : Int) rfl ho2 rfl (by omega) (by omega) ?_; intro u' w3 ho3 hb3))
          go_roundw
          case rel => exact ⟨k + 1, by omega, by go_num, by rw [HL.out]; exact ho3, hb2'.trans hb3⟩
          case measure => simp [intOf]; omega
        · have HL := Lib.hid (dirK_off hx)
          have HN' := Lib.hid HN; clear HN
          generalize nextQ d.proxies k = z at *
          go_wp2_with (go_at_call 74; refine HN'.out.mono ?_; rintro e w2 ⟨rfl, hb2⟩)
          go_roundw
          case rel => exact ⟨k + 1, by omega, by go_num, by rw [HL.out]; exact OwnI.below ho hb2, hb.trans (hb2.mono (by omega))⟩
          case measure => simp [intOf]; omega
      · obtain rfl : k = d.weights.length := by omega
        go_wp2_with fail
        go_ret2
        exact ⟨_, rfl, own_base ho (by omega), hfin⟩

theorem follow_zero {ps : List DProxy} {x : Int} : (followQ ps x).2 = 0 ↔ nextQ ps x < 0 := by
  unfold followQ
  by_cases h : nextQ ps x < 0
  · simp [walkQ_stop h, h]
  · rw [walkQ_go h]; simp [h]
set_option maxHeartbeats 1000000 in
theorem i_DirectVotes (v u : Value) (d : DVoters) (w : World) (h : VotersAt w v u d) (hn : d.weights.length ≤ 1048576 ∧ d.proxies.length ≤ 1048576) :
    Calls Try.prog 22 #[vVoters v u] w fun e w' => ∃ p, e = .returned (.tuple #[p, .bool (dirV d).2]) ∧ OwnInts w' w.heap.size p (dirV d).1 ∧ Below w.heap.size w w' := by
  have hn2 := hn.2
  obtain ⟨ao, cap, ao', cap', rfl, rfl⟩ := h.form
  obtain ⟨W, hW⟩ : ∃ W, W = w.alloc (.cells #[.slice ao d.weights.length cap, .slice ao' d.proxies.length cap'] 29) := ⟨_, rfl⟩
  have bA : BoxAt W w.heap.size #[.slice ao d.weights.length cap, .slice ao' d.proxies.length cap'] := by rw [hW]; exact BoxAt.new _ _ _
  have hWb : Below w.heap.size w W := by rw [hW]; go_grown
  have hWs : W.heap.size = w.heap.size + 1 := by rw [hW]; simp
  have HQ := i_AreVoters _ _ d W (h.below hWb) hn
  have HW := Lib.hid hW; clear hW
  have a0 := bA.cells
  cases hok : votersOk d with
  | false =>
    have HR : dirV d = ([], false) := by simp [dirV, hok]
    rw [HR]
    rw [hok] at HQ
    have HQ' := Lib.hid HQ; clear HQ hok HR
    go_enter Try.func22, Try.ntmps22
    go_wp2_with fail
    rw [← HW.out]
    go_wp2_with (go_at_call 32; refine HQ'.out.mono ?_; rintro e w1 ⟨rfl, hb1⟩; have hb1' := hWb.trans (hb1.mono hWb.size))
    go_ret2
    exact ⟨_, rfl, World.ownsRow_nil _ _ 3 1, hb1'⟩
  | true =>
    have HR : dirV d = (dirK d.proxies d.weights.length, true) := by simp [dirV, hok]
    have h12 := (votersOk_parts hok).1
    have HTO := Lib.hid (votersOk_to (votersOk_parts hok).2.2)
    rw [HR]
    rw [hok] at HQ
    have HQ' := Lib.hid HQ; clear HQ hok HR
    go_enter Try.func22, Try.ntmps22
    go_wp2_with fail
    rw [← HW.out]
    go_wp2_with (go_at_call 32; refine HQ'.out.mono ?_; rintro e w1 ⟨rfl, hb1⟩; have hs1 := hb1.size; have a1 := (bA.below hb1).cells; have hA1 := (bA.below hb1).1; have hbA : ¬ w1.heap.size = w.heap.size := (by omega); have hbA' : ¬ w.heap.size = w1.heap.size := (by omega); have ho1 : OwnInts (w1.alloc (.cells #[] 3)) (w.heap.size + 1) _ [] := own_base (own_lit0 w1 3) (by omega); have hb1' : Below (w.heap.size + 1) W (w1.alloc (.cells #[] 3)) := (hb1.mono (by omega)).alloc (by omega) _)
    go_loopw [4, 15] (fun o i wr => ∃ k : Nat, k ≤ d.weights.length ∧ i = .int .i64 k ∧ OwnInts wr (w.heap.size + 1) o (dirK d.proxies k) ∧ Below (w.heap.size + 1) W wr) (fun _ i _ => d.weights.length - (intOf i).toNat)
    case atStart => exact ⟨0, by omega, rfl, ho1, hb1'⟩
    case round =>
      obtain ⟨k, hk, rfl, ho, hb⟩ := hrel
      have hsz := hb.size
      have hfin : Below w.heap.size w wr := hWb.trans (hb.mono (by omega))
      have ar : ∀ i, wr.cell? ⟨w.heap.size, i, none⟩ = (#[.slice ao d.weights.length cap, .slice ao' d.proxies.length cap'] : Array Value)[i]? := fun i => (hb.cell (p := ⟨w.heap.size, i, none⟩) (by simp)).trans (bA.cells i)
      have hlen := dirK_len d.proxies k
      by_cases hlt : k < d.weights.length
      · have HN := i_follow _ _ d (k : Int) wr (h.below hfin) (by omega) HTO.out
        have hfz := follow_zero (ps := d.proxies) (x := (k : Int))
        by_cases hx : nextQ d.proxies k < 0
        · have HL := Lib.hid (dirK_on hx)
          have h0 : (((followQ d.proxies (k : Int)).2 : Nat) : Int) = 0 := by have := hfz.2 hx; omega
          rw [h0] at HN
          have HN' := Lib.hid HN; clear HN hfz hx h0
          generalize (followQ d.proxies (k : Int)).1 = z at *
          go_wp2_with (first | (go_at_call 68; refine HN'.out.mono ?_; rintro e w2 ⟨rfl, hb2⟩; have hs2 := hb2.size; have ho2 := OwnI.below ho hb2; have hb2' := hb.trans (hb2.mono (by omega))) | (at_builtin; refine wpList_push_int rfl (.tmp 26) (.tmp 28) _ rfl _ 3 _ int_info Try.underlying22 _ _ (k : Int) rfl ho2 rfl (by omega) (by omega) ?_; intro u' w3 ho3 hb3))
          go_roundw
          case rel => exact ⟨k + 1, by omega, by go_num, by rw [HL.out]; exact ho3, hb2'.trans hb3⟩
          case measure => simp [intOf]; omega
        · have HL := Lib.hid (dirK_off hx)
          have h0 : ((((followQ d.proxies (k : Int)).2 : Nat) : Int) == 0) = false := by rw [beq_eq_false_iff_ne]; intro hc; exact hx (hfz.1 (by omega))
          have hle := walkQ_le d.proxies (d.proxies.length + 1) (k : Int)
          have HN' := Lib.hid HN; clear HN hfz hx
          unfold followQ at HN' h0
          generalize walkQ d.proxies (d.proxies.length + 1) (k : Int) = r at *
          go_wp2_with (go_at_call 68; refine HN'.out.mono ?_; rintro e w2 ⟨rfl, hb2⟩)
          go_roundw
          case rel => exact ⟨k + 1, by omega, by go_num, by rw [HL.out]; exact OwnI.below ho hb2, hb.trans (hb2.mono (by omega))⟩
          case measure => simp [intOf]; omega
      · obtain rfl : k = d.weights.length := by omega
        go_wp2_with fail
        go_ret2
        exact ⟨_, rfl, own_base ho (by omega), hfin⟩

end Go.Proofs.Ytapkicfbknoioaa
