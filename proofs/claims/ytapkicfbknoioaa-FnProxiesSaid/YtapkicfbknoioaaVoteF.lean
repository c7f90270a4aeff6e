/- Contracts: whom a proxy leads to, in steps; the reference's and the program's. No conditions but that no proxy leads below zero. -/
import Derived.Test.YtapkicfbknoioaaVoterS
import Derived.Test.YtapkicfbknoioaaIdxF
namespace Go.Proofs.Ytapkicfbknoioaa
open Go.RowKit
set_option linter.unusedVariables false
set_option linter.unusedSimpArgs false

/-- The voter to whom a voter's proxy leads, -1 if there is none. -/
def nextQ : List DProxy → Int → Int
  | [], _ => -1
  | p :: r, x => if p.fr == x then p.to else nextQ r x
def walkQ (ps : List DProxy) : Nat → Int → Int × Nat
  | 0, x => (x, 0)
  | k + 1, x => if nextQ ps x < 0 then (x, 0) else ((walkQ ps k (nextQ ps x)).1, (walkQ ps k (nextQ ps x)).2 + 1)
def followQ (ps : List DProxy) (x : Int) : Int × Nat := walkQ ps (ps.length + 1) x
theorem walkQ_le (ps : List DProxy) (k : Nat) (x : Int) : (walkQ ps k x).2 ≤ k := by
  induction k generalizing x with
  | zero => simp [walkQ]
  | succ k ih => simp only [walkQ]; split; · simp
                 · have := ih (nextQ ps x); simp; omega
theorem walkQ_stop {ps : List DProxy} {k : Nat} {x : Int} (h : nextQ ps x < 0) : walkQ ps k x = (x, 0) := by cases k <;> simp [walkQ, h]
theorem walkQ_go {ps : List DProxy} {k : Nat} {x : Int} (h : ¬ nextQ ps x < 0) : walkQ ps (k + 1) x = ((walkQ ps k (nextQ ps x)).1, (walkQ ps k (nextQ ps x)).2 + 1) := by simp [walkQ, h]

/-- The first place and where its proxy leads. -/
theorem nextQ_idxF (ps : List DProxy) (x : Int) (k : Nat) : (idxFrom (fun p : DProxy => p.fr == x) k ps = -1 ∧ nextQ ps x = -1) ∨ (∃ i, ∃ h : i < ps.length, idxFrom (fun p : DProxy => p.fr == x) k ps = ((i + k : Nat) : Int) ∧ nextQ ps x = ps[i].to) := by
  induction ps generalizing k with
  | nil => exact .inl ⟨rfl, rfl⟩
  | cons p r ih =>
    simp only [idxFrom, nextQ]
    by_cases hp : (p.fr == x) = true
    · refine .inr ⟨0, by simp, ?_, ?_⟩
      · rw [if_pos hp]; simp
      · rw [if_pos hp]; simp
    · rw [if_neg hp, if_neg hp]
      rcases ih (k + 1) with ⟨h1, h2⟩ | ⟨i, hi, h1, h2⟩
      · exact .inl ⟨h1, h2⟩
      · exact .inr ⟨i + 1, by simp; omega, by rw [h1]; congr 1; omega, by simpa using h2⟩
theorem nextQ_idx (ps : List DProxy) (x : Int) : (idxBy (fun p : DProxy => p.fr == x) ps = -1 ∧ nextQ ps x = -1) ∨ (∃ i, ∃ h : i < ps.length, idxBy (fun p : DProxy => p.fr == x) ps = (i : Int) ∧ nextQ ps x = ps[i].to) := by
  rw [← idxFrom_eq]; simpa using nextQ_idxF ps x 0

theorem ret_ii {a b : Int} {c d : Int} (h : a = b) (h' : c = d) : Ending.returned (.tuple #[.int .i64 a, .int .i64 c]) = .returned (.tuple #[.int .i64 b, .int .i64 d]) := by rw [h, h']
theorem BoxAt.set1 {w : World} {b : Nat} {old : Value} (h : BoxAt w b #[old]) (x : Value) : BoxAt (w.setCell ⟨b, 0, none⟩ x) b #[x] := by
  have hc := h.cells
  have hf := h.free
  refine ⟨by simpa using h.1, fun i => ?_, fun i => ?_⟩
  · cases i with
    | zero => simp [go_sem, hc]
    | succ n => simp [go_sem, hc]
  · simp [go_sem, hf]

set_option maxHeartbeats 1000000 in
theorem s_l12Next (v u : Value) (d : DVoters) (x : Int) (w : World) (h : VotersAt w v u d) :
    Calls Try.prog 74 #[vVoters v u, .int .i64 x] w fun e w' => e = .returned (.int .i64 (nextQ d.proxies x)) ∧ Below w.heap.size w w' := by
  obtain ⟨ao, cap, ao', cap', rfl, rfl⟩ := h.form
  obtain ⟨W, hW⟩ : ∃ W, W = w.alloc (.cells #[.slice ao d.weights.length cap, .slice ao' d.proxies.length cap'] 29) := ⟨_, rfl⟩
  have bA : BoxAt W w.heap.size #[.slice ao d.weights.length cap, .slice ao' d.proxies.length cap'] := by rw [hW]; exact BoxAt.new _ _ _
  have hWb : Below w.heap.size w W := by rw [hW]; go_grown
  have hI := (h.below hWb).2
  have HW := Lib.hid hW; clear hW
  have a0 := bA.cells
  obtain ⟨_, a', c', hsl, h1, h2, h3⟩ := hI
  simp only [Value.slice.injEq, true_and] at hsl
  obtain ⟨rfl, rfl⟩ := hsl
  unfold maxLen at h2
  go_enter Try.func74, Try.ntmps74
  go_wp2_with fail
  rw [← HW.out]
  go_wp2_with fail
  go_loopw [5] (fun i wr => ∃ k : Nat, k ≤ d.proxies.length ∧ i = .int .i64 k ∧ Hid (nextQ d.proxies x = nextQ (d.proxies.drop k) x) ∧ W = wr) (fun i _ => d.proxies.length - (intOf i).toNat)
  case atStart => exact ⟨0, by omega, rfl, by simp [Hid], by trivial⟩
  case round =>
    obtain ⟨k, hk, rfl, hd, rfl⟩ := hrel
    by_cases hlt : k < d.proxies.length
    · obtain ⟨b, off, rfl, h4, h5⟩ := h3 (by omega)
      obtain ⟨c0, c1⟩ := h5.prox hlt
      have hd' := hd.out
      rw [drop_at hlt] at hd'
      simp only [nextQ] at hd'
      clear hd
      by_cases hx : d.proxies[k].fr = x
      · have HD : Hid (nextQ d.proxies x = d.proxies[k].to) := by simpa [Hid, hx] using hd'
        have hb1 : (d.proxies[k].fr == x) = true := by simp [hx]
        clear hd' hx
        generalize d.proxies[k].fr = f at *
        generalize d.proxies[k].to = t at *
        go_wp2_with fail
        go_ret
        exact ⟨ret_int HD.out.symm, hWb⟩
      · have HD : Hid (nextQ d.proxies x = nextQ (d.proxies.drop (k + 1)) x) := by simpa [Hid, hx] using hd'
        have hb1 : (d.proxies[k].fr == x) = false := by simp [hx]
        clear hd' hx
        generalize d.proxies[k].fr = f at *
        generalize d.proxies[k].to = t at *
        go_wp2_with fail
        go_roundw
        case rel => exact ⟨k + 1, by omega, by go_num, HD, by trivial⟩
        case measure => simp [intOf]; omega
    · have HD : Hid (nextQ d.proxies x = -1) := by
        have := hd.out
        rw [List.drop_of_length_le (by omega)] at this
        simpa [Hid, nextQ] using this
      clear hd
      go_wp2_with fail
      go_ret
      exact ⟨ret_int HD.out.symm, hWb⟩

set_option maxHeartbeats 1000000 in
theorem s_l12Steps (v u : Value) (d : DVoters) (x : Int) (w : World) (h : VotersAt w v u d) (hn : d.proxies.length ≤ 4000000) :
    Calls Try.prog 71 #[vVoters v u, .int .i64 x] w fun e w' => e = .returned (.tuple #[.int .i64 (followQ d.proxies x).1, .int .i64 (followQ d.proxies x).2]) ∧ Below w.heap.size w w' := by
  obtain ⟨ao, cap, ao', cap', rfl, rfl⟩ := h.form
  obtain ⟨W, hW⟩ : ∃ W, W = w.alloc (.cells #[.slice ao d.weights.length cap, .slice ao' d.proxies.length cap'] 29) := ⟨_, rfl⟩
  have bA : BoxAt W w.heap.size #[.slice ao d.weights.length cap, .slice ao' d.proxies.length cap'] := by rw [hW]; exact BoxAt.new _ _ _
  have hWb : Below w.heap.size w W := by rw [hW]; go_grown
  have hI := h.below hWb
  have HW := Lib.hid hW; clear hW
  have a0 := bA.cells
  go_enter Try.func71, Try.ntmps71
  go_wp2_with fail
  rw [← HW.out]
  go_loopw [1, 6] (fun vo i wr => ∃ (k : Nat) (y : Int), k ≤ d.proxies.length + 1 ∧ i = .int .i64 k ∧ vo = .int .i64 y ∧ Hid (followQ d.proxies x = ((walkQ d.proxies (d.proxies.length + 1 - k) y).1, (walkQ d.proxies (d.proxies.length + 1 - k) y).2 + k)) ∧ Below W.heap.size W wr) (fun _ i _ => d.proxies.length + 1 - (intOf i).toNat)
  case atStart => exact ⟨0, x, by omega, rfl, rfl, by simp [Hid, followQ], Below.refl _ _⟩
  case round =>
    obtain ⟨k, y, hk, rfl, rfl, hd, hb⟩ := hrel
    have ar := (bA.below hb).cells
    have hd' := hd.out
    clear hd a0
    by_cases hlt : k ≤ d.proxies.length
    · have HN := s_l12Next _ _ d y wr (hI.below hb)
      by_cases hx : nextQ d.proxies y < 0
      · have HD : Hid (followQ d.proxies x = (y, k)) := by rw [walkQ_stop hx] at hd'; simpa [Hid] using hd'
        have HN' := Lib.hid HN; clear HN hd'
        generalize nextQ d.proxies y = z at *
        go_wp2_with (go_at_call 74; refine HN'.out.mono ?_; rintro e w2 ⟨rfl, hb2⟩)
        go_ret2
        exact ⟨ret_ii (by rw [HD.out]) (by rw [HD.out]), hWb.trans ((below_step hb hb2).mono hWb.size)⟩
      · have e1 : d.proxies.length + 1 - k = (d.proxies.length + 1 - (k + 1)) + 1 := by omega
        rw [e1, walkQ_go hx] at hd'
        have HD : Hid (followQ d.proxies x = ((walkQ d.proxies (d.proxies.length + 1 - (k + 1)) (nextQ d.proxies y)).1, (walkQ d.proxies (d.proxies.length + 1 - (k + 1)) (nextQ d.proxies y)).2 + (k + 1))) := by
          simp only [Hid]; rw [hd']; simp only [Prod.mk.injEq, true_and]; omega
        have HN' := Lib.hid HN; clear HN hd' e1
        generalize nextQ d.proxies y = z at *
        go_wp2_with (go_at_call 74; refine HN'.out.mono ?_; rintro e w2 ⟨rfl, hb2⟩)
        go_roundw
        case rel => exact ⟨k + 1, z, by omega, by go_num, rfl, HD, below_step hb hb2⟩
        case measure => simp [intOf]; omega
    · have HD : Hid (followQ d.proxies x = (y, k)) := by
        have e1 : d.proxies.length + 1 - k = 0 := by omega
        rw [e1] at hd'
        simpa [Hid, walkQ] using hd'
      clear hd'
      go_wp2_with fail
      go_ret2
      exact ⟨ret_ii (by rw [HD.out]) (by rw [HD.out]), hWb.trans (hb.mono hWb.size)⟩

theorem i_hasVoter (v u : Value) (d : DVoters) (x : Int) (w : World) (h : VotersAt w v u d) :
    Calls Try.prog 70 #[vVoters v u, .int .i64 x] w fun e w' => e = .returned (.bool (inB x 0 ((d.weights.length : Int) - 1))) ∧ Below w.heap.size w w' := by
  have h2 : d.weights.length ≤ maxLen := by obtain ⟨_, _, _, _, h1, h2, _⟩ := h.1; omega
  unfold maxLen at h2
  obtain ⟨ao, cap, ao', cap', rfl, rfl⟩ := h.form
  go_enter Try.func70, Try.ntmps70
  go_wp2_with (go_at_call 61; refine (i_inside _ _ _ _).mono ?_; rintro e w' ⟨rfl, rfl⟩)
  go_ret
  exact ⟨rfl, by go_grown⟩

theorem i_follow1 (q : DProxy) (b : Nat) (y : Int) (w : World) (hB : BoxAt w b #[.int .i64 y]) :
    Calls Try.prog 85 #[vProxy q, .pointer (some ⟨b, 0, none⟩)] w fun e w' => e = .returned (.bool (q.fr == y)) ∧ Below w.heap.size w w' := by
  obtain ⟨fr, to⟩ := q
  have hc := hB.cells
  have hlt := hB.1
  have hne : ¬ w.heap.size = b := by omega
  go_enter Try.func85, Try.ntmps85
  go_wp2_with fail
  go_ret
  exact ⟨rfl, by go_grown⟩

set_option maxHeartbeats 1000000 in
theorem IndexFunc_proxy (cf : Nat) (hcf : Enters Try.prog cf) (cap : List Value) (p : DProxy → Bool) (v : Value) (xs : List DProxy) (w : World) (h : ProxsAt w v xs)
    (hp : ∀ x w', Below w.heap.size w w' → Calls Try.prog cf (vProxy x :: cap).toArray w' fun e w'' => e = .returned (.bool (p x)) ∧ Below w'.heap.size w' w'') :
    Calls Try.prog 84 #[v, .func (.func cf) #[] cap.toArray] w fun e w' => e = .returned (.int .i64 (idxBy p xs)) ∧ Below w.heap.size w w' := by
  obtain ⟨_, ao, cap', rfl, h1, h2, h3⟩ := h
  unfold maxLen at h2
  rw [← idxFrom_eq]
  have HP := Lib.hid hp; clear hp
  have hcf := hcf.out
  go_enter Try.func84, Try.ntmps84
  go_wp2_with fail
  go_loopw [8] (fun i wr => ∃ k : Nat, k ≤ xs.length ∧ i = .int .i64 k ∧ Hid (idxFrom p 0 xs = idxFrom p k (xs.drop k)) ∧ Below w.heap.size w wr) (fun i _ => xs.length - (intOf i).toNat)
  case atStart => exact ⟨0, by omega, rfl, by simp [Hid], Below.refl _ _⟩
  case round =>
    obtain ⟨k, hk, rfl, hd, hb⟩ := hrel
    by_cases hlt : k < xs.length
    · obtain ⟨b, off, rfl, h4, h5⟩ := h3 (by omega)
      obtain ⟨c0, c1⟩ := (CellsAt.below h5 hb h4).prox hlt
      have hd' := hd.out
      rw [drop_at hlt] at hd'
      simp only [idxFrom] at hd'
      cases hpx : p xs[k] with
      | true =>
        have HD : Hid (idxFrom p 0 xs = k) := by simpa [Hid, hpx] using hd'
        clear hd hd'
        have HPX := Lib.hid hpx; clear hpx
        generalize xs[k] = x at *
        obtain ⟨fr, to⟩ := x
        go_wp2_with fail
        refine (HP.out ⟨fr, to⟩ _ hb).mono ?_
        rw [HPX.out]
        rintro e w' ⟨rfl, hb1⟩
        go_wp2_with fail
        go_ret
        exact ⟨ret_int HD.out.symm, below_step hb hb1⟩
      | false =>
        have HD : Hid (idxFrom p 0 xs = idxFrom p (k + 1) (xs.drop (k + 1))) := by simpa [Hid, hpx] using hd'
        clear hd hd'
        have HPX := Lib.hid hpx; clear hpx
        generalize xs[k] = x at *
        obtain ⟨fr, to⟩ := x
        go_wp2_with fail
        refine (HP.out ⟨fr, to⟩ _ hb).mono ?_
        rw [HPX.out]
        rintro e w' ⟨rfl, hb1⟩
        go_wp2_with fail
        go_roundw
        case rel => exact ⟨k + 1, by omega, by go_num, HD, below_step hb hb1⟩
        case measure => simp [intOf]; omega
    · have HD : Hid (idxFrom p 0 xs = -1) := by
        have := hd.out
        rw [List.drop_of_length_le (by omega)] at this
        simpa [Hid, idxFrom] using this
      clear hd
      go_wp2_with fail
      go_ret
      exact ⟨ret_int HD.out.symm, hb⟩

set_option maxHeartbeats 1000000 in
theorem i_follow (v u : Value) (d : DVoters) (x : Int) (w : World) (h : VotersAt w v u d) (hn : d.proxies.length ≤ 4000000) (hto : ∀ p ∈ d.proxies, 0 ≤ p.to) :
    Calls Try.prog 68 #[vVoters v u, .int .i64 x] w fun e w' => e = .returned (.tuple #[.int .i64 (followQ d.proxies x).1, .int .i64 (followQ d.proxies x).2]) ∧ Below w.heap.size w w' := by
  have hent : Enters Try.prog 85 := enters_of Try.func85 (by kernel_rfl) (by kernel_rfl)
  obtain ⟨ao, cap, ao', cap', rfl, rfl⟩ := h.form
  obtain ⟨W, hW⟩ : ∃ W, W = (w.alloc (.cells #[.slice ao d.weights.length cap, .slice ao' d.proxies.length cap'] 29)).alloc (.cells #[.int .i64 x] 3) := ⟨_, rfl⟩
  have bA : BoxAt W w.heap.size #[.slice ao d.weights.length cap, .slice ao' d.proxies.length cap'] := by rw [hW]; exact (BoxAt.new _ _ _).alloc _
  have bX : BoxAt W (w.heap.size + 1) #[.int .i64 x] := by rw [hW]; exact BoxAt.new_at _ _ _ _ (by simp)
  have hWb : Below w.heap.size w W := by rw [hW]; go_grown
  have hWs : W.heap.size = w.heap.size + 2 := by rw [hW]; simp
  have hI := h.below hWb
  have HW := Lib.hid hW; clear hW
  have HT := Lib.hid hto; clear hto
  go_enter Try.func68, Try.ntmps68
  go_wp2_with fail
  rw [← HW.out]
  go_loopw [6] (fun i wr => ∃ (k : Nat) (y : Int), k ≤ d.proxies.length + 1 ∧ i = .int .i64 k ∧ BoxAt wr (w.heap.size + 1) #[.int .i64 y] ∧ Hid (followQ d.proxies x = ((walkQ d.proxies (d.proxies.length + 1 - k) y).1, (walkQ d.proxies (d.proxies.length + 1 - k) y).2 + k)) ∧ Below (w.heap.size + 1) W wr) (fun i _ => d.proxies.length + 1 - (intOf i).toNat)
  case atStart => exact ⟨0, x, by omega, rfl, bX, by simp [Hid, followQ], (Below.refl W.heap.size W).mono (by omega)⟩
  case round =>
    obtain ⟨k, y, hk, rfl, bY, hd, hb⟩ := hrel
    have hfin : Below w.heap.size w wr := hWb.trans (hb.mono (by omega))
    have ar : ∀ i, wr.cell? ⟨w.heap.size, i, none⟩ = (#[.slice ao d.weights.length cap, .slice ao' d.proxies.length cap'] : Array Value)[i]? := fun i => (hb.cell (p := ⟨w.heap.size, i, none⟩) (by simp)).trans (bA.cells i)
    have yr := bY.cells
    have hd' := hd.out
    clear hd
    by_cases hlt : k ≤ d.proxies.length
    · have HN := IndexFunc_proxy 85 hent [.pointer (some ⟨w.heap.size + 1, 0, none⟩)] (fun q => q.fr == y) _ d.proxies wr (h.2.below hfin) (fun q w' hw' => i_follow1 q _ y w' (bY.below hw'))
      rcases nextQ_idx d.proxies y with ⟨hi, hx⟩ | ⟨i, hil, hi, hx⟩
      · rw [hi] at HN
        have HD : Hid (followQ d.proxies x = (y, k)) := by rw [walkQ_stop (by omega)] at hd'; simpa [Hid] using hd'
        have HN' := Lib.hid HN; clear HN hd' hi hx
        go_wp2_with (go_at_call 84; refine HN'.out.mono ?_; rintro e w2 ⟨rfl, hb2⟩; have y2 := (bY.below hb2).cells)
        go_ret2
        exact ⟨ret_ii (by rw [HD.out]) (by rw [HD.out]), hfin.trans (hb2.mono hfin.size)⟩
      · rw [hi] at HN
        have htn : 0 ≤ d.proxies[i].to := HT.out _ (List.getElem_mem hil)
        have e1 : d.proxies.length + 1 - k = (d.proxies.length + 1 - (k + 1)) + 1 := by omega
        rw [e1, walkQ_go (by omega), hx] at hd'
        have HD : Hid (followQ d.proxies x = ((walkQ d.proxies (d.proxies.length + 1 - (k + 1)) d.proxies[i].to).1, (walkQ d.proxies (d.proxies.length + 1 - (k + 1)) d.proxies[i].to).2 + (k + 1))) := by
          simp only [Hid]; rw [hd']; simp only [Prod.mk.injEq, true_and]; omega
        have HN' := Lib.hid HN; clear HN hd' e1 hi hx
        obtain ⟨_, a', c', hsl, g1, g2, g3⟩ := (h.2.below hfin)
        simp only [Value.slice.injEq, true_and] at hsl
        obtain ⟨rfl, rfl⟩ := hsl
        unfold maxLen at g2
        obtain ⟨b, off, rfl, h4, h5⟩ := g3 (by omega)
        obtain ⟨c0, c1⟩ := h5.prox hil
        generalize d.proxies[i].fr = f at *
        generalize d.proxies[i].to = t at *
        have hsz := hb.size
        go_wp2_with (go_at_call 84; refine HN'.out.mono ?_; rintro e w2 ⟨rfl, hb2⟩; have y2 := (bY.below hb2).cells; have yf2 := (bY.below hb2).free; have c1' := below_cell h4 c1 _ hb2; have ar2 : ∀ i, w2.cell? ⟨w.heap.size, i, none⟩ = (#[.slice ao d.weights.length cap, .slice (some ⟨b, off, none⟩) d.proxies.length cap'] : Array Value)[i]? := fun i => (hb2.cell (p := ⟨w.heap.size, i, none⟩) (by simp; omega)).trans (ar i))
        go_roundw
        case rel => exact ⟨k + 1, t, by omega, by go_num, BoxAt.set1 (bY.below hb2) _, HD, (hb.trans (hb2.mono (by omega))).setCell (by simp) _⟩
        case measure => simp [intOf]; omega
    · have HD : Hid (followQ d.proxies x = (y, k)) := by
        have e1 : d.proxies.length + 1 - k = 0 := by omega
        rw [e1] at hd'
        simpa [Hid, walkQ] using hd'
      clear hd'
      go_wp2_with fail
      go_ret2
      exact ⟨ret_ii (by rw [HD.out]) (by rw [HD.out]), hfin⟩

end Go.Proofs.Ytapkicfbknoioaa
