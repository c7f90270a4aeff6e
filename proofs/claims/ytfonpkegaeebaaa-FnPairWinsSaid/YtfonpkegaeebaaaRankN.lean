/- Contracts: MoveUp, the reference's and the program's. No conditions beyond sizes. -/
import Derived.Test.YtfonpkegaeebaaaRankX
import Derived.Test.YtfonpkegaeebaaaRankR
import Derived.Test.YtfonpkegaeebaaaNestO
namespace Go.Proofs.Ytfonpkegaeebaaa
open Go.RowKit
set_option linter.unusedVariables false
set_option linter.unusedSimpArgs false

/-- Two neighbours change places. -/
def swapAt (o : List Int) (p : Nat) : List Int := (o.set (p - 1) (o.getD p 0)).set p (o.getD (p - 1) 0)
@[simp] theorem swapAt_len (o : List Int) (p : Nat) : (swapAt o p).length = o.length := by simp [swapAt]
def moveV (n : Int) (rs : List DRanking) (v c : Int) : List DRanking × Bool :=
  if electOk n rs && inB v 0 ((rs.length : Int) - 1) then
    (match rs[v.toNat]? with
     | some r => if 1 ≤ posR r c then (rs.set v.toNat ⟨swapAt r.order (posR r c).toNat, r.weight⟩, true) else ([], false)
     | none => ([], false))
  else ([], false)
theorem moveV_at {n : Int} {rs : List DRanking} {c : Int} {k : Nat} (hk : k < rs.length) (h1 : electOk n rs = true) (h2 : inB (k : Int) 0 ((rs.length : Int) - 1) = true) :
    moveV n rs (k : Int) c = if 1 ≤ posR rs[k] c then (rs.set k ⟨swapAt rs[k].order (posR rs[k] c).toNat, rs[k].weight⟩, true) else ([], false) := by
  simp [moveV, h1, h2, List.getElem?_eq_getElem hk]
theorem moveV_len (n : Int) (rs : List DRanking) (v c : Int) : rankSum (moveV n rs v c).1 ≤ 4000000 := by
  unfold moveV
  split
  · rename_i h
    simp only [Bool.and_eq_true] at h
    obtain ⟨N, rfl, hN1, hN5, h1, h9, hrs⟩ := electOk_parts h.1
    split
    · rename_i r hr
      split
      · have hm := List.mem_of_getElem? hr
        have := sumG_le (cnt := cntR) (xs := rs.set v.toNat ⟨swapAt r.order (posR r c).toNat, r.weight⟩) (m := 6) (fun x hx => by
          rcases List.mem_or_eq_of_mem_set hx with h2 | h2
          · have := (hrs x h2).1; simp only [cntR]; omega
          · subst h2; have := (hrs r hm).1; simp only [cntR, swapAt_len]; omega)
        simp only [rankSum, List.length_set] at *
        omega
      · simp [rankSum, sumG]
    · simp [rankSum, sumG]
  · simp [rankSum, sumG]
theorem posR_facts {N : Nat} {r : DRanking} (h : permOk N r.order = true) (c : Int) : (inB c 0 ((N : Int) - 1) = false → posR r c < 1) ∧ (inB c 0 ((N : Int) - 1) = true → ∃ j, ∃ hj : j < r.order.length, posR r c = (j : Int) ∧ r.order[j] = c ∧ ∀ i (hi : i < r.order.length), i ≠ j → r.order[i] ≠ c) := by
  have h0 := h
  simp only [permOk, Bool.and_eq_true, decide_eq_true_eq] at h
  obtain ⟨h1, h2⟩ := h
  constructor
  · intro hc
    by_cases hm : hasB r.order c = true
    · have hmm := permF_mem h2 c (hasB_iff.1 hm)
      rw [hc] at hmm; cases hmm
    · have := idx_none (am := r.order) (c := c) (by simpa using hm)
      unfold posR
      omega
  · intro hc
    have hc' := inB_iff.1 hc
    obtain ⟨_, hp, h3⟩ := pos_facts h0
    obtain ⟨j, hj, h4, h5⟩ := h3 c.toNat (by omega)
    have hcc : ((c.toNat : Nat) : Int) = c := by omega
    rw [hcc] at h4 h5
    refine ⟨j, hj, h4, h5, fun i hi hne he => ?_⟩
    have := hp i hi
    rw [he, h4] at this
    omega

set_option maxRecDepth 100000 in
set_option maxHeartbeats 4000000 in
theorem i_MoveUp (n : Int) (v : Value) (rs : List DRanking) (vo c : Int) (w : World) (h : RanksAt w v rs) :
    Calls Try.prog 18 #[.int .i64 n, v, .int .i64 vo, .int .i64 c] w fun e w' => ∃ p, e = .returned (.tuple #[p, .bool (moveV n rs vo c).2]) ∧ OwnRanks w' w.heap.size p (moveV n rs vo c).1 ∧ Below w.heap.size w w' := by
  have HQ := i_IsElection n v rs w h
  obtain ⟨ao, cap, rfl⟩ := h.form
  have fin0 : ∀ w1, Below w.heap.size w w1 → OwnRanks w1 w.heap.size (.slice none 0 0) [] ∧ Below w.heap.size w w1 := fun w1 hb => ⟨OwnNest.nil _ _ _ _, hb⟩
  cases hok : electOk n rs with
  | false =>
    have HR : moveV n rs vo c = ([], false) := by simp [moveV, hok]
    rw [HR]
    rw [hok] at HQ
    have HQ' := Lib.hid HQ; clear HQ hok HR
    go_enter Try.func18, Try.ntmps18
    go_wp2_with (go_at_call 26; refine HQ'.out.mono ?_; rintro e w1 ⟨rfl, hb1⟩)
    go_ret2
    exact ⟨_, rfl, fin0 _ hb1⟩
  | true =>
    rw [hok] at HQ
    have HQ' := Lib.hid HQ; clear HQ
    have hL9 : rs.length ≤ 9 := by obtain ⟨_, _, _, _, _, h9, _⟩ := electOk_parts hok; exact h9
    cases hv : inB vo 0 ((rs.length : Int) - 1) with
    | false =>
      have HR : moveV n rs vo c = ([], false) := by simp [moveV, hv]
      rw [HR]
      have HV := Lib.hid hv; clear hv hok HR
      go_enter Try.func18, Try.ntmps18
      go_wp2_with (first | (go_at_call 26; refine HQ'.out.mono ?_; rintro e w1 ⟨rfl, hb1⟩) | (go_at_call 43; refine (i_inside _ _ _ _).mono ?_; rw [HV.out]; rintro e w' ⟨rfl, rfl⟩))
      go_ret2
      exact ⟨_, rfl, fin0 _ hb1⟩
    | true =>
      have hvb := inB_iff.1 hv
      obtain ⟨k, rfl⟩ : ∃ k : Nat, vo = k := ⟨vo.toNat, by omega⟩
      have hk : k < rs.length := by omega
      have HR0 := moveV_at (c := c) hk hok hv
      have HV := Lib.hid hv
      obtain ⟨N, rfl, hN1, hN5, h9, hperm, hF⟩ := elect_facts hok
      obtain ⟨b, off, u0, rfl, h4, h5, c0, c1⟩ := h.get hk
      have hIx := fun w1 (hb1 : Below w.heap.size w w1) => slices_Index u0 rs[k].order c w1 (h5.below hb1)
      have HIX := Lib.hid hIx; clear hIx
      have hk0 : (0 : Int) ≤ (k : Int) := by omega
      have hk1 : (k : Int) < (rs.length : Int) := by omega
      by_cases hp : 1 ≤ posR rs[k] c
      · rw [if_pos hp] at HR0
        rw [HR0]
        obtain ⟨j, hj, hpj, hoj, hon⟩ : ∃ j, ∃ hj : j < rs[k].order.length, posR rs[k] c = (j : Int) ∧ rs[k].order[j] = c ∧ True := by
          have hpm := (hperm _ (List.getElem_mem hk)).1
          cases hc : inB c 0 ((N : Int) - 1) with
          | false => have := (posR_facts hpm c).1 hc; omega
          | true => obtain ⟨j, hj, h1, h2, _⟩ := (posR_facts hpm c).2 hc; exact ⟨j, hj, h1, h2, trivial⟩
        rw [hpj] at hp ⊢
        have hidx : idxFrom (fun x => c == x) 0 rs[k].order = (j : Int) := hpj
        have hol := (hF _ (List.getElem_mem hk)).1
        have HIX2 : Hid (∀ w1, Below w.heap.size w w1 → Calls Try.prog 36 #[u0, .int .i64 c] w1 fun e w' => e = .returned (.int .i64 (j : Int)) ∧ w1 = w') := fun w1 hb1 => by
          have := HIX.out w1 hb1
          rw [hidx] at this
          exact this
        have HF := Lib.hid hF
        have hjd : decide ((j : Int) < 1) = false := decide_eq_false (by omega)
        have hjt : (j : Int).toNat = j := by omega
        rw [hjt]
        have HON := Lib.hid hoj
        have hlt9 : (N : Int) ≤ 5 := by omega
        clear hok HR0 hpj hidx hv hvb HIX hperm hF hlt9 hjt hoj hon
        go_enter Try.func18, Try.ntmps18
        go_wp2_with (first | (go_at_call 26; refine HQ'.out.mono ?_; rintro e w1 ⟨rfl, hb1⟩; have d0 := (hb1.cell (p := ⟨b, off + k * 2, none⟩) h4).trans c0) | (go_at_call 43; refine (i_inside _ _ _ _).mono ?_; rw [HV.out]; rintro e w' ⟨rfl, rfl⟩) | (go_at_call 36; refine (HIX2.out _ hb1).mono ?_; rintro e w' ⟨rfl, rfl⟩))
        have hol1 : OwnRanks (w1.alloc (.cells #[] 44)) w.heap.size (.slice (some ⟨w1.heap.size, 0, none⟩) 0 0) (rs.take 0) := OwnNest.base (OwnNest.lit _ _ w1) hb1.size
        have hbl1 : Below w.heap.size w (w1.alloc (.cells #[] 44)) := hb1.alloc hb1.size _
        go_loopw [11, 39] (fun o i wr => ∃ m : Nat, m ≤ rs.length ∧ i = .int .i64 m ∧ OwnRanks wr w.heap.size o (rs.take m) ∧ Below w.heap.size w wr) (fun _ i _ => rs.length - (intOf i).toNat)
        case atStart => exact ⟨0, by omega, rfl, hol1, hbl1⟩
        case round =>
          clear hol1 hbl1
          obtain ⟨m, hm, rfl, ho, hb⟩ := hrel
          by_cases hlt : m < rs.length
          · obtain ⟨b', off', u1, hbo, g4, g5, e0, e1⟩ := (h.below hb).get hlt
            simp only [Option.some.injEq, Addr.mk.injEq, and_true] at hbo
            obtain ⟨rfl, rfl⟩ := hbo
            have hor := (HF.out _ (List.getElem_mem hlt)).1
            have htk := take_at hlt
            have htl : (rs.take m).length ≤ 9 := by simp; omega
            have HTK := Lib.hid htk; have HTL := Lib.hid htl
            clear htk htl
            generalize rs[m] = r at *
            obtain ⟨a1, k1, rfl⟩ := g5.form
            obtain ⟨W2, hW2⟩ : ∃ W2, W2 = wr.alloc (.cells #[.slice a1 r.order.length k1, .int .i64 r.weight] 44) := ⟨_, rfl⟩
            have bC : BoxAt W2 wr.heap.size #[.slice a1 r.order.length k1, .int .i64 r.weight] := by rw [hW2]; exact BoxAt.new _ _ _
            have hal : Below wr.heap.size wr W2 := by rw [hW2]; exact (Below.refl _ _).alloc (Nat.le_refl _) _
            have hg2 := g5.below hal
            have q0 : W2.cell? ⟨wr.heap.size, 0, none⟩ = some (.slice a1 r.order.length k1) := by simpa using bC.cells 0
            have q1 : W2.cell? ⟨wr.heap.size, 1, none⟩ = some (.int .i64 r.weight) := by simpa using bC.cells 1
            have hlt2 := bC.1
            have HW2 := Lib.hid hW2; clear hW2
            have HO := Lib.hid ho; have HG2 := Lib.hid hg2
            clear ho hg2
            go_wp2_with fail
            rw [← HW2.out]
            go_region_held3 (fun w' => w'.cell? ⟨wr.heap.size, 0, none⟩ = some (.slice a1 r.order.length k1) ∧ w'.cell? ⟨wr.heap.size, 1, none⟩ = some (.int .i64 r.weight)) (first | exact ⟨q0, q1⟩ | exact hs4 | exact hs3 | exact ⟨(World.cell?_alloc_lt w3 _ ⟨wr.heap.size, 0, none⟩ hlt3).trans hs3.1, (World.cell?_alloc_lt w3 _ ⟨wr.heap.size, 1, none⟩ hlt3).trans hs3.2⟩) (first
              | (go_at_call 44; refine (i_copyInts _ r.order _ (HG2.out.below (Below.drew (Below.refl _ _))) (by omega)).mono ?_; rintro e w3 ⟨p, rfl, ho3, hb3⟩; have hs3 : w3.cell? ⟨wr.heap.size, 0, none⟩ = some (.slice a1 r.order.length k1) ∧ w3.cell? ⟨wr.heap.size, 1, none⟩ = some (.int .i64 r.weight) := ⟨(hb3.cell (p := ⟨wr.heap.size, 0, none⟩) hlt2).trans q0, (hb3.cell (p := ⟨wr.heap.size, 1, none⟩) hlt2).trans q1⟩; have hlt3 : wr.heap.size < w3.heap.size := Nat.lt_of_lt_of_le hlt2 hb3.size; obtain ⟨a3, k3, rfl⟩ := ho3.at_.form)
              | ((refine step_push_nest (f := rcell) (ord := DRanking.order) (size := 2) (by rfl) (.tmp 43) (.tmp 50) _ (by rfl) (fun _ _ => rfl) w.heap.size 44 3 _ _ 32 rank_info Try.underlying24 (by rfl) (by omega) (by omega) _ (rs.take m) (.slice a3 r.order.length k3) r #[.slice a3 r.order.length k3, .int .i64 r.weight] (by rfl) wr HO.out (below_step hal (undrew hb3)) (own_base ho3 hal.size) rfl (by simp [rcell, Value.oneCell']) (by rfl) hb.size (by have := HTL.out; omega) ?_); (intro v4 w4 ho4 hb4 hg4); (have hs4 : w4.cell? ⟨wr.heap.size, 0, none⟩ = some (.slice a1 r.order.length k1) ∧ w4.cell? ⟨wr.heap.size, 1, none⟩ = some (.int .i64 r.weight) := ⟨(World.cell?_of_block (hg4.block wr.heap.size hlt3 (nest_blk HO.out))).trans hs3.1, (World.cell?_of_block (hg4.block wr.heap.size hlt3 (nest_blk HO.out))).trans hs3.2⟩)))
            have hbn := ((below_step (below_step hb hal) (undrew hb3))).trans hb4
            have HO4 := Lib.hid ho4
            clear ho4 hs3 hs4 hg4 hb4 hb3 ho3
            go_wp2_with fail
            go_roundw
            case rel => exact ⟨m + 1, by omega, by go_num, by rw [HTK.out]; exact HO4.out, hbn⟩
            case measure => simp [intOf]; omega
          · obtain rfl : m = rs.length := by omega
            rw [List.take_length] at ho
            obtain ⟨u, hu, ⟨g, cap2, rfl, hgl, hcu⟩, hupd⟩ := OwnNest.inner (f := rcell) (ord := DRanking.order) (size := 2) (fun _ _ => rfl) ho hk
            have e0 : wr.cell? ⟨g, k * 2, none⟩ = some u := by simpa [rcell] using hcu 0 (by omega)
            have hsw : ∀ w', w'.ownsRow w.heap.size 3 1 u rs[k].order.length (ints (swapAt rs[k].order j)) → wr.grownBy w' u.ownBlock → OwnRanks w' w.heap.size (.slice (some ⟨g, 0, none⟩) rs.length cap2) (rs.set k ⟨swapAt rs[k].order j, rs[k].weight⟩) := fun w' h1 h2 =>
              hupd w' ⟨swapAt rs[k].order j, rs[k].weight⟩ h2 (by unfold OwnI; simpa using h1) rfl
            obtain ⟨R, hR⟩ : ∃ R, R = rs.set k ⟨swapAt rs[k].order j, rs[k].weight⟩ := ⟨_, rfl⟩
            rw [← hR] at hsw
            have HRR := Lib.hid hR; clear hR
            have HSW := Lib.hid hsw
            obtain ⟨o, ho0⟩ : ∃ o, o = rs[k].order := ⟨_, rfl⟩
            rw [← ho0] at hu HSW hj hol
            have hlo : o.length ≤ 5 := hol
            clear hsw hupd hcu ho
            rcases hu.2 with ⟨_, hn0⟩ | ⟨gu, cu, cur, rfl, hgB, hgh, _⟩
            · omega
            · have hju : j - 1 < o.length := by omega
              have x0 : wr.cell? ⟨gu, j, none⟩ = some (.int .i64 (o.getD j 0)) := by rw [World.ownsRow.cellAt hu j (by omega), ints_gety hj]
              have x1 : wr.cell? ⟨gu, j - 1, none⟩ = some (.int .i64 (o.getD (j - 1) 0)) := by rw [World.ownsRow.cellAt hu (j - 1) (by omega), ints_gety hju]
              have f0 := World.ownsRow.frozenAt hu j
              have f1 := World.ownsRow.frozenAt hu (j - 1)
              have hjw : IntKind.i64.wrap ((j : Int) - 1) = ((j - 1 : Nat) : Int) := by rw [IntWalk.i64_in _ (by omega)]; omega
              have b0 : (0 : Int) ≤ (j : Int) := by omega
              have b1 : (j : Int) < (o.length : Int) := by omega
              have b2 : (0 : Int) ≤ ((j - 1 : Nat) : Int) := by omega
              have b3 : ((j - 1 : Nat) : Int) < (o.length : Int) := by omega
              have hne : j - 1 ≠ j := by omega
              have hs1 := hu.stored (j - 1) (.int .i64 (o.getD j 0))
              have hs2 := hs1.1.stored j (.int .i64 (o.getD (j - 1) 0))
              rw [ints_sety, ints_sety] at hs2
              have hgr := hs1.2.trans hs2.2
              have hfin := HSW.out _ hs2.1.drew ⟨hgr.os, hgr.tape, hgr.output, hgr.size, hgr.block⟩
              have hbf : Below w.heap.size w (((wr.setCell ⟨gu, j - 1, none⟩ (.int .i64 (o.getD j 0))).setCell ⟨gu, j, none⟩ (.int .i64 (o.getD (j - 1) 0))).drew) := by
                have := hb.grown hgr hb.size (by intro b hb; cases hb; exact hgB)
                exact ⟨this.os, this.tape, this.output, this.size, this.block⟩
              have HFN := Lib.hid hfin; have HBF := Lib.hid hbf
              clear hfin hbf hs1 hs2 hgr hgh
              generalize o.getD j 0 = y0 at *
              generalize o.getD (j - 1) 0 = y1 at *
              go_wp2_with fail
              go_region
              all_goals go_wp2_with fail
              all_goals go_ret2
              all_goals exact ⟨_, rfl, by rw [← HRR.out]; exact HFN.out, HBF.out⟩
      · rw [if_neg hp] at HR0
        rw [HR0]
        have hlt : idxFrom (fun x => c == x) 0 rs[k].order < 1 := by unfold posR at hp; omega
        have hjd : decide (idxFrom (fun x => c == x) 0 rs[k].order < 1) = true := decide_eq_true hlt
        clear hok HR0 hv hvb hperm hF hp
        generalize idxFrom (fun x => c == x) 0 rs[k].order = y at *
        go_enter Try.func18, Try.ntmps18
        go_wp2_with (first | (go_at_call 26; refine HQ'.out.mono ?_; rintro e w1 ⟨rfl, hb1⟩; have d0 := (hb1.cell (p := ⟨b, off + k * 2, none⟩) h4).trans c0) | (go_at_call 43; refine (i_inside _ _ _ _).mono ?_; rw [HV.out]; rintro e w' ⟨rfl, rfl⟩) | (go_at_call 36; refine (HIX.out _ hb1).mono ?_; rintro e w' ⟨rfl, rfl⟩))
        go_ret2
        exact ⟨_, rfl, fin0 _ hb1⟩

set_option maxRecDepth 100000 in
set_option maxHeartbeats 4000000 in
theorem s_MoveUp (n : Int) (v : Value) (rs : List DRanking) (vo c : Int) (w : World) (h : RanksAt w v rs) :
    Calls Try.prog 19 #[.int .i64 n, v, .int .i64 vo, .int .i64 c] w fun e w' => ∃ p, e = .returned (.tuple #[p, .bool (moveV n rs vo c).2]) ∧ OwnRanks w' w.heap.size p (moveV n rs vo c).1 ∧ Below w.heap.size w w' := by
  have HQ := s_l13Good n v rs w h
  obtain ⟨ao, cap, rfl⟩ := h.form
  have fin0 : ∀ w1, Below w.heap.size w w1 → OwnRanks (w1.alloc (.cells #[] 44)) w.heap.size (.slice (some ⟨w1.heap.size, 0, none⟩) 0 0) [] ∧ Below w.heap.size w (w1.alloc (.cells #[] 44)) := fun w1 hb => ⟨OwnNest.base (OwnNest.lit _ _ w1) hb.size, hb.alloc hb.size _⟩
  cases hok : electOk n rs with
  | false =>
    have HR : moveV n rs vo c = ([], false) := by simp [moveV, hok]
    rw [HR]
    rw [hok] at HQ
    have HQ' := Lib.hid HQ; clear HQ hok HR
    go_enter Try.func19, Try.ntmps19
    go_wp2_with (go_at_call 32; refine HQ'.out.mono ?_; rintro e w1 ⟨rfl, hb1⟩)
    go_ret2
    exact ⟨_, rfl, fin0 _ hb1⟩
  | true =>
    rw [hok] at HQ
    have HQ' := Lib.hid HQ; clear HQ
    have hL9 : rs.length ≤ 9 := by obtain ⟨_, _, _, _, _, h9, _⟩ := electOk_parts hok; exact h9
    cases hv : inB vo 0 ((rs.length : Int) - 1) with
    | false =>
      have HR : moveV n rs vo c = ([], false) := by simp [moveV, hv]
      rw [HR]
      have HV := Lib.hid hv; clear hv hok HR
      go_enter Try.func19, Try.ntmps19
      go_wp2_with (first | (go_at_call 32; refine HQ'.out.mono ?_; rintro e w1 ⟨rfl, hb1⟩) | (go_at_call 45; refine (s_l1In _ _ _ _).mono ?_; rw [HV.out]; rintro e w' ⟨rfl, rfl⟩))
      go_ret2
      exact ⟨_, rfl, fin0 _ hb1⟩
    | true =>
      have hvb := inB_iff.1 hv
      obtain ⟨k, rfl⟩ : ∃ k : Nat, vo = k := ⟨vo.toNat, by omega⟩
      have hk : k < rs.length := by omega
      have HR0 := moveV_at (c := c) hk hok hv
      have HV := Lib.hid hv
      obtain ⟨N, rfl, hN1, hN5, h9, hperm, hF⟩ := elect_facts hok
      have hpm := (hperm _ (List.getElem_mem hk)).1
      have hpf := posR_facts hpm c
      have holN : rs[k].order.length = N := (pos_facts hpm).1
      obtain ⟨b, off, u0, rfl, h4, h5, c0, c1⟩ := h.get hk
      have hk0 : (0 : Int) ≤ (k : Int) := by omega
      have hk1 : (k : Int) < (rs.length : Int) := by omega
      cases hc : inB c 0 ((N : Int) - 1) with
      | false =>
        have hp := hpf.1 hc
        rw [if_neg (by omega)] at HR0
        rw [HR0]
        have HC := Lib.hid hc
        clear hok HR0 hv hvb hperm hF hp hpf hpm holN hc
        go_enter Try.func19, Try.ntmps19
        go_wp2_with (first | (go_at_call 32; refine HQ'.out.mono ?_; rintro e w1 ⟨rfl, hb1⟩) | (go_at_call 45; refine (s_l1In _ _ _ _).mono ?_; (first | rw [HV.out] | rw [HC.out]); rintro e w' ⟨rfl, rfl⟩))
        go_ret2
        exact ⟨_, rfl, fin0 _ hb1⟩
      | true =>
        have HC := Lib.hid hc
        obtain ⟨j, hj, hpj, hoj, hon⟩ := hpf.2 hc
        obtain ⟨_, au, ku, rfl, p1, p2, p3⟩ := h5
        obtain ⟨bu, ou, rfl, p4, p5⟩ := p3 (by omega)
        have hlen0 : 0 < rs[k].order.length := by omega
        have z0 := p5.int hlen0
        simp only [Nat.add_zero] at z0
        have h00 : (0 : Int) < (rs[k].order.length : Int) := by omega
        by_cases hj0 : j = 0
        · have hp : ¬ 1 ≤ posR rs[k] c := by omega
          rw [if_neg hp] at HR0
          rw [HR0]
          have hze : (rs[k].order[0] == c) = true := by subst hj0; simp [hoj]
          have HOL := Lib.hid holN
          clear hok HR0 hv hvb hperm hF hp hpf hpm holN hc hpj hoj hon hj0 p3 p5
          generalize rs[k].order[0] = oz at *
          go_enter Try.func19, Try.ntmps19
          go_wp2_with (first | (go_at_call 32; refine HQ'.out.mono ?_; rintro e w1 ⟨rfl, hb1⟩; have d0 := (hb1.cell (p := ⟨b, off + k * 2, none⟩) h4).trans c0; have d1 := (hb1.cell (p := ⟨bu, ou, none⟩) p4).trans z0) | (go_at_call 45; refine (s_l1In _ _ _ _).mono ?_; (first | rw [HV.out] | rw [HC.out]); rintro e w' ⟨rfl, rfl⟩))
          go_ret2
          exact ⟨_, rfl, fin0 _ hb1⟩
        · have hp : 1 ≤ posR rs[k] c := by omega
          rw [if_pos hp, hpj] at HR0
          simp only [Int.toNat_natCast] at HR0
          obtain ⟨R, hR⟩ : ∃ R, R = rs.set k ⟨swapAt rs[k].order j, rs[k].weight⟩ := ⟨_, rfl⟩
          rw [HR0, ← hR]
          have HRR := Lib.hid hR
          have hze : (rs[k].order[0] == c) = false := by rw [beq_eq_false_iff_ne]; exact hon 0 (by omega) (by omega)
          have hu5 : IntsAt w (.slice (some ⟨bu, ou, none⟩) rs[k].order.length ku) rs[k].order := ⟨by simp, _, _, rfl, p1, p2, fun _ => ⟨bu, ou, rfl, p4, p5⟩⟩
          have HOL := Lib.hid holN; have HF := Lib.hid hF; have HU5 := Lib.hid hu5
          have hsx := rs[k].weight
          have HON := Lib.hid hon; have HOJ := Lib.hid hoj
          have hswap : (rs[k].order.set j (rs[k].order.getD (j - 1) 0)).set (j - 1) c = swapAt rs[k].order j := by
            unfold swapAt
            rw [List.set_comm _ _ (by omega), getD_eqy hj, hoj]
          have HSW := Lib.hid hswap
          have hrs : ∀ x, x = rs[k] → R = rs.set k ⟨swapAt x.order j, x.weight⟩ := fun x hx => by rw [hx]; exact hR
          have HRS := Lib.hid hrs
          clear hok HR0 hv hvb hperm hp hpf hpm hc hpj hswap hR hF hu5 p3 p5 hon hoj hrs holN hsx
          generalize hoz : rs[k].order[0] = oz at *
          clear hoz
          go_enter Try.func19, Try.ntmps19
          go_wp2_with (first | (go_at_call 32; refine HQ'.out.mono ?_; rintro e w1 ⟨rfl, hb1⟩; have d0 := (hb1.cell (p := ⟨b, off + k * 2, none⟩) h4).trans c0; have d1 := (hb1.cell (p := ⟨bu, ou, none⟩) p4).trans z0) | (go_at_call 45; refine (s_l1In _ _ _ _).mono ?_; (first | rw [HV.out] | rw [HC.out]); rintro e w' ⟨rfl, rfl⟩))
          have hol1 : OwnRanks (w1.alloc (.cells #[] 44)) w.heap.size (.slice (some ⟨w1.heap.size, 0, none⟩) 0 0) (rs.take 0) := OwnNest.base (OwnNest.lit _ _ w1) hb1.size
          have hbl1 : Below w.heap.size w (w1.alloc (.cells #[] 44)) := hb1.alloc hb1.size _
          go_loopw [10, 11] (fun o i wr => ∃ m : Nat, m ≤ rs.length ∧ i = .int .i64 m ∧ OwnRanks wr w.heap.size o (rs.take m) ∧ Below w.heap.size w wr) (fun _ i _ => rs.length - (intOf i).toNat)
          case atStart => exact ⟨0, by omega, rfl, hol1, hbl1⟩
          case round =>
            clear hol1 hbl1 d0 d1
            obtain ⟨m, hm, rfl, ho, hb⟩ := hrel
            by_cases hlt : m < rs.length
            · obtain ⟨b', off', u1, hbo, g4, g5, e0, e1⟩ := (h.below hb).get hlt
              simp only [Option.some.injEq, Addr.mk.injEq, and_true] at hbo
              obtain ⟨rfl, rfl⟩ := hbo
              have hor := (HF.out _ (List.getElem_mem hlt)).1
              have htk := take_at hlt
              have htl : (rs.take m).length ≤ 9 := by simp; omega
              have hm0 : (0 : Int) ≤ (m : Int) := by omega
              have hm1 : (m : Int) < (rs.length : Int) := by omega
              have HTK := Lib.hid htk; have HTL := Lib.hid htl
              clear htk htl
              obtain ⟨r, hr⟩ : ∃ r, r = rs[m] := ⟨_, rfl⟩
              rw [← hr] at hor e1 g5 HTK
              clear hr
              obtain ⟨a1, k1, rfl⟩ := g5.form
              have HO := Lib.hid ho; have HG2 := Lib.hid g5
              clear ho g5
              go_wp2_with fail
              go_region_held3 (fun w' => w'.cell? ⟨b, off + m * 2, none⟩ = some (.slice a1 r.order.length k1) ∧ w'.cell? ⟨b, off + m * 2 + 1, none⟩ = some (.int .i64 r.weight)) (first | exact ⟨e0, e1⟩ | exact hs4 | exact hs3 | exact ⟨(World.cell?_alloc_lt w3 _ ⟨b, off + m * 2, none⟩ hlt3).trans hs3.1, (World.cell?_alloc_lt w3 _ ⟨b, off + m * 2 + 1, none⟩ hlt3).trans hs3.2⟩) (first
                | (go_at_call 46; refine (s_l1Own _ r.order _ (HG2.out.below (Below.drew (Below.refl _ _))) (by omega)).mono ?_; rintro e w3 ⟨p, rfl, ho3, hb3⟩; have hs3 : w3.cell? ⟨b, off + m * 2, none⟩ = some (.slice a1 r.order.length k1) ∧ w3.cell? ⟨b, off + m * 2 + 1, none⟩ = some (.int .i64 r.weight) := ⟨(hb3.cell (p := ⟨b, off + m * 2, none⟩) g4).trans e0, (hb3.cell (p := ⟨b, off + m * 2 + 1, none⟩) g4).trans e1⟩; have hlt3 : b < w3.heap.size := Nat.lt_of_lt_of_le g4 hb3.size; obtain ⟨a3, k3, rfl⟩ := ho3.at_.form)
                | ((refine step_push_nest (f := rcell) (ord := DRanking.order) (size := 2) (by rfl) (.tmp 52) (.tmp 65) _ (by rfl) (fun _ _ => rfl) w.heap.size 44 3 _ _ 32 rank_info Try.underlying24 (by rfl) (by omega) (by omega) _ (rs.take m) (.slice a3 r.order.length k3) r #[.slice a3 r.order.length k3, .int .i64 r.weight] (by rfl) wr HO.out (undrew hb3) ho3 rfl (by simp [rcell, Value.oneCell']) (by rfl) hb.size (by have := HTL.out; omega) ?_); (intro v4 w4 ho4 hb4 hg4); (have hbn := (below_step hb (undrew hb3)).trans hb4); (have hs4 : w4.cell? ⟨b, off + m * 2, none⟩ = some (.slice a1 r.order.length k1) ∧ w4.cell? ⟨b, off + m * 2 + 1, none⟩ = some (.int .i64 r.weight) := ⟨(hbn.cell (p := ⟨b, off + m * 2, none⟩) h4).trans ((hb.cell (p := ⟨b, off + m * 2, none⟩) h4).symm.trans e0), (hbn.cell (p := ⟨b, off + m * 2 + 1, none⟩) h4).trans ((hb.cell (p := ⟨b, off + m * 2 + 1, none⟩) h4).symm.trans e1)⟩)))
              have HO4 := Lib.hid ho4
              clear ho4 hs3 hs4 hg4 hb4 hb3 ho3
              go_wp2_with fail
              go_roundw
              case rel => exact ⟨m + 1, by omega, by go_num, by rw [HTK.out]; exact HO4.out, hbn⟩
              case measure => simp [intOf]; omega
            · obtain rfl : m = rs.length := by omega
              rw [List.take_length] at ho
              have d0 := (hb.cell (p := ⟨b, off + k * 2, none⟩) h4).trans c0
              have d2 := (hb.cell (p := ⟨b, off + k * 2 + 1, none⟩) h4).trans c1
              obtain ⟨r, hr⟩ : ∃ r, r = rs[k] := ⟨_, rfl⟩
              have hRr := HRS.out r hr
              have HRr := Lib.hid hRr; clear hRr
              have hol : r.order.length ≤ 5 := by rw [hr]; exact (HF.out _ (List.getElem_mem hk)).1
              rw [← hr] at d2 hj d0
              have HSW2 : Hid ((r.order.set j (r.order.getD (j - 1) 0)).set (j - 1) c = swapAt r.order j) := by rw [hr]; exact HSW.out
              have HU6 : Hid (IntsAt wr (.slice (some ⟨bu, ou, none⟩) r.order.length ku) r.order) := by rw [hr]; exact HU5.out.below hb
              have hx1 : ∀ i (hi : i < r.order.length), i ≠ j → (r.order[i] != c) = true := fun i hi hne => by
                have := HON.out i (by rw [← hr]; exact hi) hne
                subst hr
                simpa using this
              have hx2 : (r.order[j] != c) = false := by
                have := HOJ.out
                subst hr
                simpa using this
              have HX1 := Lib.hid hx1
              have HX2 := Lib.hid hx2
              clear hx1 hx2 hr z0 p2 p1 h00
              obtain ⟨g, cap2, rfl, hgB, hgl, hgf, hgc⟩ := OwnNest.form2 ho (by omega)
              obtain ⟨y0, hy0⟩ := hgc (k * 2) (by omega)
              obtain ⟨y1, hy1⟩ := hgc (k * 2 + 1) (by omega)
              have HO := Lib.hid ho; clear ho
              go_wp2_with (go_at_call 46; refine (s_l1Own _ r.order _ HU6.out (by omega)).mono ?_; rintro e w5 ⟨p, rfl, ho5, hb5⟩; obtain ⟨gu, cu, rfl, hgu0, hgu1⟩ := World.ownsRow.form ho5 (by omega))
              have hbk0 : w.heap.size ≤ wr.heap.size := hb.size
              have d5 := (hb5.cell (p := ⟨b, off + k * 2 + 1, none⟩) (show b < wr.heap.size by omega)).trans d2
              have f5 : ∀ i, w5.frozen? ⟨gu, i, none⟩ = false := World.ownsRow.frozenAt ho5
              have z5 := (hb5.cell (p := ⟨g, k * 2, none⟩) hgl).trans hy0
              have z6 := (hb5.cell (p := ⟨g, k * 2 + 1, none⟩) hgl).trans hy1
              have f6 : ∀ i, w5.frozen? ⟨g, i, none⟩ = false := fun i => (hb5.frozen (p := ⟨g, i, none⟩) hgl).trans (hgf i)
              have hju : j - 1 < r.order.length := by omega
              have hjw : IntKind.i64.wrap ((j : Int) - 1) = ((j - 1 : Nat) : Int) := by rw [IntWalk.i64_in _ (by omega)]; omega
              have x0 : w5.cell? ⟨gu, j, none⟩ = some (.int .i64 (r.order.getD j 0)) := by rw [World.ownsRow.cellAt ho5 j (by omega), ints_gety hj]
              have x1 : w5.cell? ⟨gu, j - 1, none⟩ = some (.int .i64 (r.order.getD (j - 1) 0)) := by rw [World.ownsRow.cellAt ho5 (j - 1) (by omega), ints_gety hju]
              have hgne : gu ≠ g := by omega
              have hbne : b ≠ gu := by omega
              have hs1 := World.ownsRow.stored ho5 j (.int .i64 (r.order.getD (j - 1) 0))
              have hs2 := hs1.1.stored (j - 1) (.int .i64 c)
              rw [ints_sety, ints_sety, HSW2.out] at hs2
              have hgr := hs1.2.trans hs2.2
              have hb6 : Below wr.heap.size wr ((w5.setCell ⟨gu, j, none⟩ (.int .i64 (r.order.getD (j - 1) 0))).setCell ⟨gu, j - 1, none⟩ (.int .i64 c)) := hb5.grown hgr hb5.size (by intro b hb; cases hb; exact hgu0)
              have hput := OwnNest.put (f := rcell) (ord := DRanking.order) (size := 2) (fun _ _ => rfl) HO.out hb6 hk (u := .slice (some ⟨gu, 0, none⟩) r.order.length cu) (x := ⟨swapAt r.order j, r.weight⟩) (by unfold OwnI; simpa using hs2.1) hb.size
              rw [← HRr.out] at hput
              have hbF := hb6.grown hput.2 hb6.size
              have hbW : Below w.heap.size w _ := (hb.trans (hb6.mono hb.size)).grown hput.2 (Nat.le_trans hb.size hb6.size) (by intro b hb; cases hb; exact hgB)
              have hfin := hput.1
              simp only [World.setCells, rcell] at hfin hbW
              have HFN := Lib.hid hfin; have HBW := Lib.hid hbW
              have HO5 := Lib.hid ho5; have HB6 := Lib.hid hb6
              clear hput hs1 hs2 hgr hb6 hbF hfin hbW ho5 hgc hgf
              go_loop [13] (fun i => ∃ q : Nat, q ≤ j ∧ i = .int .i64 q) (fun i => j - (intOf i).toNat)
              case atStart => exact ⟨0, by omega, rfl⟩
              case round =>
                obtain ⟨q, hq, rfl⟩ := hrel
                have hql : q < r.order.length := by omega
                have xq : w5.cell? ⟨gu, q, none⟩ = some (.int .i64 r.order[q]) := by rw [World.ownsRow.cellAt HO5.out q (by omega), ints_gety hql, getD_eqy hql]
                by_cases hqj : q = j
                · subst hqj
                  have hx := HX2.out
                  clear xq
                  rw [← getD_eqy hj] at hx
                  generalize r.order.getD q 0 = v0 at *
                  generalize r.order.getD (q - 1) 0 = v1 at *
                  go_wp2_with fail
                  go_ret2
                  exact ⟨_, rfl, HFN.out, HBW.out⟩
                · have hx := HX1.out q hql hqj
                  have hq1 : q < j := by omega
                  clear x0 x1
                  generalize r.order[q] = vq at *
                  go_wp2_with fail
                  go_round
                  case rel => exact ⟨q + 1, by omega, by go_num⟩
                  case measure => simp [intOf]; omega

end Go.Proofs.Ytfonpkegaeebaaa
