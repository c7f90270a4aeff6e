/- Contracts: seats by remainders, the reference's. No conditions beyond sizes. -/
import Derived.Test.YtokjamdikenkoaaRemL
import Derived.Test.YtokjamdikenkoaaTwo
import Derived.Test.YtokjamdikenkoaaShare
import Derived.Test.YtokjamdikenkoaaQuot
import Derived.Test.YtokjamdikenkoaaDelete
namespace Go.Proofs.Ytokjamdikenkoaa
open Go.RowKit
set_option linter.unusedVariables false
set_option linter.unusedSimpArgs false

/-- What the numbers are. -/
structure RemOk (vs : List Int) (s : Int) : Prop where
  n1 : 1 ≤ vs.length
  n8 : vs.length ≤ 8
  v : ∀ x ∈ vs, 0 ≤ x ∧ x ≤ 10000
  a : 0 < vs.sum
  a2 : vs.sum ≤ 80000
  s0 : 0 ≤ s
  s1 : s ≤ 50
theorem remOk_of {vs : List Int} {s : Int} (h : seatsOk vs s = true) : RemOk vs s := by
  obtain ⟨h1, h2, h3⟩ := seatsOk_parts h
  obtain ⟨⟨h4, h5⟩, h6, h7, h8⟩ := votesOk_parts h1
  exact ⟨by omega, by omega, h6, h7, h8, h2, h3⟩
theorem RemOk.prod {vs : List Int} {s : Int} (h : RemOk vs s) {x : Int} (hx : x ∈ vs) : 0 ≤ x * s ∧ x * s ≤ 500000 := by
  have := mul_bd (h.v x hx).1 (h.v x hx).2 h.s0 h.s1; omega
theorem RemOk.fl {vs : List Int} {s : Int} (h : RemOk vs s) : ∀ x ∈ floorL vs s, 0 ≤ x ∧ x ≤ 500000 := by
  intro x hx
  obtain ⟨v, hv, rfl⟩ := List.mem_map.1 hx
  have hp := h.prod hv
  exact div_bd hp.1 hp.2 h.a
theorem RemOk.rs {vs : List Int} {s : Int} (h : RemOk vs s) : ∀ x ∈ restL vs s, 0 ≤ x ∧ x < 80000 := by
  intro x hx
  obtain ⟨v, hv, rfl⟩ := List.mem_map.1 hx
  have := Int.emod_nonneg (v * s) (by have := h.a; omega : vs.sum ≠ 0)
  have := Int.emod_lt_of_pos (v * s) h.a
  have := h.a2
  omega
theorem floor_push {vs : List Int} {s : Int} {k : Nat} (h : k < vs.length) : (floorL vs s).take (k + 1) = (floorL vs s).take k ++ [vs[k] * s / vs.sum] := by
  rw [take_at (by simpa [floorL] using h)]; simp [floorL]
theorem rest_push {vs : List Int} {s : Int} {k : Nat} (h : k < vs.length) : (restL vs s).take (k + 1) = (restL vs s).take k ++ [vs[k] * s % vs.sum] := by
  rw [take_at (by simpa [restL] using h)]; simp [restL]
theorem picks_bd {out rests : List Int} (h : ∀ x ∈ out, 0 ≤ x ∧ x ≤ 500000) (t : Nat) : ∀ x ∈ (picks out rests t).1, 0 ≤ x ∧ x ≤ 500000 + t := by
  induction t with
  | zero => intro x hx; have := h x hx; simp; omega
  | succ t ih =>
    intro x hx
    rcases List.mem_or_eq_of_mem_set hx with h1 | h1
    · have := ih x h1; omega
    · by_cases hm : firstMax (picks out rests t).2 (picks out rests t).2.length < (picks out rests t).1.length
      · have := ih _ (mem_getD hm); omega
      · have : (picks out rests t).1.getD (firstMax (picks out rests t).2 (picks out rests t).2.length) 0 = 0 := by rw [List.getD_eq_getElem?_getD, List.getElem?_eq_none (by omega)]; rfl
        omega
theorem floorL_len (vs : List Int) (s : Int) : (floorL vs s).length = vs.length := by simp [floorL]
theorem restL_len (vs : List Int) (s : Int) : (restL vs s).length = vs.length := by simp [restL]

set_option maxRecDepth 100000 in
set_option maxHeartbeats 4000000 in
theorem s_l14Remainders (v : Value) (vs : List Int) (s : Int) (w : World) (h : IntsAt w v vs) (hR : RemOk vs s) :
    Calls Try.prog 38 #[v, .int .i64 s] w fun e w' => ∃ p, e = .returned p ∧ OwnInts w' w.heap.size p (remS vs s) ∧ Below w.heap.size w w' := by
  have hI := h
  obtain ⟨_, ao, cap, rfl, h1, h2, h3⟩ := h
  have hn1 := hR.n1; have hn8 := hR.n8; have ha0 := hR.a; have ha2 := hR.a2; have hs0 := hR.s0; have hs1 := hR.s1
  obtain ⟨b, off, rfl, h4, h5⟩ := h3 (by omega)
  unfold maxLen at h2
  obtain ⟨W, hW⟩ : ∃ W, W = (w.alloc (.cells #[] 3)).alloc (.cells #[] 3) := ⟨_, rfl⟩
  have hlit1 : OwnInts W w.heap.size (.slice (some ⟨w.heap.size, 0, none⟩) 0 0) [] := by rw [hW]; exact OwnI.below (own_lit0 w 3) ((Below.refl _ _).alloc (Nat.le_refl _) _)
  have hlit2 : OwnInts W w.heap.size (.slice (some ⟨w.heap.size + 1, 0, none⟩) 0 0) [] := by
    rw [hW]
    have h := own_base (base' := w.heap.size) (own_lit0 (w.alloc (.cells #[] 3)) 3) (by simp)
    rw [World.size_alloc] at h
    exact h
  have hT0 : Two W w.heap.size (.slice (some ⟨w.heap.size, 0, none⟩) 0 0) ((floorL vs s).take 0) (.slice (some ⟨w.heap.size + 1, 0, none⟩) 0 0) ((restL vs s).take 0) := ⟨by simpa using hlit1, by simpa using hlit2, .inr (by simp [Value.ownBlock])⟩
  have hWb : Below w.heap.size w W := by rw [hW]; go_grown
  have hIW := hI.below hWb
  have HW := Lib.hid hW
  have HR := Lib.hid hR
  have HV : Hid (∀ x ∈ vs, 0 ≤ x ∧ x ≤ 1000000) := fun x hx => by have := hR.v x hx; omega
  clear hW hlit1 hlit2 h3
  obtain ⟨A, hA⟩ : ∃ A, A = vs.sum := ⟨_, rfl⟩
  have HA := Lib.hid hA
  rw [← hA] at ha0 ha2
  clear hA hR
  go_enter Try.func38, Try.ntmps38
  go_wp2_with fail
  rw [← HW.out]
  refine (s_l14Sum _ vs _ hIW HV.out (by omega)).mono ?_
  rw [← HA.out]
  rintro e w' ⟨rfl, rfl⟩
  go_wp2_with fail
  go_loopw [5, 6, 8] (fun u q i wr => ∃ k : Nat, k ≤ vs.length ∧ i = .int .i64 k ∧ Two wr w.heap.size u ((floorL vs s).take k) q ((restL vs s).take k) ∧ Below w.heap.size w wr) (fun _ _ i _ => vs.length - (intOf i).toNat)
  case atStart => exact ⟨0, by omega, rfl, hT0, hWb⟩
  case round =>
    rename World => wa
    clear hT0
    obtain ⟨k, hk, rfl, hT, hb⟩ := hrel
    by_cases hlt : k < vs.length
    · have hc : wa.cell? ⟨b, off + k, none⟩ = some (.int .i64 vs[k]) := by rw [hb.cell (p := ⟨b, off + k, none⟩) h4, h5.int hlt]
      have hp := HR.out.prod (List.getElem_mem hlt)
      have HF := Lib.hid (floor_push (s := s) hlt)
      have HG := Lib.hid (rest_push (s := s) hlt)
      rw [← HA.out] at HF HG
      have hx := HR.out.v _ (List.getElem_mem hlt)
      have hfl : ((floorL vs s).take k).length ≤ 8 := by simp; omega
      have hrl : ((restL vs s).take k).length ≤ 8 := by simp; omega
      generalize vs[k] = x at *
      go_wp2_with (first
        | (at_builtin; refine wpList_push_int2 rfl (.tmp 22) (.tmp 31) _ rfl _ 3 _ int_info Try.underlying22 _ _ (x * s / A) rfl hT.1 rfl hb.size (by omega) ?_; intro u' w5 ho5 hg5 hv5; have hT5 := (hT.swap.push ho5 hg5 hv5).swap; have hb5 : Below w.heap.size w w5 := hb.grown hg5 hb.size (fun g hg => (hT.1.lt g hg).1); have hc5 : w5.cell? ⟨b, off + k, none⟩ = some (.int .i64 x) := (hg5.block b (by have := hb.size; omega) (fun e => by have := (hT.1.lt b e.symm).1; omega) |> fun e => World.cell?_of_block (w := wa) (a := ⟨b, off + k, none⟩) e).trans hc)
        | (at_builtin; refine wpList_push_int2 rfl (.tmp 33) (.tmp 42) _ rfl _ 3 _ int_info Try.underlying22 _ _ (x * s % A) rfl hT5.2.1 rfl hb5.size (by omega) ?_; intro q' w6 ho6 hg6 hv6; have hT6 := hT5.push ho6 hg6 hv6; have hb6 : Below w.heap.size w w6 := hb5.grown hg6 hb5.size (fun g hg => (hT5.2.1.lt g hg).1)))
      go_roundw
      case rel => exact ⟨k + 1, by omega, by go_num, by rw [HF.out, HG.out]; exact hT6, hb6⟩
      case measure => simp [intOf]; omega
    · obtain rfl : k = vs.length := by omega
      rw [List.take_of_length_le (by rw [floorL_len]; omega), List.take_of_length_le (by rw [restL_len]; omega)] at hT
      obtain ⟨gu, cu, hvu, hgu1, hgu2, hcu⟩ := hT.swap.form (by rw [floorL_len]; omega)
      obtain ⟨gq, cq, hvq, hgq1, hgq2, hcq⟩ := hT.form (by rw [restL_len]; omega)
      rw [floorL_len] at hvu hcu
      rw [restL_len] at hvq hcq
      subst hvu hvq
      have hfs : Hid (∀ x ∈ floorL vs s, 0 ≤ x ∧ x ≤ 1000000) := fun x hx => by have := HR.out.fl x hx; omega
      have hL := leftS_bd (vs := vs) (s := s) HR.out.a
      obtain ⟨L, hLe⟩ : ∃ L : Nat, leftS vs s = L := ⟨(leftS vs s).toNat, by omega⟩
      have hsum : s - (floorL vs s).sum = (L : Int) := hLe
      have hL8 : L < vs.length := by omega
      have hFs := sum_bound 500000 (floorL vs s) HR.out.fl
      rw [floorL_len] at hFs
      obtain ⟨F, hF⟩ : ∃ F, F = (floorL vs s).sum := ⟨_, rfl⟩
      rw [← hF] at hsum hFs
      have HFs := Lib.hid hF
      have HLe := Lib.hid hLe
      clear hF hL hLe
      have hTI := hT.1.at_
      go_wp2_with (go_at_call 54; refine (s_l14Sum _ (floorL vs s) _ hTI hfs.out (by rw [floorL_len]; omega)).mono ?_; rw [← HFs.out]; rintro e w' ⟨rfl, rfl⟩)
      have hst : Hid (Two wa w.heap.size (.slice (some ⟨gu, 0, none⟩) vs.length cu) (picks (floorL vs s) (restL vs s) 0).1 (.slice (some ⟨gq, 0, none⟩) vs.length cq) (picks (floorL vs s) (restL vs s) 0).2) := hT
      go_loopw [9] (fun i wr => ∃ t : Nat, t ≤ L ∧ i = .int .i64 ((L - t : Nat) : Int) ∧ Two wr w.heap.size (.slice (some ⟨gu, 0, none⟩) vs.length cu) (picks (floorL vs s) (restL vs s) t).1 (.slice (some ⟨gq, 0, none⟩) vs.length cq) (picks (floorL vs s) (restL vs s) t).2 ∧ Below w.heap.size w wr) (fun i _ => (intOf i).toNat)
      case atStart => exact ⟨0, by omega, by first | rfl | (congr 1; omega), hst.out, hb⟩
      case round =>
        rename World => wb
        clear hT hst hb
        obtain ⟨t, ht, rfl, hT, hb⟩ := hrel
        obtain ⟨d, hd⟩ : ∃ d, d = L - t := ⟨_, rfl⟩
        rw [← hd]
        by_cases hlt : t < L
        · obtain ⟨o, ho⟩ : ∃ o, o = (picks (floorL vs s) (restL vs s) t).1 := ⟨_, rfl⟩
          obtain ⟨q, hq⟩ : ∃ q, q = (picks (floorL vs s) (restL vs s) t).2 := ⟨_, rfl⟩
          have hol : o.length = vs.length := by rw [ho, (picks_len _ _ _).1, floorL_len]
          have hql : q.length = vs.length := by rw [hq, (picks_len _ _ _).2, restL_len]
          have hob : ∀ x ∈ o, 0 ≤ x ∧ x ≤ 500000 + t := by rw [ho]; exact picks_bd HR.out.fl t
          have hnx : Hid ((picks (floorL vs s) (restL vs s) (t + 1)) = (o.set (firstMax q vs.length) (o.getD (firstMax q vs.length) 0 + 1), q.set (firstMax q vs.length) (-1))) := by rw [Hid, ← hql, ho, hq]; rfl
          rw [← ho, ← hq] at hT
          have HOL := Lib.hid hol; have HQL := Lib.hid hql; have HOB := Lib.hid hob; have HD := Lib.hid hd
          have hd0 : (0 : Int) < (d : Int) := by omega
          have hd8 : d ≤ 8 := by omega
          have hdn : decide (0 < d) = true := decide_eq_true (by omega)
          clear ho hq hol hql hob hd
          go_wp2_with fail
          go_loopw [10, 11] (fun m i wr => ∃ k : Nat, 1 ≤ k ∧ k ≤ vs.length ∧ i = .int .i64 k ∧ m = .int .i64 (firstMax q k : Nat) ∧ Below wb.heap.size wb wr) (fun _ i _ => vs.length - (intOf i).toNat)
          case atStart => exact ⟨1, by omega, hn1, rfl, by rw [firstMax_one]; rfl, Below.refl _ _⟩
          case round =>
            rename World => wc
            obtain ⟨k, hk1, hk, rfl, rfl, hbc⟩ := hrel
            have hTc := hT.below hbc
            have hbw := below_step hb hbc
            have hfl := firstMax_lt q k (by omega)
            by_cases hkt : k < vs.length
            · have c0 := hTc.cell (i := k) (by rw [HQL.out]; omega)
              have c1 := hTc.cell (i := firstMax q k) (by rw [HQL.out]; omega)
              have hk0 : (0 : Int) ≤ (k : Int) := by omega
              have hkn : (k : Int) < (vs.length : Int) := by omega
              have hf0 : (0 : Int) ≤ (firstMax q k : Int) := by omega
              have hfn : (firstMax q k : Int) < (vs.length : Int) := by omega
              by_cases hm : q.getD (firstMax q k) 0 < q.getD k 0
              · have HM : Hid (firstMax q (k + 1) = k) := firstMax_on hm
                generalize q.getD (firstMax q k) 0 = x at *
                generalize q.getD k 0 = y at *
                go_wp2_with fail
                go_quiet (fail)
                go_wp2_with fail
                go_roundw
                case rel => exact ⟨k + 1, by omega, by omega, by go_num, by rw [HM.out], Below.drewN' hbc _⟩
                case measure => simp [intOf]; omega
              · have HM : Hid (firstMax q (k + 1) = firstMax q k) := firstMax_off hm
                have hmd : decide (q.getD (firstMax q k) 0 < q.getD k 0) = false := decide_eq_false hm
                generalize q.getD (firstMax q k) 0 = x at *
                generalize q.getD k 0 = y at *
                go_wp2_with fail
                go_quiet (fail)
                go_wp2_with fail
                go_roundw
                case rel => exact ⟨k + 1, by omega, by omega, by go_num, by rw [HM.out], Below.drewN' hbc _⟩
                case measure => simp [intOf]; omega
            · obtain rfl : k = vs.length := by omega
              obtain ⟨f, hf⟩ : ∃ f, f = firstMax q vs.length := ⟨_, rfl⟩
              rw [← hf] at hfl ⊢
              rw [← hf] at hnx
              have HF := Lib.hid hf
              clear hf
              have c0 := hTc.swap.cell (i := f) (by rw [HOL.out]; omega)
              have c1 := hTc.cell (i := f) (by rw [HQL.out]; omega)
              have f0 := hTc.swap.free f
              have f1 := hTc.free f
              have hof := HOB.out _ (mem_getD (xs := o) (k := f) (by rw [HOL.out]; omega))
              have hT1 := (hTc.swap.set f (o.getD f 0 + 1)).swap
              have hT2 := hT1.set f (-1)
              have c1' : (wc.setCell ⟨gu, f, none⟩ (.int .i64 (o.getD f 0 + 1))).cell? ⟨gq, f, none⟩ = some (.int .i64 (q.getD f 0)) := hT1.cell (i := f) (by rw [HQL.out]; omega)
              have hbz : Below w.heap.size w ((wc.setCell ⟨gu, f, none⟩ (.int .i64 (o.getD f 0 + 1))).setCell ⟨gq, f, none⟩ (.int .i64 (-1))) := (hbw.setCell (p := ⟨gu, f, none⟩) hgu1 _).setCell (p := ⟨gq, f, none⟩) hgq1 _
              have hf0 : (0 : Int) ≤ (f : Int) := by omega
              have hfn : (f : Int) < (vs.length : Int) := by omega
              have HT2 := Lib.hid hT2; have HBZ := Lib.hid hbz
              clear hT hT1 hT2 hTc hb hbz
              generalize o.getD f 0 = x at *
              generalize q.getD f 0 = y at *
              go_wp2_with fail
              go_roundw
              case rel => exact ⟨t + 1, by omega, by have := HD.out; congr 1; omega, by rw [hnx.out]; exact HT2.out, HBZ.out⟩
              case measure => simp [intOf]; have := HD.out; omega
        · obtain rfl : t = L := by omega
          have hd0 : d = 0 := by omega
          subst hd0
          clear hd
          have hpk : Hid ((picks (floorL vs s) (restL vs s) t).1 = remS vs s) := by
            have := remS_picks (vs := vs) (s := s) HR.out.a
            rw [HLe.out, Int.toNat_natCast] at this
            exact this
          rw [hpk.out] at hT
          have hown : OwnInts wb w.heap.size (.slice (some ⟨gu, 0, none⟩) vs.length cu) (remS vs s) := hT.1
          go_wp2_with fail
          go_ret
          exact ⟨_, rfl, hown, hb⟩

end Go.Proofs.Ytokjamdikenkoaa
