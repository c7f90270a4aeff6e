/- Contract: impl.AppointMember. No conditions beyond sizes. -/
import Derived.Test.YtpjmcjdnobihbaaCommE
import Derived.Test.YtpjmcjdnobihbaaNestU
import Derived.Test.YtpjmcjdnobihbaaCommP
import Derived.Test.YtpjmcjdnobihbaaPush
import Derived.Test.YtpjmcjdnobihbaaCommI
namespace Go.Proofs.Ytpjmcjdnobihbaa
open Go.RowKit
set_option linter.unusedVariables false
set_option linter.unusedSimpArgs false

/-- One int appended: what memory was written. -/
theorem wpList_push_intB {P : Program} {w : World} {ops : Array Oper} {rest : List Oper} {o : Oper} {a : Act} {Q : Exit → Act → World → Prop} (hgd : o.guard = none) (s x : Operand) (t : TypeId)
    (ho : o.op = .call { callee := .builtin .append, args := #[s, x], argTypes := #[t, t] })
    (B : Nat) (e e' : TypeId) (hinfo : (P.info? e).map (fun i => (i.zero, i.size, i.bytes)) = some (some (.int .i64 0), 1, 8)) (ht : P.underlying t = some (.slice e))
    (v : Value) (xs : List Int) (y : Int) (hs : a.eval s = v) (hown : OwnI e w B v xs) (hx : a.eval x = .slice (some ⟨w.heap.size, 0, none⟩) 1 1) (hB : B ≤ w.heap.size) (hn : xs.length ≤ 4000000)
    (h : ∀ v' w', OwnI e w' B v' (xs ++ [y]) → w.grownBy w' v.ownBlock → (v'.ownBlock = v.ownBlock ∨ ∃ b, v'.ownBlock = some b ∧ w.heap.size ≤ b) → wpList P ops Q rest (a.put o.dst v') w') :
    wpList P ops Q (o :: rest) a (w.alloc (.cells #[.int .i64 y] e')) := by
  obtain ⟨i0, hi, hz0, hz1, hz2⟩ := info_parts hinfo
  have hal : Below w.heap.size w (w.alloc (.cells #[.int .i64 y] e')) := (Below.refl _ _).alloc (Nat.le_refl _) _
  refine wpList_append_row _ hgd s x t ho B e i0 (.int .i64 0) 1 8 ht hi hz0 hz1 hz2 rfl (by decide) v _ _ hs (own_below hown hal) _ 1 [.int .i64 y] hx (row_one w (.int .i64 y) e') (ints_one [y]) (by unfold maxLen; omega) (by omega) (by simp; omega) ?_
  intro v' w' h1 h2 h3
  refine h v' w' (by unfold OwnI; simpa [ints] using h1) ?_ ?_
  · refine ⟨h2.os, h2.tape, h2.output, by have := h2.size; simp at this; omega, fun k hk hne => ?_⟩
    rw [h2.block k (by simp; omega) hne]
    exact hal.block k hk
  · rcases h3 with h3 | h3
    · exact .inl h3
    · exact .inr ⟨_, h3, by simp⟩

theorem i_asCommittees (v : Value) (xs : List DCommittee) (B : Nat) (w : World) (h : OwnComms w B v xs) (hn : CommsLe xs) :
    Calls Try.prog 49 #[v] w fun e w' => ∃ u, e = .returned (.tuple #[u, .bool (checkV xs).2]) ∧ OwnComms w' B u (checkV xs).1 ∧ Below w.heap.size w w' := by
  have HQ := i_AreCommittees v xs w h.at_ hn
  obtain ⟨ao, cap, rfl⟩ := h.at_.form
  cases hok : commsOk xs with
  | false =>
    have HR : Hid (checkV xs = ([], false)) := by rw [Hid, checkV, if_neg (by rw [hok]; simp)]
    rw [HR.out]
    rw [hok] at HQ
    have HQ' := Lib.hid HQ; clear HQ hok HR
    go_enter Try.func49, Try.ntmps49
    go_wp2_with fail
    refine HQ'.out.mono ?_
    rintro e w1 ⟨rfl, hb1⟩
    go_wp2_with fail
    go_ret2
    exact ⟨_, rfl, OwnNest.nil _ _ _ _, hb1⟩
  | true =>
    have HR : Hid (checkV xs = (xs, true)) := by rw [Hid, checkV, if_pos hok]
    rw [HR.out]
    rw [hok] at HQ
    have HQ' := Lib.hid HQ; clear HQ hok HR
    go_enter Try.func49, Try.ntmps49
    go_wp2_with fail
    refine HQ'.out.mono ?_
    rintro e w1 ⟨rfl, hb1⟩
    go_wp2_with fail
    go_ret2
    exact ⟨_, rfl, OwnNest.below h hb1, hb1⟩

set_option maxRecDepth 100000 in
set_option maxHeartbeats 2000000 in
theorem i_AppointMember (v : Value) (xs : List DCommittee) (n : ByteArray) (p : Int) (w : World) (h : CommsAt w v xs) (hn : CommsLe xs) :
    Calls Try.prog 19 #[v, .string n, .int .i64 p] w fun e w' => ∃ u, e = .returned (.tuple #[u, .bool (appV xs n p).2]) ∧ OwnComms w' w.heap.size u (appV xs n p).1 ∧ Below w.heap.size w w' := by
  have hF := i_committeeIndex v n xs w h
  obtain ⟨ao, cap, rfl⟩ := h.form
  have hno : appOk xs n p = false → Hid (appV xs n p = ([], false)) := fun hm => appV_no hm
  have HN := Lib.hid hn
  cases hok : commsOk xs with
  | false =>
    have HR := hno (by rw [appOk, hok, Bool.false_and])
    rw [HR.out]
    have HF := Lib.hid hF
    have HG := Lib.hid (fun w' (hb : Below w.heap.size w w') => hok ▸ i_AreCommittees _ xs w' (h.below hb) hn)
    clear hF hok HR hno
    generalize idxBy (isN n) xs = iv at *
    go_enter Try.func19, Try.ntmps19
    go_wp2_with fail
    refine HF.out.mono ?_
    rintro e w1 ⟨rfl, hb1⟩
    go_wp2_with fail
    refine (HG.out _ hb1).mono ?_
    rintro e w2 ⟨rfl, hb2⟩
    have hb := below_step hb1 hb2
    go_wp2_with fail
    go_ret2
    exact ⟨_, rfl, OwnNest.nil _ _ _ _, hb⟩
  | true =>
    have HG := Lib.hid (fun w' (hb : Below w.heap.size w w') => hok ▸ i_AreCommittees _ xs w' (h.below hb) hn)
    rcases idxBy_hit (isN n) xs with hi | ⟨i, hi, hi4, hi5⟩
    · have HR := hno (by unfold appOk; rw [hi]; simp)
      rw [HR.out]
      rw [hi] at hF
      have HF := Lib.hid hF; clear hF hno HR hi hok
      go_enter Try.func19, Try.ntmps19
      go_wp2_with fail
      refine HF.out.mono ?_
      rintro e w1 ⟨rfl, hb1⟩
      go_wp2_with fail
      refine (HG.out _ hb1).mono ?_
      rintro e w2 ⟨rfl, hb2⟩
      have hb := below_step hb1 hb2
      go_wp2_with fail
      go_ret2
      exact ⟨_, rfl, OwnNest.nil _ _ _ _, hb⟩
    · have HP : Hid (appV xs n p = checkV (xs.set i ⟨xs[i].name, sortL (xs[i].members ++ [p]), xs[i].head⟩)) := appV_prog hok hi hi4
      rw [HP.out]
      rw [hi4] at hF
      have HF := Lib.hid hF; clear hF hi5 hno HP
      have hm12 := comms_m12 hok _ (List.getElem_mem hi)
      have hi0 : (0 : Int) ≤ (i : Int) := by omega
      have hi1 : (i : Int) < (xs.length : Int) := by omega
      have hn0 : ¬ (i : Int) < 0 := by omega
      have HLE : Hid (CommsLe (xs.set i ⟨xs[i].name, sortL (xs[i].members ++ [p]), xs[i].head⟩)) := by
        refine ⟨by rw [List.length_set]; exact hn.1, fun r hr => ?_⟩
        rcases List.mem_or_eq_of_mem_set hr with hr | rfl
        · exact hn.2 r hr
        · exact ⟨by rw [sortL_len, List.length_append, List.length_singleton]; omega, (hn.2 _ (List.getElem_mem hi)).2⟩
      obtain ⟨x, hx⟩ : ∃ x, x = xs[i] := ⟨_, rfl⟩
      rw [← hx] at hm12 HLE ⊢
      have HXE := Lib.hid hx
      clear hok hi4 hx
      go_enter Try.func19, Try.ntmps19
      go_wp2_with fail
      refine HF.out.mono ?_
      rintro e w1 ⟨rfl, hb1⟩
      go_wp2_with fail
      refine (HG.out _ hb1).mono ?_
      rintro e w2 ⟨rfl, hb2⟩
      have hb := below_step hb1 hb2
      go_wp2_with fail
      refine (i_newCommittees _ xs _ (h.below hb) HN.out).mono ?_
      rintro e w3 ⟨out, rfl, ho, hb3⟩
      have hbb := below_step hb hb3
      have hs2 := hb.size
      have hs3 := hb3.size
      obtain ⟨g, k3, rfl, hgB, hg3, hf3, _⟩ := OwnNest.form2 ho (by omega)
      obtain ⟨u3, hu3, hcl, hug, hnext⟩ := OwnNest.inner3 (f := ccell) (fun _ _ => rfl) ho hi hg3
      rw [← HXE.out] at hu3 hcl hnext
      have e1 : w3.cell? ⟨g, i * 3 + 1, none⟩ = some u3 := hcl 1 (by omega)
      clear hcl
      have HNX := Lib.hid hnext; clear hnext
      obtain ⟨a3, q3, rfl⟩ := (hu3.at_ : IntsAt w3 u3 x.members).form
      have hne : some g ≠ (Value.slice a3 x.members.length q3).ownBlock := fun e => by
        rcases hug with h0 | h0
        · rw [h0] at e; cases e
        · exact h0 e.symm
      have HNE := Lib.hid hne
      clear hne
      go_wp2_with (at_builtin; refine wpList_push_intB rfl (.tmp 28) (.tmp 30) _ rfl _ 3 _ int_info Try.underlying26 _ x.members p rfl hu3 rfl (by omega) (by omega) ?_; intro u4 w4 ho4 hg4 hd4; obtain ⟨a4, q4, hu4⟩ := (OwnI.at_ ho4 : IntsAt w4 u4 (x.members ++ [p])).form; rw [List.length_append, List.length_singleton] at hu4; subst hu4; have d4 := (World.cell?_of_block (a := ⟨g, i * 3 + 1, none⟩) (hg4.block g hg3 HNE.out)).trans e1; have f4 := (World.frozen?_of_block (a := ⟨g, i * 3 + 1, none⟩) (hg4.block g hg3 HNE.out)).trans (hf3 (i * 3 + 1)))
      obtain ⟨WS, hWS⟩ : ∃ WS, WS = w4.setCell ⟨g, i * 3 + 1, none⟩ (.slice a4 (x.members.length + 1) q4) := ⟨_, rfl⟩
      have hS := HNX.out w4 _ ⟨x.name, x.members ++ [p], x.head⟩ hg4 ho4 hd4 1 (.slice a4 (x.members.length + 1) q4) (by omega) rfl
      have hb4 : Below w.heap.size w w4 := hbb.grown hg4 (by have := hbb.size; omega) (fun k hk => by have := (hu3.lt k hk).1; omega)
      have hbS : Below w.heap.size w WS := by rw [hWS]; exact hb4.setCell (p := ⟨g, i * 3 + 1, none⟩) (by show _ ≤ g; omega) _
      have hcS : WS.cell? ⟨g, i * 3 + 1, none⟩ = some (.slice a4 (x.members.length + 1) q4) := by rw [hWS]; exact World.cell?_setCell_same _ _ _ d4
      rw [← hWS] at hS
      have hSL : (xs.set i (⟨x.name, x.members ++ [p], x.head⟩ : DCommittee)).length = xs.length := List.length_set
      have hS1 := hS.1
      rw [← hSL] at hS1
      have HWS := Lib.hid hWS; clear hWS
      have hi' : i < (xs.set i (⟨x.name, x.members ++ [p], x.head⟩ : DCommittee)).length := by rw [List.length_set]; exact hi
      obtain ⟨u5, hu5, ⟨g5, k5, he5, _, hc5⟩, hn5⟩ := OwnNest.inner (f := ccell) (fun _ _ => rfl) hS1 hi'
      simp only [List.getElem_set_self] at hc5 hu5 hn5
      have hgg : g = g5 := by cases he5; rfl
      subst hgg
      have hu54 : u5 = .slice a4 (x.members.length + 1) q4 := by
        have h1 : WS.cell? ⟨g, i * 3 + 1, none⟩ = some u5 := hc5 1 (by omega)
        rw [hcS] at h1
        exact (Option.some.inj h1).symm
      subst hu54
      have HN5 := Lib.hid hn5
      clear hn5 hc5 he5 hS hS1 d4 f4 e1
      rw [← HWS.out]
      go_wp2_with fail
      refine (slices_Sort_own _ (x.members ++ [p]) _ _ hu5 (by have := hbS.size; have := hb2.size; omega) (by simp) (by simp; omega)).mono ?_
      rintro e w5 ⟨rfl, ho5, hg5⟩
      have hO5 := HN5.out w5 ⟨x.name, sortL (x.members ++ [p]), x.head⟩ hg5 ho5 rfl
      rw [List.set_set, hSL] at hO5
      have hb5 : Below w.heap.size w w5 := hbS.grown hg5 hbS.size (fun k hk => by have := (hu5.lt k hk).1; omega)
      have HO5 := Lib.hid hO5; clear hO5
      go_wp2_with fail
      refine (i_asCommittees _ _ w2.heap.size _ HO5.out HLE.out).mono ?_
      rintro e w6 ⟨r, rfl, hr, hb6⟩
      have hb6' := below_step hb5 hb6
      go_wp2_with fail
      go_ret2
      exact ⟨_, rfl, OwnNest.base hr hs2, hb6'⟩

end Go.Proofs.Ytpjmcjdnobihbaa
