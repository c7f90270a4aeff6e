/- Contract: spec.l15Put, a committee put into a list. No conditions beyond sizes. -/
import Derived.Test.YtpjmcjdnobihbaaCommI
namespace Go.Proofs.Ytpjmcjdnobihbaa
open Go.RowKit
set_option linter.unusedVariables false
set_option linter.unusedSimpArgs false

/-- What is still to be laid down: d says that the committee c lies there. -/
def putF (c : DCommittee) : Bool → List DCommittee → List DCommittee
  | d, [] => if d then [] else [c]
  | d, x :: xs => (if !d && !ltN x.name c.name then [c] else []) ++ ((if x.name = c.name then [] else [x]) ++ putF c (d || !ltN x.name c.name) xs)
def putV (xs : List DCommittee) (c : DCommittee) : List DCommittee := putF c (c.members.length == 0) xs
theorem putF_len (c : DCommittee) (d : Bool) (xs : List DCommittee) : (putF c d xs).length ≤ 2 * xs.length + 1 := by
  induction xs generalizing d with
  | nil => cases d <;> simp [putF]
  | cons x r ih =>
    have := ih (d || !ltN x.name c.name)
    simp only [putF, List.length_append, List.length_cons]
    have h1 : (if (!d && !ltN x.name c.name) = true then [c] else []).length ≤ 1 := by split <;> simp
    have h2 : (if x.name = c.name then [] else [x]).length ≤ 1 := by split <;> simp
    omega
/-- The list so far: owned from B on till c is laid into it, then from B0 on, where c's members lie. -/
def OwnP (d : Bool) (w : World) (B0 B : Nat) (v : Value) (xs : List DCommittee) : Prop := (∀ b, v.ownBlock = some b → B ≤ b) ∧ (if d then OwnComms w B0 v xs else OwnComms w B v xs)
theorem OwnP.below {d : Bool} {w w' : World} {B0 B : Nat} {v : Value} {xs : List DCommittee} (h : OwnP d w B0 B v xs) (hb : Below w.heap.size w w') : OwnP d w' B0 B v xs := by
  refine ⟨h.1, ?_⟩
  have := h.2
  cases d
  · exact OwnNest.below (by simpa using this) hb
  · exact OwnNest.below (by simpa using this) hb
theorem OwnP.own {d : Bool} {w : World} {B0 B : Nat} {v : Value} {xs : List DCommittee} (h : OwnP d w B0 B v xs) (hB : B0 ≤ B) : OwnComms w B0 v xs := by
  have := h.2
  cases d
  · exact OwnNest.base (by simpa using this) hB
  · simpa using this

theorem bA_out {B b : Nat} {cs : Array Value} {w w' : World} (h : BoxAt w b cs) (hb : Below B w w') (hB : b < B) : BoxAt w' b cs :=
  ⟨by have := h.1; have := hb.size; omega, fun i => (World.cell?_of_block (w := w) (a := ⟨b, i, none⟩) (hb.block b hB)).trans (h.2.1 i), fun i => (World.frozen?_of_block (w := w) (a := ⟨b, i, none⟩) (hb.block b hB)).trans (h.2.2 i)⟩
/-- 'append(out, c)', c's members older than all that is in out. -/
theorem push_old {P : Program} {w : World} {ops : Array Oper} {rest : List Oper} {o : Oper} {a : Act} {Q : Exit → Act → World → Prop} (hgd : o.guard = none) (s x : Operand) (t : TypeId)
    (ho : o.op = .call { callee := .builtin .append, args := #[s, x], argTypes := #[t, t] })
    (B0 B : Nat) (e' : TypeId) (z : Value) (hinfo : (P.info? 40).map (fun i => (i.zero, i.size, i.bytes)) = some (some z, 3, 48)) (ht : P.underlying t = some (.slice 40)) (hzs : z.cells.size = 3)
    (v : Value) (xs : List DCommittee) (u : Value) (c : DCommittee) (hs : a.eval s = v) (hown : OwnP false w B0 B v xs) (hu : OwnInts w B0 u c.members) (hult : ∀ b, u.ownBlock = some b → b < B) (h1 : u.oneCell' = true)
    (hx : a.eval x = .slice (some ⟨w.heap.size, 0, none⟩) 1 1) (hB : B0 ≤ B) (hB2 : B ≤ w.heap.size) (hn : xs.length ≤ 4000000)
    (h : ∀ v' w', OwnP true w' B0 B v' (xs ++ [c]) → Below B w w' → wpList P ops Q rest (a.put o.dst v') w') :
    wpList P ops Q (o :: rest) a (w.alloc (.cells #[.string c.name, u, .int .i64 c.head] e')) := by
  obtain ⟨hlo, hown⟩ := hown
  have hown' : OwnComms w B v xs := by simpa using hown
  obtain ⟨es, he, hrow, hin, hpw, hd⟩ := hown'
  refine wpList_push_nest (f := ccell) (ord := DCommittee.members) (size := 3) hgd s x t ho (fun _ _ => rfl) B0 40 3 e' z 48 hinfo ht hzs (by omega) (by omega) v xs u c #[.string c.name, u, .int .i64 c.head] hs es he (own_base hrow hB) (fun p hp => own_base (hin p hp) hB) hpw hd hu rfl (by intro y hy; simp only [ccell, List.mem_cons, List.not_mem_nil, or_false] at hy; rcases hy with rfl | rfl | rfl; (first | rfl | exact h1); (first | exact h1 | rfl); (first | rfl | exact h1)) ?_ ?_ hx (by omega) hn (fun v' w' k1 k2 k3 k4 => h v' w' ⟨fun b hb => ?_, by simpa using k1⟩ ?_)
  · cases hub : u.ownBlock with
    | none => exact .inl rfl
    | some b => exact .inr fun hc => by have := hlo b hc.symm; have := hult b hub; omega
  · intro p hp
    cases hpb : p.1.ownBlock with
    | none => exact .inl rfl
    | some b => exact .inr fun hc => by have := ((hin p hp).lt b hpb).1; have := hult b hc.symm; omega
  · rcases k3 with k3 | ⟨b', k3, k5⟩
    · exact hlo b (by rw [← k3]; exact hb)
    · rw [k3] at hb; injection hb with hb; omega
  · exact (Below.refl B w).grown k2 hB2 (fun k hk => hlo k hk)

set_option maxRecDepth 100000 in
set_option maxHeartbeats 4000000 in
theorem s_l15Put (v u : Value) (xs : List DCommittee) (c : DCommittee) (B0 : Nat) (w : World) (h : CommsAt w v xs) (hn : CommsLe xs) (hu : OwnInts w B0 u c.members) (hB0 : B0 ≤ w.heap.size) :
    Calls Try.prog 52 #[v, vComm u c] w fun e w' => ∃ p, e = .returned p ∧ OwnComms w' B0 p (putV xs c) ∧ Below w.heap.size w w' := by
  obtain ⟨ao, cap, rfl⟩ := h.form
  have hul : ∀ b, u.ownBlock = some b → b < w.heap.size := fun b hb => (hu.lt b hb).2
  obtain ⟨ua, uk, rfl⟩ := hu.at_.form
  have hn1 := hn.1
  have hmL : c.members.length ≤ maxLen := by
    obtain ⟨_, _, _, e1, e2, e3, _⟩ := hu.at_
    injection e1 with a1 a2 a3
    omega
  unfold maxLen at hmL
  obtain ⟨W, hW⟩ : ∃ W, W = w.alloc (.cells #[.string c.name, .slice ua c.members.length uk, .int .i64 c.head] 40) := ⟨_, rfl⟩
  have bA : BoxAt W w.heap.size #[.string c.name, .slice ua c.members.length uk, .int .i64 c.head] := by rw [hW]; exact BoxAt.new _ _ _
  have hbW : Below w.heap.size w W := by rw [hW]; exact (Below.refl _ _).alloc (Nat.le_refl _) _
  have hWs : w.heap.size < W.heap.size := bA.1
  obtain ⟨W2, hW2⟩ : ∃ W2, W2 = W.alloc (.cells #[] 40) := ⟨_, rfl⟩
  have hbW2 : Below W.heap.size W W2 := by rw [hW2]; exact (Below.refl _ _).alloc (Nat.le_refl _) _
  have ho1 : OwnComms W2 W.heap.size (.slice (some ⟨W.heap.size, 0, none⟩) 0 0) [] := by rw [hW2]; exact OwnNest.lit _ _ W
  have hP1 : ∀ d, OwnP d W2 B0 W.heap.size (.slice (some ⟨W.heap.size, 0, none⟩) 0 0) [] := fun d => ⟨fun b hb => by simp only [Value.ownBlock, Option.some.injEq] at hb; omega, by cases d; (· simpa using ho1); (· simpa using OwnNest.base ho1 (by omega))⟩
  have hb2 := (bA.below hbW2)
  have a0 := hb2.cells
  have hz : ((c.members.length : Int) == 0) = (c.members.length == 0) := by rw [Bool.eq_iff_iff]; simp
  have HV : Hid (putV xs c = [] ++ putF c (c.members.length == 0) (xs.drop 0)) := rfl
  have HW := Lib.hid hW; have HW2 := Lib.hid hW2; have HP1 := Lib.hid hP1
  clear hW hW2 ho1 hP1
  go_enter Try.func52, Try.ntmps52
  go_upto_region 1 with fail
  rw [← HW.out]
  go_upto_region 2 with fail
  rw [← HW2.out]
  go_wp2_with fail
  go_loopw [5, 6, 7] (fun o dv i wr => ∃ (k : Nat) (out : List DCommittee) (d : Bool), k ≤ xs.length ∧ i = .int .i64 k ∧ dv = .bool d ∧ OwnP d wr B0 W.heap.size o out ∧ Hid (putV xs c = out ++ putF c d (xs.drop k)) ∧ out.length ≤ 2 * k ∧ Below W.heap.size W wr) (fun _ _ i _ => xs.length - (intOf i).toNat)
  case atStart => exact ⟨0, [], _, by omega, rfl, rfl, HP1.out _, HV, by simp, hbW2⟩
  case round =>
    rename World => wa
    clear a0 hb2 hz HP1 HV
    obtain ⟨k, out, d, hk, rfl, rfl, ho, hV, hol, hb⟩ := hrel
    have hba : Below w.heap.size w wa := below_step hbW hb
    have bA1 := bA.below hb
    have a1 := bA1.cells
    by_cases hlt : k < xs.length
    · have hV' := hV.out
      rw [drop_at hlt] at hV'
      simp only [putF] at hV'
      obtain ⟨b, off, u0, rfl, g0, h5w, c0w, c1w, c2w⟩ := h.get hlt
      obtain ⟨a2, k2, rfl⟩ := h5w.form
      have h4 : b < wa.heap.size := by have := hba.size; omega
      have c0 := (hba.cell (p := ⟨b, off + k * 3, none⟩) g0).trans c0w
      have c1 := (hba.cell (p := ⟨b, off + k * 3 + 1, none⟩) g0).trans c1w
      have c2 := (hba.cell (p := ⟨b, off + k * 3 + 2, none⟩) g0).trans c2w
      clear c0w c1w c2w
      have hm := (hn.2 _ (List.getElem_mem hlt)).1
      have hk0 : (0 : Int) ≤ (k : Int) := by omega
      have hk1 : (k : Int) < (xs.length : Int) := by omega
      clear hV
      -- ROUND
      obtain ⟨x, hxe⟩ : ∃ x, x = xs[k] := ⟨_, rfl⟩
      rw [← hxe] at c0 c1 c2 h5w hV' hm
      have hBW : B0 ≤ W.heap.size := by omega
      have hlen : out.length + 1 ≤ 4000000 := by omega
      have hg0W : b < W.heap.size := by omega
      have hua : OwnInts wa B0 (.slice ua c.members.length uk) c.members := OwnI.below (OwnI.below hu hbW) hb
      have hult : ∀ b, (Value.slice ua c.members.length uk).ownBlock = some b → b < W.heap.size := fun b hb => by have := hul b hb; omega
      have HUL := Lib.hid hult; clear hult hxe
      have hB2 := hb.size
      have r0 := BW.cell h4 c0; have r1 := BW.cell h4 c1; have r2 := BW.cell h4 c2
      have s0 := BW.box bA1
      have HS := Lib.hid (fun w' (hb : Below W.heap.size wa w') => (⟨(hb.cell (p := ⟨b, off + k * 3, none⟩) hg0W).trans c0, (hb.cell (p := ⟨b, off + k * 3 + 1, none⟩) hg0W).trans c1, (hb.cell (p := ⟨b, off + k * 3 + 2, none⟩) hg0W).trans c2⟩ : w'.cell? ⟨b, off + k * 3, none⟩ = some (.string x.name) ∧ w'.cell? ⟨b, off + k * 3 + 1, none⟩ = some (.slice a2 x.members.length k2) ∧ w'.cell? ⟨b, off + k * 3 + 2, none⟩ = some (.int .i64 x.head)))
      have HM := Lib.hid (fun w' (hb' : Below W.heap.size wa w') => h5w.below (hba.trans (hb'.mono (Nat.le_of_lt hWs))))
      cases d with
      | false =>
        cases hln : ltN x.name c.name with
        | false =>
          simp only [ltN] at hln
          rw [show (!false && !ltN x.name c.name) = true by simp [ltN, hln], if_pos rfl, show (false || !ltN x.name c.name) = true by simp [ltN, hln], ← List.append_assoc] at hV'
          go_wp2_with fail
          refine wp_region_bw (by kernel_rfl) (by kernel_rfl) ?_
          repeat (first
            | go_big_quiet_skip
            | (go_big_quiet_want; go_big_quiet_op; first | go_big_quiet_on | (apply Exists.intro; refine ⟨fun _ => ?_, ?_⟩; (fail); go_big_quiet_on)))
          refine wpQuiet_nil ?_
          rintro _ ⟨xq, rfl⟩
          obtain ⟨wb, hxb⟩ := xq
          have ho2 := ho.below hxb
          have bA2 := bA1.below hxb
          have a3 := bA2.cells
          have hB3 : W.heap.size ≤ wb.heap.size := Nat.le_trans hB2 hxb.size
          have hu2 := OwnI.below hua hxb
          have hl3 : out.length ≤ 4000000 := by omega
          go_wp2_with (at_builtin; refine push_old rfl (.tmp 31) (.tmp 33) _ rfl B0 W.heap.size _ _ comm_info Try.underlying24 rfl _ out _ c rfl ho2 hu2 HUL.out rfl rfl hBW hB3 hl3 ?_; intro v' w4 ho4 hb4; have hq4 := (hxb.mono hB2).trans hb4; have bA4 := bA_out bA2 hb4 hWs; clear hb4 a3 r0 r1 r2 s0 a1)
          obtain ⟨t0, t1, t2⟩ := HS.out _ hq4
          have hs4 : W.heap.size ≤ w4.heap.size := Nat.le_trans hB2 hq4.size
          have hbl4 : b < w4.heap.size := by have := hq4.size; omega
          have r0 := BW.cell hbl4 t0
          have s0 := BW.box bA4
          by_cases hne : x.name = c.name
          · have hb1 : (x.name.toList == c.name.toList) = true := by simp [hne]
            have HV : Hid (putV xs c = (out ++ [c]) ++ putF c true (xs.drop (k + 1))) := by simpa [Hid, hne] using hV'
            clear hV' hne
            go_wp2_with fail
            refine wp_region_bw (by kernel_rfl) (by kernel_rfl) ?_
            repeat (first
              | go_big_quiet_skip
              | (go_big_quiet_want; go_big_quiet_op; first | go_big_quiet_on | (apply Exists.intro; refine ⟨fun _ => ?_, ?_⟩; (fail); go_big_quiet_on)))
            refine wpQuiet_nil ?_
            rintro _ ⟨xq, rfl⟩
            obtain ⟨w5, hx5⟩ := xq
            have ho5 := ho4.below hx5
            have hb5 : Below W.heap.size W w5 := (hb.trans hq4).trans (hx5.mono hs4)
            go_wp2_with fail
            go_roundw
            case rel => exact ⟨k + 1, (out ++ [c]), true, by omega, by go_num, rfl, ho5, HV, by first | omega | (simp; omega), hb5⟩
            case measure => simp [intOf]; omega
          · have hb1 : (x.name.toList == c.name.toList) = false := (Lib.bytes_beq_false_iff _ _).2 hne
            have HV : Hid (putV xs c = ((out ++ [c]) ++ [x]) ++ putF c true (xs.drop (k + 1))) := by simpa [Hid, hne] using hV'
            clear hV' hne
            go_wp2_with fail
            refine wp_region_bw (by kernel_rfl) (by kernel_rfl) ?_
            repeat (first
              | go_big_quiet_skip
              | (go_big_quiet_want; go_big_quiet_op; first | go_big_quiet_on | (apply Exists.intro; refine ⟨fun _ => ?_, ?_⟩; (fail); go_big_quiet_on)))
            refine wpQuiet_nil ?_
            rintro _ ⟨xq, rfl⟩
            obtain ⟨w5, hx5⟩ := xq
            have ho5 := ho4.below hx5
            have hq5 := hq4.trans (hx5.mono hs4)
            have hb5 : Below W.heap.size W w5 := hb.trans hq5
            obtain ⟨e0, e1, e2⟩ := HS.out _ hq5
            have h55 := HM.out _ hq5
            have HO := Lib.hid (ho5.2)
            have hlo := Lib.hid ho5.1
            have hl5 : ((out ++ [c])).length ≤ 4000000 := by first | omega | (simp; omega)
            have hbs5 : W.heap.size ≤ w5.heap.size := hb5.size
            have hbs6 : B0 ≤ w5.heap.size := by omega
            have hoo := HO.out
            simp only [↓reduceIte, Bool.false_eq_true] at hoo
            have HOO := Lib.hid hoo; clear hoo
            have hbase : B0 ≤ w5.heap.size := by omega
            clear HO ho5 bA4 hq4 ho4
            go_wp2_with fail
            go_region_held3 (fun w' => w'.cell? ⟨b, off + k * 3, none⟩ = some (.string x.name) ∧ w'.cell? ⟨b, off + k * 3 + 1, none⟩ = some (.slice a2 x.members.length k2) ∧ w'.cell? ⟨b, off + k * 3 + 2, none⟩ = some (.int .i64 x.head)) (first | exact ⟨e0, e1, e2⟩ | exact hs6 | exact hs6a _ | exact hs7) (first
              | (go_at_call 68; refine (s_l1Own _ x.members _ (h55.below (Below.drew (Below.refl _ _))) (by omega)).mono ?_; rintro e w6 ⟨p, rfl, ho6, hb6⟩; have hb56 : Below w5.heap.size w5 w6 := undrew hb6; have hq6 := hq5.trans (hb56.mono hbs5); have hs6le : W.heap.size ≤ w6.heap.size := Nat.le_trans hbs5 hb56.size; have hs6 := HS.out _ hq6; have hs6a := fun o => HS.out _ (hq6.alloc hs6le o); obtain ⟨a6, k6, rfl⟩ := ho6.at_.form)
              | ((refine step_push_nest2 (f := ccell) (ord := DCommittee.members) (size := 3) (by rfl) (.tmp 43) (.tmp 61) _ (by rfl) (fun _ _ => rfl) B0 40 3 _ _ 48 comm_info Try.underlying24 (by rfl) (by omega) (by omega) _ (out ++ [c]) (.slice a6 x.members.length k6) x #[.string x.name, .slice a6 x.members.length k6, .int .i64 x.head] (by rfl) w5 HOO.out (undrew hb6) ho6 rfl (by simp [ccell, Value.oneCell']) (by rfl) hbase hl5 ?_); (intro v7 w7 ho7 hb7 hg7 hv7); (have hq67 : Below W.heap.size w6 w7 := (by first | exact (Below.refl W.heap.size w6).grown hg7 hs6le (fun k hk => hlo.out k hk) | exact undrew ((Below.refl W.heap.size w6.drew).grown hg7 hs6le (fun k hk => hlo.out k hk)))); (have hs7 := HS.out _ (hq6.trans hq67)); (have hop7 : OwnP true w7 B0 W.heap.size v7 ((out ++ [c]) ++ [x]) := ⟨fun b hb => by (rcases hv7 with h7 | ⟨b', h7, h8⟩); (· exact hlo.out b (by rw [← h7]; exact hb)); (· rw [h7] at hb; injection hb with hb; rw [← hb]; exact Nat.le_trans hs6le h8), by simpa using ho7⟩); (clear hv7)))
            all_goals go_wp2_with fail
            all_goals go_roundw
            case rel => exact ⟨k + 1, _, true, by omega, by go_num, rfl, hop7, HV, by first | (simp; omega) | omega, (hb.trans hq6).trans hq67⟩
            case measure => simp [intOf]; omega
        | true =>
          simp only [ltN] at hln
          rw [show (!false && !ltN x.name c.name) = false by simp [ltN, hln], if_neg (by simp), show (false || !ltN x.name c.name) = false by simp [ltN, hln], List.nil_append] at hV'
          go_wp2_with fail
          refine wp_region_bw (by kernel_rfl) (by kernel_rfl) ?_
          repeat (first
            | go_big_quiet_skip
            | (go_big_quiet_want; go_big_quiet_op; first | go_big_quiet_on | (apply Exists.intro; refine ⟨fun _ => ?_, ?_⟩; (fail); go_big_quiet_on)))
          refine wpQuiet_nil ?_
          rintro _ ⟨xq, rfl⟩
          obtain ⟨w4, hxb⟩ := xq
          have ho4 := ho.below hxb
          have bA4 := bA1.below hxb
          have hq4 := hxb.mono hB2
          clear r0 r1 r2 s0 a1
          obtain ⟨t0, t1, t2⟩ := HS.out _ hq4
          have hs4 : W.heap.size ≤ w4.heap.size := Nat.le_trans hB2 hq4.size
          have hbl4 : b < w4.heap.size := by have := hq4.size; omega
          have r0 := BW.cell hbl4 t0
          have s0 := BW.box bA4
          by_cases hne : x.name = c.name
          · have hb1 : (x.name.toList == c.name.toList) = true := by simp [hne]
            have HV : Hid (putV xs c = out ++ putF c false (xs.drop (k + 1))) := by simpa [Hid, hne] using hV'
            clear hV' hne
            go_wp2_with fail
            refine wp_region_bw (by kernel_rfl) (by kernel_rfl) ?_
            repeat (first
              | go_big_quiet_skip
              | (go_big_quiet_want; go_big_quiet_op; first | go_big_quiet_on | (apply Exists.intro; refine ⟨fun _ => ?_, ?_⟩; (fail); go_big_quiet_on)))
            refine wpQuiet_nil ?_
            rintro _ ⟨xq, rfl⟩
            obtain ⟨w5, hx5⟩ := xq
            have ho5 := ho4.below hx5
            have hb5 : Below W.heap.size W w5 := (hb.trans hq4).trans (hx5.mono hs4)
            go_wp2_with fail
            go_roundw
            case rel => exact ⟨k + 1, out, false, by omega, by go_num, rfl, ho5, HV, by first | omega | (simp; omega), hb5⟩
            case measure => simp [intOf]; omega
          · have hb1 : (x.name.toList == c.name.toList) = false := (Lib.bytes_beq_false_iff _ _).2 hne
            have HV : Hid (putV xs c = (out ++ [x]) ++ putF c false (xs.drop (k + 1))) := by simpa [Hid, hne] using hV'
            clear hV' hne
            go_wp2_with fail
            refine wp_region_bw (by kernel_rfl) (by kernel_rfl) ?_
            repeat (first
              | go_big_quiet_skip
              | (go_big_quiet_want; go_big_quiet_op; first | go_big_quiet_on | (apply Exists.intro; refine ⟨fun _ => ?_, ?_⟩; (fail); go_big_quiet_on)))
            refine wpQuiet_nil ?_
            rintro _ ⟨xq, rfl⟩
            obtain ⟨w5, hx5⟩ := xq
            have ho5 := ho4.below hx5
            have hq5 := hq4.trans (hx5.mono hs4)
            have hb5 : Below W.heap.size W w5 := hb.trans hq5
            obtain ⟨e0, e1, e2⟩ := HS.out _ hq5
            have h55 := HM.out _ hq5
            have HO := Lib.hid (ho5.2)
            have hlo := Lib.hid ho5.1
            have hl5 : (out).length ≤ 4000000 := by first | omega | (simp; omega)
            have hbs5 : W.heap.size ≤ w5.heap.size := hb5.size
            have hbs6 : B0 ≤ w5.heap.size := by omega
            have hoo := HO.out
            simp only [↓reduceIte, Bool.false_eq_true] at hoo
            have HOO := Lib.hid hoo; clear hoo
            have hbase : W.heap.size ≤ w5.heap.size := by omega
            clear HO ho5 bA4 hq4 ho4
            go_wp2_with fail
            go_region_held3 (fun w' => w'.cell? ⟨b, off + k * 3, none⟩ = some (.string x.name) ∧ w'.cell? ⟨b, off + k * 3 + 1, none⟩ = some (.slice a2 x.members.length k2) ∧ w'.cell? ⟨b, off + k * 3 + 2, none⟩ = some (.int .i64 x.head)) (first | exact ⟨e0, e1, e2⟩ | exact hs6 | exact hs6a _ | exact hs7) (first
              | (go_at_call 68; refine (s_l1Own _ x.members _ (h55.below (Below.drew (Below.refl _ _))) (by omega)).mono ?_; rintro e w6 ⟨p, rfl, ho6, hb6⟩; have hb56 : Below w5.heap.size w5 w6 := undrew hb6; have hq6 := hq5.trans (hb56.mono hbs5); have hs6le : W.heap.size ≤ w6.heap.size := Nat.le_trans hbs5 hb56.size; have hs6 := HS.out _ hq6; have hs6a := fun o => HS.out _ (hq6.alloc hs6le o); obtain ⟨a6, k6, rfl⟩ := ho6.at_.form)
              | ((refine step_push_nest2 (f := ccell) (ord := DCommittee.members) (size := 3) (by rfl) (.tmp 43) (.tmp 61) _ (by rfl) (fun _ _ => rfl) W.heap.size 40 3 _ _ 48 comm_info Try.underlying24 (by rfl) (by omega) (by omega) _ out (.slice a6 x.members.length k6) x #[.string x.name, .slice a6 x.members.length k6, .int .i64 x.head] (by rfl) w5 HOO.out (undrew hb6) ho6 rfl (by simp [ccell, Value.oneCell']) (by rfl) hbase hl5 ?_); (intro v7 w7 ho7 hb7 hg7 hv7); (have hq67 : Below W.heap.size w6 w7 := (by first | exact (Below.refl W.heap.size w6).grown hg7 hs6le (fun k hk => hlo.out k hk) | exact undrew ((Below.refl W.heap.size w6.drew).grown hg7 hs6le (fun k hk => hlo.out k hk)))); (have hs7 := HS.out _ (hq6.trans hq67)); (have hop7 : OwnP false w7 B0 W.heap.size v7 (out ++ [x]) := ⟨fun b hb => by (rcases hv7 with h7 | ⟨b', h7, h8⟩); (· exact hlo.out b (by rw [← h7]; exact hb)); (· rw [h7] at hb; injection hb with hb; rw [← hb]; exact Nat.le_trans hs6le h8), by simpa using ho7⟩); (clear hv7)))
            all_goals go_wp2_with fail
            all_goals go_roundw
            case rel => exact ⟨k + 1, _, false, by omega, by go_num, rfl, hop7, HV, by first | (simp; omega) | omega, (hb.trans hq6).trans hq67⟩
            case measure => simp [intOf]; omega
      | true =>
        rw [show (!true && !ltN x.name c.name) = false by simp, if_neg (by simp), show (true || !ltN x.name c.name) = true by simp, List.nil_append] at hV'
        go_wp2_with fail
        refine wp_region_bw (by kernel_rfl) (by kernel_rfl) ?_
        repeat (first
          | go_big_quiet_skip
          | (go_big_quiet_want; go_big_quiet_op; first | go_big_quiet_on | (apply Exists.intro; refine ⟨fun _ => ?_, ?_⟩; (fail); go_big_quiet_on)))
        refine wpQuiet_nil ?_
        rintro _ ⟨xq, rfl⟩
        obtain ⟨w4, hxb⟩ := xq
        have ho4 := ho.below hxb
        have bA4 := bA1.below hxb
        have hq4 := hxb.mono hB2
        clear r0 r1 r2 s0 a1
        obtain ⟨t0, t1, t2⟩ := HS.out _ hq4
        have hs4 : W.heap.size ≤ w4.heap.size := Nat.le_trans hB2 hq4.size
        have hbl4 : b < w4.heap.size := by have := hq4.size; omega
        have r0 := BW.cell hbl4 t0
        have s0 := BW.box bA4
        by_cases hne : x.name = c.name
        · have hb1 : (x.name.toList == c.name.toList) = true := by simp [hne]
          have HV : Hid (putV xs c = out ++ putF c true (xs.drop (k + 1))) := by simpa [Hid, hne] using hV'
          clear hV' hne
          go_wp2_with fail
          refine wp_region_bw (by kernel_rfl) (by kernel_rfl) ?_
          repeat (first
            | go_big_quiet_skip
            | (go_big_quiet_want; go_big_quiet_op; first | go_big_quiet_on | (apply Exists.intro; refine ⟨fun _ => ?_, ?_⟩; (fail); go_big_quiet_on)))
          refine wpQuiet_nil ?_
          rintro _ ⟨xq, rfl⟩
          obtain ⟨w5, hx5⟩ := xq
          have ho5 := ho4.below hx5
          have hb5 : Below W.heap.size W w5 := (hb.trans hq4).trans (hx5.mono hs4)
          go_wp2_with fail
          go_roundw
          case rel => exact ⟨k + 1, out, true, by omega, by go_num, rfl, ho5, HV, by first | omega | (simp; omega), hb5⟩
          case measure => simp [intOf]; omega
        · have hb1 : (x.name.toList == c.name.toList) = false := (Lib.bytes_beq_false_iff _ _).2 hne
          have HV : Hid (putV xs c = (out ++ [x]) ++ putF c true (xs.drop (k + 1))) := by simpa [Hid, hne] using hV'
          clear hV' hne
          go_wp2_with fail
          refine wp_region_bw (by kernel_rfl) (by kernel_rfl) ?_
          repeat (first
            | go_big_quiet_skip
            | (go_big_quiet_want; go_big_quiet_op; first | go_big_quiet_on | (apply Exists.intro; refine ⟨fun _ => ?_, ?_⟩; (fail); go_big_quiet_on)))
          refine wpQuiet_nil ?_
          rintro _ ⟨xq, rfl⟩
          obtain ⟨w5, hx5⟩ := xq
          have ho5 := ho4.below hx5
          have hq5 := hq4.trans (hx5.mono hs4)
          have hb5 : Below W.heap.size W w5 := hb.trans hq5
          obtain ⟨e0, e1, e2⟩ := HS.out _ hq5
          have h55 := HM.out _ hq5
          have HO := Lib.hid (ho5.2)
          have hlo := Lib.hid ho5.1
          have hl5 : (out).length ≤ 4000000 := by first | omega | (simp; omega)
          have hbs5 : W.heap.size ≤ w5.heap.size := hb5.size
          have hbs6 : B0 ≤ w5.heap.size := by omega
          have hoo := HO.out
          simp only [↓reduceIte, Bool.false_eq_true] at hoo
          have HOO := Lib.hid hoo; clear hoo
          have hbase : B0 ≤ w5.heap.size := by omega
          clear HO ho5 bA4 hq4 ho4
          go_wp2_with fail
          go_region_held3 (fun w' => w'.cell? ⟨b, off + k * 3, none⟩ = some (.string x.name) ∧ w'.cell? ⟨b, off + k * 3 + 1, none⟩ = some (.slice a2 x.members.length k2) ∧ w'.cell? ⟨b, off + k * 3 + 2, none⟩ = some (.int .i64 x.head)) (first | exact ⟨e0, e1, e2⟩ | exact hs6 | exact hs6a _ | exact hs7) (first
            | (go_at_call 68; refine (s_l1Own _ x.members _ (h55.below (Below.drew (Below.refl _ _))) (by omega)).mono ?_; rintro e w6 ⟨p, rfl, ho6, hb6⟩; have hb56 : Below w5.heap.size w5 w6 := undrew hb6; have hq6 := hq5.trans (hb56.mono hbs5); have hs6le : W.heap.size ≤ w6.heap.size := Nat.le_trans hbs5 hb56.size; have hs6 := HS.out _ hq6; have hs6a := fun o => HS.out _ (hq6.alloc hs6le o); obtain ⟨a6, k6, rfl⟩ := ho6.at_.form)
            | ((refine step_push_nest2 (f := ccell) (ord := DCommittee.members) (size := 3) (by rfl) (.tmp 43) (.tmp 61) _ (by rfl) (fun _ _ => rfl) B0 40 3 _ _ 48 comm_info Try.underlying24 (by rfl) (by omega) (by omega) _ out (.slice a6 x.members.length k6) x #[.string x.name, .slice a6 x.members.length k6, .int .i64 x.head] (by rfl) w5 HOO.out (undrew hb6) ho6 rfl (by simp [ccell, Value.oneCell']) (by rfl) hbase hl5 ?_); (intro v7 w7 ho7 hb7 hg7 hv7); (have hq67 : Below W.heap.size w6 w7 := (by first | exact (Below.refl W.heap.size w6).grown hg7 hs6le (fun k hk => hlo.out k hk) | exact undrew ((Below.refl W.heap.size w6.drew).grown hg7 hs6le (fun k hk => hlo.out k hk)))); (have hs7 := HS.out _ (hq6.trans hq67)); (have hop7 : OwnP true w7 B0 W.heap.size v7 (out ++ [x]) := ⟨fun b hb => by (rcases hv7 with h7 | ⟨b', h7, h8⟩); (· exact hlo.out b (by rw [← h7]; exact hb)); (· rw [h7] at hb; injection hb with hb; rw [← hb]; exact Nat.le_trans hs6le h8), by simpa using ho7⟩); (clear hv7)))
          all_goals go_wp2_with fail
          all_goals go_roundw
          case rel => exact ⟨k + 1, _, true, by omega, by go_num, rfl, hop7, HV, by first | (simp; omega) | omega, (hb.trans hq6).trans hq67⟩
          case measure => simp [intOf]; omega
      -- END ROUND
    · obtain rfl : k = xs.length := by omega
      have hV' := hV.out
      rw [List.drop_of_length_le (by omega)] at hV'
      simp only [putF] at hV'
      have hBW : B0 ≤ W.heap.size := by omega
      cases d with
      | true =>
        have HV : Hid (putV xs c = out) := by simpa [Hid] using hV'
        have hfin := Lib.hid (ho.own hBW)
        clear hV hV' ho
        go_wp2_with fail
        go_ret
        exact ⟨_, rfl, by rw [HV.out]; exact hfin.out, hba⟩
      | false =>
        have HV : Hid (putV xs c = out ++ [c]) := by simpa [Hid] using hV'
        have hua : OwnInts wa B0 (.slice ua c.members.length uk) c.members := OwnI.below (OwnI.below hu hbW) hb
        have hlen : out.length ≤ 4000000 := by omega
        have hult : ∀ b, (Value.slice ua c.members.length uk).ownBlock = some b → b < W.heap.size := fun b hb => by have := hul b hb; omega
        have hB2 := hb.size
        have HUL := Lib.hid hult; clear hult
        clear hV hV'
        go_wp2_with (at_builtin; refine push_old rfl (.tmp 65) (.tmp 67) _ rfl B0 W.heap.size _ _ comm_info Try.underlying24 rfl _ out _ c rfl ho hua HUL.out rfl rfl hBW hB2 hlen ?_; intro v' w' k1 k2)
        go_ret
        exact ⟨_, rfl, by rw [HV.out]; exact k1.own hBW, below_step hbW (hb.trans k2)⟩

end Go.Proofs.Ytpjmcjdnobihbaa
