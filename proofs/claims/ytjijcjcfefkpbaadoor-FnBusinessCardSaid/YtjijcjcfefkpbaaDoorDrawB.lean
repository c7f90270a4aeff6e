/- Contracts: the draw of a session and its moves. Condition: fewer than a thousand million choices. -/
import Derived.Test.YtjijcjcfefkpbaaDoorDrawR
import Derived.Test.YtjijcjcfefkpbaaDoorTwo
import Derived.Test.YtjijcjcfefkpbaaDoorPutW
import Derived.Test.YtjijcjcfefkpbaaDoorSessMiss
import Derived.Test.YtjijcjcfefkpbaaDoorSpanS
import Derived.Deep.DeepCutAuto
import Derived.Deep.CutBlock
namespace Go.Proofs.YtjijcjcfefkpbaaDoor
open Go.RowKit
set_option linter.unusedVariables false
set_option linter.unusedSimpArgs false

/-- Two ints appended, where another slice of the call's own lies beside. -/
theorem wpList_push_pair {P : Program} {w : World} {ops : Array Oper} {rest : List Oper} {o : Oper} {a : Act} {Q : Exit → Act → World → Prop} (hgd : o.guard = none) (s x : Operand) (t : TypeId)
    (ho : o.op = .call { callee := .builtin .append, args := #[s, x], argTypes := #[t, t] })
    (B : Nat) (e : TypeId) (hinfo : (P.info? e).map (fun i => (i.zero, i.size, i.bytes)) = some (some (.int .i64 0), 1, 8)) (ht : P.underlying t = some (.slice e))
    (v : Value) (xs : List Int) (y z : Int) (hs : a.eval s = v) (hown : OwnI e w B v xs) (hx : a.eval x = .slice (some ⟨w.heap.size, 0, none⟩) 2 2) (hB : B ≤ w.heap.size) (hn : xs.length ≤ 4000000)
    (h : ∀ v' w', OwnI e w' B v' (xs ++ [y, z]) → w.grownBy w' v.ownBlock → (v'.ownBlock = v.ownBlock ∨ v'.ownBlock = some (w.heap.size + 1)) → wpList P ops Q rest (a.put o.dst v') w') :
    wpList P ops Q (o :: rest) a (w.alloc (.cells #[.int .i64 y, .int .i64 z] e)) := by
  obtain ⟨i0, hi, hz0, hz1, hz2⟩ := info_parts hinfo
  have hal : Below w.heap.size w (w.alloc (.cells #[.int .i64 y, .int .i64 z] e)) := (Below.refl _ _).alloc (Nat.le_refl _) _
  have hrow : RowAt (w.alloc (.cells #[.int .i64 y, .int .i64 z] e)) (.slice (some ⟨w.heap.size, 0, none⟩) 2 2) 2 1 (ints [y, z]) := by
    have h1 := own_litL w e [y, z] (by simp)
    have h2 := rowAt_of_own h1
    simpa [ints] using h2
  refine wpList_append_row _ hgd s x t ho B e i0 (.int .i64 0) 1 8 ht hi hz0 hz1 hz2 rfl (by decide) v _ _ hs (own_below hown hal) _ 2 (ints [y, z]) hx hrow (ints_one [y, z]) (by unfold maxLen; omega) (by omega) (by simp; omega) ?_
  intro v' w' h1 h2 h3
  refine h v' w' (by unfold OwnI; simpa [ints] using h1) ?_ (by simpa using h3)
  have hsz : w.heap.size ≤ w'.heap.size := by have := h2.size; simp at this; omega
  exact ⟨h2.os, h2.tape, h2.output, hsz, fun k hk hne => (h2.block k (by simp; omega) hne).trans (hal.block k hk)⟩
theorem bA_outM {B b : Nat} {cs : Array Value} {w w' : World} (h : BoxAt w b cs) (hb : Below B w w') (hB : b < B) : BoxAt w' b cs :=
  ⟨by have := hb.size; have := h.1; omega, fun i => (hb.cell (p := ⟨b, i, none⟩) hB).trans (h.2.1 i), fun i => (hb.frozen (p := ⟨b, i, none⟩) hB).trans (h.2.2 i)⟩

/-- A session drawn, in its variable (block s), the result's variable in block r, the cursor in block b; the members now and the moves. -/
structure MvAt (W0 : World) (cv : Value) (w' : World) (b m r s : Nat) (en nu de re : Int) (u : Value) (xs : List Int) (vn : Value) (ns : List Int) (vm : Value) (ms : List Int) : Prop where
  cur : CurAt W0 cv w' b m
  res : BoxAt w' r #[.int .i64 0, .int .i64 0, .int .i64 0, .slice none 0 0, .int .i64 0]
  box : BoxAt w' s #[.int .i64 en, .int .i64 nu, .int .i64 de, u, .int .i64 re]
  own : OwnIn 3 1 (b + 1) s w' u xs.length (ints xs)
  two : Two w' (s + 1) vn ns vm ms
  ord : r < b ∧ b < s
section
variable {W0 : World} {cv : Value} {w w1 w2 : World} {b m m' r s : Nat} {en nu de re : Int} {u : Value} {xs : List Int} {vn vn' : Value} {ns ns' : List Int} {vm vm' : Value} {ms ms' : List Int}
theorem MvAt.step (h : MvAt W0 cv w1 b m r s en nu de re u xs vn ns vm ms) (hb : Below w1.heap.size w1 w2) : MvAt W0 cv w2 b m r s en nu de re u xs vn ns vm ms :=
  ⟨h.cur.step hb, h.res.below hb, h.box.below hb, h.own.keep (below_same hb h.own.2.2), h.two.below hb, h.ord⟩
theorem MvAt.went (h : MvAt W0 cv w1 b m r s en nu de re u xs vn ns vm ms) (k : CurAt W0 cv w2 b m') (t : CurTo b w1 w2) : MvAt W0 cv w2 b m' r s en nu de re u xs vn ns vm ms :=
  ⟨k, OutOf.box t h.res (.inl h.ord.1), OutOf.box t h.box (.inr h.ord.2), h.own.keep (OutOf.same t (.inr (Nat.le_refl _)) h.own.2.2), ⟨own_outQ h.two.1 t (by have := h.ord; omega), own_outQ h.two.2.1 t (by have := h.ord; omega), h.two.2.2⟩, h.ord⟩
theorem MvAt.more (h : MvAt W0 cv w1 b m r s en nu de re u xs vn ns vm ms) (hm : m ≤ m') : MvAt W0 cv w1 b m' r s en nu de re u xs vn ns vm ms := ⟨h.cur.more hm, h.res, h.box, h.own, h.two, h.ord⟩
/-- A move written. -/
theorem MvAt.push (h : MvAt W0 cv w1 b m r s en nu de re u xs vn ns vm ms) (ho : OwnI 3 w2 (s + 1) vm' ms') (hg : w1.grownBy w2 vm.ownBlock) (hv : vm'.ownBlock = vm.ownBlock ∨ vm'.ownBlock = some (w1.heap.size + 1)) : MvAt W0 cv w2 b m r s en nu de re u xs vn ns vm' ms' := by
  have hd := h.ord
  have hs := h.box.1
  have hb : Below (s + 1) w1 w2 := (Below.refl _ _).grown hg (by omega) (fun k hk => (h.two.2.1.lt k hk).1)
  exact ⟨h.cur.keep hb (by omega), bA_outM h.res hb (by omega), bA_outM h.box hb (by omega), h.own.keep (below_same hb (by omega)), h.two.push ho hg hv, hd⟩
/-- Other members. -/
theorem MvAt.now (h : MvAt W0 cv w1 b m r s en nu de re u xs vn ns vm ms) (hb : Below w1.heap.size w1 w2) (hn : OwnI 3 w2 w1.heap.size vn' ns') : MvAt W0 cv w2 b m r s en nu de re u xs vn' ns' vm ms := by
  have hs := h.box.1
  exact ⟨h.cur.step hb, h.res.below hb, h.box.below hb, h.own.keep (below_same hb h.own.2.2), h.two.fresh (by omega) hb hn, h.ord⟩
/-- The recess is written. -/
theorem MvAt.put (h : MvAt W0 cv w1 b m r s en nu de re u xs vn ns vm ms) (x : Int) : MvAt W0 cv (w1.setCell ⟨s, 4, none⟩ (.int .i64 x)) b m r s en nu de x u xs vn ns vm ms := by
  have hd := h.ord
  have hb : Below s w1 (w1.setCell ⟨s, 4, none⟩ (.int .i64 x)) := (Below.refl _ _).setCell (p := ⟨s, 4, none⟩) (Nat.le_refl _) _
  refine ⟨h.cur.keep hb (by omega), bA_outM h.res hb (by omega), ?_, h.own.keep (below_same hb (Nat.le_refl _)),
    ⟨fin_own2 (lo := s) (b := s) h.two.1 (Below.refl _ _) ((OutOf.refl s (s + 1) w1).set _) (Nat.lt_succ_self s), fin_own2 (lo := s) (b := s) h.two.2.1 (Below.refl _ _) ((OutOf.refl s (s + 1) w1).set _) (Nat.lt_succ_self s), h.two.2.2⟩, hd⟩
  have := box_setQ h.box (i := 4) (by simp) (.int .i64 x)
  simpa using this
theorem MvAt.last (h : MvAt W0 cv w1 b m w.heap.size s en nu de re u xs vn ns vm ms) (hw : Below w.heap.size w W0) (ho : OutOf w.heap.size (w.heap.size + 1) w1 w2) : IntsAt w2 u xs ∧ IntsAt w2 vm ms ∧ Below w.heap.size w w2 := by
  have hd := h.ord
  exact ⟨OwnIn.at_ (h.own.keep (OutOf.same ho (.inr (by omega)) h.own.2.2)), OwnI.at_ (own_outQ h.two.2.1 ho (by omega)), (hw.trans (h.cur.below.mono hw.size)).trans (ho.below (Nat.le_refl _) (by have := h.res.1; omega))⟩
end

theorem res_sess (tmps : Array Value) (w : World) (b : Nat) (en nu de re : Int) (u : Value) (hp : tmps.getD 2 undef = .pointer (some ⟨b, 0, none⟩)) (hb : BoxAt w b #[.int .i64 en, .int .i64 nu, .int .i64 de, u, .int .i64 re]) :
    (results Tryd.f11 tmps).run Tryd.prog w = .ok (.tuple #[vSess en nu de u re, tmps.getD 3 undef]) w := by
  have c := hb.cells
  have hp2 : tmps[2]?.getD undef = .pointer (some ⟨b, 0, none⟩) := by simpa using hp
  simp [results, Tryd.results11, go_sem, hp2, c]
set_option maxRecDepth 100000 in
set_option maxHeartbeats 4000000 in
theorem draw_BusinessSpans (cv : Value) (bs : List Int) (w : World) (hv : BytesAt w cv bs) (hl : bs.length ≤ 65537) :
    Calls Tryd.prog 11 #[cv] w fun e w' => ∃ en nu de u xs re v ms, e = .returned (.tuple #[vSess en nu de u re, v]) ∧ IntsAt w' u xs ∧ IntsAt w' v ms ∧ xs.length ≤ 40 ∧ ms.length ≤ 30 ∧ Below w.heap.size w w' := by
  obtain ⟨ao, cap, rfl⟩ := hv.1.form
  obtain ⟨W1, hW1⟩ : ∃ W1, W1 = w.alloc (.cells #[.int .i64 0, .int .i64 0, .int .i64 0, .slice none 0 0, .int .i64 0] 28) := ⟨_, rfl⟩
  have bR : BoxAt W1 w.heap.size #[.int .i64 0, .int .i64 0, .int .i64 0, .slice none 0 0, .int .i64 0] := by rw [hW1]; exact BoxAt.new _ _ _
  have hWb : Below w.heap.size w W1 := by rw [hW1]; exact alQ _ _
  have hWs : W1.heap.size = w.heap.size + 1 := by rw [hW1]; simp
  have HV : Hid (BytesAt W1 (.slice ao bs.length cap) bs) := hv.below hWb
  have hc := cur_new (.slice ao bs.length cap) W1
  have HW1 := Lib.hid hW1; have HWs := Lib.hid hWs; have HWb := Lib.hid hWb
  clear hW1 hWs hv
  go_enter Tryd.func11, Tryd.ntmps11
  go_wp2_with fail
  rw [← HW1.out, ← HWs.out]
  have bR2 := bR.below (alQ W1 (.cells #[.slice ao bs.length cap, .int .i64 0, .int .u64 0] 53))
  refine (cur_sessionB W1 _ bs _ 0 _ HV.out hl hc (by omega)).mono ?_
  rintro e w3 ⟨en, nu, de, re, u, xs, rfl, ho, ⟨hx, hen⟩, k3, t3⟩
  obtain ⟨au, ku, rfl⟩ := ho.at_.form
  have bR3 := OutOf.box t3 bR2 (.inl bR.1)
  have hs3 := k3.lt
  have D4 : MvAt W1 (.slice ao bs.length cap) (w3.alloc (.cells #[.int .i64 en, .int .i64 nu, .int .i64 de, .slice au xs.length ku, .int .i64 re] 28)) W1.heap.size (0 + 100) w.heap.size w3.heap.size en nu de re (.slice au xs.length ku) xs (.slice none 0 0) [] (.slice none 0 0) [] :=
    ⟨k3.step (alQ _ _), bR3.below (alQ _ _), BoxAt.new _ _ _, (OwnIn.of (own_base ho (by simp))).keep (below_same (alQ w3 _) (Nat.le_refl _)), ⟨World.ownsRow_nil _ _ 3 1, World.ownsRow_nil _ _ 3 1, .inl rfl⟩, bR.1, hs3⟩
  clear hc bR2 ho bR3 k3 t3
  go_upto_region 3 with fail
  generalize (w3.alloc (.cells #[.int .i64 en, .int .i64 nu, .int .i64 de, .slice au xs.length ku, .int .i64 re] 28)) = w4 at D4 ⊢
  generalize w3.heap.size = s at *
  generalize hbq : W1.heap.size = b at *
  go_wp2_with fail
  refine (cur_one W1 _ bs b _ 2 _ HV.out hl D4.cur (by omega) (by omega)).mono ?_
  rintro e w5 ⟨x, rfl, k5, t5⟩
  have D5 := D4.went k5 t5
  clear D4 k5 t5
  go_upto_if 18 with fail
  go_cut [19] (fun _ wx => ∃ re1, MvAt W1 (.slice ao bs.length cap) wx b (0 + 102) w.heap.size s en nu de re1 (.slice au xs.length ku) xs (.slice none 0 0) [] (.slice none 0 0) [])
  case first =>
    have c5 := D5.box.cells
    have f5 := D5.box.free
    cases x with
    | true =>
      go_wp2_with fail
      go_meet
      exact ⟨0, D5.put 0⟩
    | false =>
      go_wp2_with fail
      go_meet
      exact ⟨re, D5⟩
  case rest =>
    rename World => w6
    obtain ⟨re1, D6⟩ := hcut
    clear D5
    have c6 := D6.box.cells
    have hs6 := D6.box.1
    have D7 := D6.step (alQ w6 (.cells #[] 3))
    go_wp2_with fail
    refine (s_l1Own _ xs _ (OwnIn.at_ D7.own) (by omega)).mono ?_
    rintro e w8 ⟨vn, rfl, hon, hb8⟩
    have D8 : MvAt W1 (.slice ao bs.length cap) w8 b (0 + 102) w.heap.size s en nu de re1 (.slice au xs.length ku) xs vn xs (.slice (some ⟨w6.heap.size, 0, none⟩) 0 0) [] := by
      have hD := D7.step hb8
      exact ⟨hD.cur, hD.res, hD.box, hD.own, Two.fresh (u := .slice none 0 0) (am := []) ⟨World.ownsRow_nil _ _ 3 1, own_base (own_lit0 w6 3) (by omega), .inl rfl⟩ (by simp; omega) hb8 hon, hD.ord⟩
    obtain ⟨aN0, kN0, rfl⟩ := (OwnI.at_ hon).form
    clear D6 D7 c6 hon hb8
    go_wp2_with fail
    refine (cur_pick W1 _ bs b _ 9 _ HV.out hl D8.cur (by omega) (by omega)).mono ?_
    rintro e w9 ⟨x, rfl, x0, x1, x2, k9, t9⟩
    have x1' := x1 (by omega)
    obtain ⟨N, rfl⟩ : ∃ N : Nat, x = N := ⟨x.toNat, by omega⟩
    have D9 := D8.went k9 t9
    clear D8 k9 t9 x1 x2 hs6
    go_wp2_with fail
    go_loopw [6, 7, 8, 9, 10, 11] (fun mv nw i _ _ _ wr => ∃ (ms ns : List Int) (j : Nat), ms.length + j ≤ 8 ∧ ns.length + j ≤ 60 ∧ i = .int .i64 j ∧ MvAt W1 (.slice ao bs.length cap) wr b (0 + 110 + 2 * ms.length) w.heap.size s en nu de re1 (.slice au xs.length ku) xs nw ns mv ms) (fun _ _ i _ _ _ _ => (intOf i).toNat)
    case atStart => exact ⟨[], xs, N, by simp; omega, by omega, rfl, D9.more (by simp)⟩
    case round =>
      rename World => wa
      clear D9 x0 x1'
      obtain ⟨ms, ns, j, hj1, hj2, rfl, M⟩ := hrel
      obtain ⟨aM, kM, rfl⟩ := (OwnI.at_ M.two.2.1).form
      obtain ⟨aN, kN, rfl⟩ := (OwnI.at_ M.two.1).form
      by_cases hj0 : 0 < j
      · have hjI : (0 : Int) < (j : Int) := by omega
        have c := M.box.cells
        go_wp2_with fail
        refine (s_l1Most en 1 _).mono ?_
        rintro e w' ⟨rfl, rfl⟩
        go_wp2_with fail
        refine (cur_pick W1 _ bs b _ (max en 1) _ HV.out hl M.cur (by omega) (by omega)).mono ?_
        rintro e wb ⟨z, rfl, z0, z1, z2, kb, tb⟩
        have z1' : z ≤ 31 := by have := z1 (by omega); omega
        have M6 := M.went kb tb
        clear M c kb tb z1 z2
        go_wp2_with fail
        refine (s_l1Has _ ns (1 + z) _ (OwnI.at_ M6.two.1)).mono ?_
        rintro e w' ⟨rfl, rfl⟩
        cases hh : hasB ns (1 + z) with
        | true =>
          go_wp2_with (at_builtin; refine wpList_push_int2 rfl (.tmp 39) (.tmp 42) _ rfl (s + 1) 3 _ int_info Tryd.underlying22 _ ms _ rfl M6.two.2.1 rfl (by have := M6.box.1; omega) (by omega) ?_; intro uP wP hoP hgP hvP; have M7 := M6.push hoP hgP hvP; obtain ⟨aP, kP, huP⟩ := (OwnI.at_ hoP).form; simp only [List.length_append, List.length_cons, List.length_nil, Nat.zero_add, Nat.reduceAdd] at huP; subst huP)
          have M8 := M7.step (alQ wP (.cells #[] 3))
          go_loopw [10, 11] (fun o i wr => ∃ (os : List Int) (k : Nat), k ≤ ns.length ∧ os.length ≤ k ∧ i = .int .i64 k ∧ OwnInts wr wP.heap.size o os ∧ Below wP.heap.size wP wr) (fun _ i _ => ns.length - (intOf i).toNat)
          case atStart => exact ⟨[], 0, by omega, by simp, rfl, own_lit0 wP 3, alQ _ _⟩
          case round =>
            rename World => wc
            clear M8
            obtain ⟨os, k, hk, hok, rfl, ho, hb⟩ := hrel
            obtain ⟨aO, kO, rfl⟩ := (OwnI.at_ ho).form
            by_cases hlt : k < ns.length
            · have hkI : (k : Int) < (ns.length : Int) := by omega
              obtain ⟨_, _, _, hv, q1, q2, q3⟩ := (OwnI.at_ M7.two.1).below hb
              cases hv
              unfold maxLen at q2
              obtain ⟨bn, on, rfl, h4, h5⟩ := q3 (by omega)
              have d := h5.int hlt
              clear h5 q3
              by_cases hne : ns[k] = 1 + z
              · have hb1 : (ns[k] != 1 + z) = false := by simp [hne]
                generalize ns[k] = y at *
                go_wp2_with fail
                go_roundw
                case rel => exact ⟨os, k + 1, by omega, by omega, by go_num, ho, hb⟩
                case measure => simp [intOf]; omega
              · have hb1 : (ns[k] != 1 + z) = true := by simp [hne]
                generalize ns[k] = y at *
                go_wp2_with (at_builtin; refine wpList_push_int rfl (.tmp 57) (.tmp 62) _ rfl wP.heap.size 3 _ int_info Tryd.underlying22 _ os y rfl ho rfl hb.size (by omega) ?_; intro u7 w7 ho7 hb7)
                go_roundw
                case rel => exact ⟨os ++ [y], k + 1, by omega, by simp; omega, by go_num, ho7, hb.trans hb7⟩
                case measure => simp [intOf]; omega
            · have hkI : ¬ (k : Int) < (ns.length : Int) := by omega
              have M9 := M7.now hb ho
              clear M7 hh
              go_wp2_with fail
              go_roundw
              case rel => exact ⟨ms ++ [_], os, j - 1, by simp; omega, by omega, by congr 1; omega, M9.more (by simp; omega)⟩
              case measure => simp [intOf]; omega
        | false =>
          have HH := Lib.hid hh
          clear hh
          go_wp2_with (at_builtin; refine wpList_push_int2 rfl (.tmp 65) (.tmp 67) _ rfl (s + 1) 3 _ int_info Tryd.underlying22 _ ms _ rfl M6.two.2.1 rfl (by have := M6.box.1; omega) (by omega) ?_; intro uP wP hoP hgP hvP; have M7 := M6.push hoP hgP hvP; obtain ⟨aP, kP, huP⟩ := (OwnI.at_ hoP).form; simp only [List.length_append, List.length_cons, List.length_nil, Nat.zero_add, Nat.reduceAdd] at huP; subst huP)
          refine (s_l1Put _ ns (1 + z) _ (OwnI.at_ M7.two.1) (by omega) HH.out).mono ?_
          rintro e w8 ⟨vn8, rfl, hon8, hb8⟩
          have M8 := M7.now hb8 hon8
          have hpl := putL_len (1 + z) ns
          clear M7 hon8 hb8
          go_wp2_with fail
          go_roundw
          case rel => exact ⟨ms ++ [_], putL (1 + z) ns, j - 1, by simp; omega, by omega, by congr 1; omega, M8.more (by simp; omega)⟩
          case measure => simp [intOf]; omega
      · have hjI : ¬ (0 : Int) < (j : Int) := by omega
        have hml : ms.length ≤ 8 := by omega
        go_wp2_with fail
        refine (cur_pick W1 _ bs b _ 24 _ HV.out hl M.cur (by omega) (by omega)).mono ?_
        rintro e wb ⟨x, rfl, x0, x1, x2, kb, tb⟩
        have M6 := M.went kb tb
        clear M kb tb x1 x2 hj1 hj2
        by_cases c0 : x = 0
        · subst c0
          go_wp2_with (first
          | (go_at_call 35; refine (cur_among W1 _ bs b _ _ [0, 1, -1, 31, -31] _ HV.out hl ((M6.step (alQ _ _)).cur) (by omega) (own_base (own_litL _ 3 [0, 1, -1, 31, -31] (by simp)) (by have := M6.cur.lt; omega)) (by simp) (by simp)).mono ?_; rintro e w7 ⟨y, rfl, hy, k7, t7⟩; have M7 := (M6.step (alQ _ _)).went k7 t7)
          | (at_builtin; refine wpList_push_int2 rfl (.tmp 76) (.tmp 80) _ rfl (s + 1) 3 _ int_info Tryd.underlying22 _ ms y rfl M7.two.2.1 rfl (by have := M7.box.1; omega) (by omega) ?_; intro uP wP hoP hgP hvP; have M8 := M7.push hoP hgP hvP; obtain ⟨aP, kP, huP⟩ := (OwnI.at_ hoP).form; simp only [List.length_append, List.length_cons, List.length_nil, Nat.zero_add, Nat.reduceAdd] at huP; subst huP; have cE := M8.box.cells; have rz := M8.res.cells; have rf := M8.res.free; have hqE : s ≠ w.heap.size := by have := M8.ord; omega))
          obtain ⟨BX, OX⟩ := box5 (.int .i64 en) (.int .i64 nu) (.int .i64 de) (.slice au xs.length ku) (.int .i64 re1) M8.res
          have hL := MvAt.last (w := w) M8 HWb.out OX
          try simp only [Exit.inBlock, Exit.then]
          refine bodyPost_ret (v := .tuple #[vSess en nu de (.slice au xs.length ku) re1, .slice aP (ms.length + 1) kP]) ?_ rfl ?_
          · exact res_sess _ _ w.heap.size en nu de re1 (.slice au xs.length ku) rfl BX
          · exact ⟨en, nu, de, _, xs, re1, _, ms ++ [y], rfl, hL.1, hL.2.1, hx, by simp; omega, hL.2.2⟩
        · have xb0 : (x == 0) = false := by simp [c0]
          by_cases c1 : x = 1
          · subst c1
            go_wp2_with fail
            go_loopw [6] (fun mv wr => ∃ (ys : List Int), ys.length ≤ 22 ∧ (∃ a k, mv = .slice a ys.length k) ∧ MvAt W1 (.slice ao bs.length cap) wr b (0 + 200 + 2 * ys.length) w.heap.size s en nu de re1 (.slice au xs.length ku) xs (.slice aN ns.length kN) ns mv ys) (fun mv _ => 22 - slenQ mv)
            case atStart => exact ⟨ms, by omega, ⟨_, _, rfl⟩, M6.more (by omega)⟩
            case round =>
              rename World => wc
              clear M6
              obtain ⟨ys, hyl, ⟨aM, kM, rfl⟩, M5⟩ := hrel
              go_wp2_with fail
              refine (cur_pick W1 _ bs b _ 2 _ HV.out hl M5.cur (by omega) (by omega)).mono ?_
              rintro e wd ⟨z, rfl, z0, z1, z2, kd, td⟩
              have z1' := z1 (by omega)
              have M6 := M5.went kd td
              clear M5 kd td z1 z2
              by_cases hlt : (ys.length : Int) < 20 + z
              · go_wp2_with (at_builtin; refine wpList_push_pair rfl (.tmp 90) (.tmp 91) _ rfl (s + 1) 3 int_info Tryd.underlying22 _ ys 1 (-1) rfl M6.two.2.1 rfl (by have := M6.box.1; omega) (by omega) ?_; intro uP wP hoP hgP hvP; have M7 := M6.push hoP hgP hvP; obtain ⟨aP, kP, huP⟩ := (OwnI.at_ hoP).form; simp only [List.length_append, List.length_cons, List.length_nil, Nat.zero_add, Nat.reduceAdd] at huP; subst huP)
                go_roundw
                case rel => exact ⟨ys ++ [1, -1], by simp; omega, ⟨aP, kP, by simp⟩, M7.more (by simp; omega)⟩
                case measure => simp only [slenQ]; omega
              · have hyl2 : ys.length ≤ 30 := by omega
                have cE := M6.box.cells
                have rz := M6.res.cells
                have rf := M6.res.free
                obtain ⟨BX, OX⟩ := box5 (.int .i64 en) (.int .i64 nu) (.int .i64 de) (.slice au xs.length ku) (.int .i64 re1) M6.res
                have hqE : s ≠ w.heap.size := by have := M6.ord; omega
                go_wp2_with fail
                have hL := MvAt.last (w := w) M6 HWb.out OX
                try simp only [Exit.inBlock, Exit.then]
                refine bodyPost_ret (v := .tuple #[vSess en nu de (.slice au xs.length ku) re1, .slice aM ys.length kM]) ?_ rfl ?_
                · exact res_sess _ _ w.heap.size en nu de re1 (.slice au xs.length ku) rfl BX
                · exact ⟨en, nu, de, _, xs, re1, _, ys, rfl, hL.1, hL.2.1, hx, by omega, hL.2.2⟩
          · have xb1 : (x == 1) = false := by simp [c1]
            have cE := M6.box.cells
            have rz := M6.res.cells
            have rf := M6.res.free
            obtain ⟨BX, OX⟩ := box5 (.int .i64 en) (.int .i64 nu) (.int .i64 de) (.slice au xs.length ku) (.int .i64 re1) M6.res
            have hqE : s ≠ w.heap.size := by have := M6.ord; omega
            go_wp2_with fail
            have hL := MvAt.last (w := w) M6 HWb.out OX
            try simp only [Exit.inBlock, Exit.then]
            refine bodyPost_ret (v := .tuple #[vSess en nu de (.slice au xs.length ku) re1, .slice aM ms.length kM]) ?_ rfl ?_
            · exact res_sess _ _ w.heap.size en nu de re1 (.slice au xs.length ku) rfl BX
            · exact ⟨en, nu, de, _, xs, re1, _, ms, rfl, hL.1, hL.2.1, hx, by omega, hL.2.2⟩

end Go.Proofs.YtjijcjcfefkpbaaDoor
