/- Contracts: SharedPairs, the reference's and the program's. No conditions beyond sizes. -/
import Derived.Test.YtpjmcjdnobihbaaStrT
import Derived.Test.YtpjmcjdnobihbaaCommF
namespace Go.Proofs.Ytpjmcjdnobihbaa
open Go.RowKit
set_option linter.unusedVariables false
set_option linter.unusedSimpArgs false

theorem NestAt.tail {α : Type} {f : Value → α → List Value} {ord : α → List Int} {size : Nat} (hsz : ∀ u x, (f u x).length = size) {w : World} {ao : Option Addr} {cap k : Nat} {xs : List α} (h : NestAt f ord size w (.slice ao xs.length cap) xs) (hk : k ≤ xs.length) :
    NestAt f ord size w (.slice (if cap = k then ao else ao.map (·.add (k * size))) (xs.drop k).length (cap - k)) (xs.drop k) := by
  obtain ⟨es, he, h2, h3⟩ := h
  have hel : es.length = xs.length := by rw [← he]; simp
  rw [hel] at h2
  have h4 := h2.tail hk
  have hd : (es.drop k).map Prod.snd = xs.drop k := by rw [List.map_drop, he]
  have hf : (ncs f es).drop (k * size) = ncs f (es.drop k) := by
    have e : ncs f es = ncs f (es.take k) ++ ncs f (es.drop k) := by
      unfold ncs
      rw [← List.flatMap_append, List.take_append_drop]
    have el : (ncs f (es.take k)).length = k * size := by
      rw [show ncs f (es.take k) = (es.take k).flatMap (fun p => f p.1 p.2) from rfl, flatm_len (fun p : Value × α => f p.1 p.2) size (fun p => hsz _ _), List.length_take, Nat.min_eq_left (by omega)]
    rw [e, List.drop_left' el]
  rw [hf] at h4
  refine ⟨es.drop k, hd, ?_, fun p hp => h3 p (List.mem_of_mem_drop hp)⟩
  rw [List.length_drop, List.length_drop, hel]
  exact h4

theorem NestAt.capLe {α : Type} {f : Value → α → List Value} {ord : α → List Int} {size : Nat} {w : World} {ao : Option Addr} {cap : Nat} {xs : List α} (h : NestAt f ord size w (.slice ao xs.length cap) xs) : xs.length ≤ cap := by
  obtain ⟨es, he, h2, h3⟩ := h
  have hel : es.length = xs.length := by rw [← he]; simp
  obtain ⟨_, ao', cap', hv, h4, h5, _⟩ := h2
  injection hv with e1 e2 e3
  omega
/-- The first m pairs of the committee i with later ones. -/
def rowP (xs : List DCommittee) (i : Nat) : Nat → List (List ByteArray)
  | 0 => []
  | j + 1 => if shareB (xs.getD i commZ) (xs.getD (i + 1 + j) commZ) = true then rowP xs i j ++ [[(xs.getD i commZ).name, (xs.getD (i + 1 + j) commZ).name]] else rowP xs i j
def pairL (xs : List DCommittee) : Nat → List (List ByteArray)
  | 0 => []
  | i + 1 => pairL xs i ++ rowP xs i (xs.length - (i + 1))
def pairsV (xs : List DCommittee) : List (List ByteArray) × Bool := if commsOk xs then (pairL xs xs.length, true) else ([], false)
theorem rowP_bd (xs : List DCommittee) (i m : Nat) : (rowP xs i m).length ≤ m ∧ ∀ r ∈ rowP xs i m, r.length ≤ 2 := by
  induction m with
  | zero => simp [rowP]
  | succ m ih =>
    simp only [rowP]
    split
    · refine ⟨by simp; omega, fun r hr => ?_⟩
      rcases List.mem_append.1 hr with hr | hr
      · exact ih.2 r hr
      · have : r = _ := List.mem_singleton.1 hr
        subst this; simp
    · exact ⟨by omega, ih.2⟩
theorem pairL_bd (xs : List DCommittee) (k : Nat) : (pairL xs k).length ≤ k * xs.length ∧ ∀ r ∈ pairL xs k, r.length ≤ 2 := by
  induction k with
  | zero => simp [pairL]
  | succ k ih =>
    have h := rowP_bd xs k (xs.length - (k + 1))
    refine ⟨?_, fun r hr => ?_⟩
    · simp only [pairL, List.length_append, Nat.succ_mul]
      omega
    · rcases List.mem_append.1 hr with hr | hr
      · exact ih.2 r hr
      · exact h.2 r hr
theorem pairsV_len (xs : List DCommittee) : Sn.lenSum (pairsV xs).1 ≤ 4000000 := by
  unfold pairsV
  split
  · rename_i hok
    have h8 := commsOk_len hok
    have h := pairL_bd xs xs.length
    have h1 := sumG_le (cnt := List.length) (m := 2) h.2
    have h2 : xs.length * xs.length ≤ 8 * 8 := Nat.mul_le_mul h8 h8
    have h3 := h.1
    show sumG List.length (pairL xs xs.length) ≤ _
    omega
  · simp [sumG]
theorem rowP_on {xs : List DCommittee} {i j : Nat} (h : shareB (xs.getD i commZ) (xs.getD (i + 1 + j) commZ) = true) : rowP xs i (j + 1) = rowP xs i j ++ [[(xs.getD i commZ).name, (xs.getD (i + 1 + j) commZ).name]] := by simp only [rowP]; rw [if_pos h]
theorem rowP_off {xs : List DCommittee} {i j : Nat} (h : shareB (xs.getD i commZ) (xs.getD (i + 1 + j) commZ) = false) : rowP xs i (j + 1) = rowP xs i j := by simp only [rowP]; rw [if_neg (by rw [h]; simp)]

theorem tail_get {w : World} {bc off cap k : Nat} {xs : List DCommittee} (h : NestAt ccell DCommittee.members 3 w (.slice (Option.map (fun x : Addr => x.add ((k + 1) * 3)) (some (⟨bc, off, none⟩ : Addr))) (xs.drop (k + 1)).length (cap - (k + 1))) (xs.drop (k + 1))) {w' : World} (hb : Below w.heap.size w w') {j : Nat} (hj : j < xs.length - (k + 1)) :
    ∃ u, bc < w'.heap.size ∧ IntsAt w' u (xs.getD (k + 1 + j) commZ).members ∧ w'.cell? ⟨bc, off + (k + 1) * 3 + j * 3, none⟩ = some (.string (xs.getD (k + 1 + j) commZ).name) ∧ w'.cell? ⟨bc, off + (k + 1) * 3 + j * 3 + 1, none⟩ = some u ∧ w'.cell? ⟨bc, off + (k + 1) * 3 + j * 3 + 2, none⟩ = some (.int .i64 (xs.getD (k + 1 + j) commZ).head) := by
  have hj' : j < (xs.drop (k + 1)).length := by rw [List.length_drop]; exact hj
  obtain ⟨b, off', u, h1, h2, h3, h4, h5, h6⟩ := CommsAt.get (CommsAt.below h hb) hj'
  have hx : (xs.drop (k + 1))[j] = xs.getD (k + 1 + j) commZ := by rw [getD_c (by omega), List.getElem_drop]
  rw [hx] at h3 h4 h6
  simp only [Option.map_some, Addr.add_lit, Option.some.injEq, Addr.mk.injEq] at h1
  obtain ⟨rfl, rfl, _⟩ := h1
  exact ⟨u, h2, h3, h4, h5, h6⟩
theorem below_trans0 {B : Nat} {w0 w w' : World} (h : Below B w0 w) (h' : Below B w w') : Below B w0 w' := h.trans h'
theorem box_push {b : Nat} {cs : Array Value} {w0 w w' : World} {v v' : Value} (h : BoxAt w b cs) (hne : some b ≠ v.ownBlock) (hb : Below w0.heap.size w0 w) (hg : w.grownBy w' v.ownBlock) (hv : v'.ownBlock = v.ownBlock ∨ ∃ c, v'.ownBlock = some c ∧ w.heap.size ≤ c) : BoxAt w' b cs ∧ some b ≠ v'.ownBlock := by
  refine ⟨⟨by have := h.1; have := hg.size; omega, fun i => (World.cell?_of_block (w := w) (a := ⟨b, i, none⟩) (hg.block b h.1 hne)).trans (h.2.1 i), fun i => (World.frozen?_of_block (w := w) (a := ⟨b, i, none⟩) (hg.block b h.1 hne)).trans (h.2.2 i)⟩, ?_⟩
  rcases hv with h1 | ⟨c, h1, h2⟩
  · rw [h1]; exact hne
  · rw [h1]; intro e; injection e with e; have := h.1; omega
theorem own_pair (w : World) (B : Nat) (x y : ByteArray) (hB : B ≤ w.heap.size) : Sn.OwnI 9 (w.alloc (.cells #[.string x, .string y] 9)) B (.slice (some ⟨w.heap.size, 0, none⟩) 2 2) [x, y] := by
  have h := World.ownsRow_lit (base := w.heap.size) (e := 9) (size := 1) w #[.string x, .string y] 2 (Nat.le_refl _) (by unfold maxLen; omega) (by simp)
  exact own_base (by simpa [strs] using h) hB
set_option maxRecDepth 100000 in
set_option maxHeartbeats 2000000 in
theorem i_SharedPairs (v : Value) (xs : List DCommittee) (w : World) (h : CommsAt w v xs) (hn : CommsLe xs) :
    Calls Try.prog 10 #[v] w fun e w' => ∃ u, e = .returned (.tuple #[u, .bool (pairsV xs).2]) ∧ Sn.OwnTab w' w.heap.size u (pairsV xs).1 ∧ Below w.heap.size w w' := by
  have HQ := i_AreCommittees v xs w h hn
  obtain ⟨ao, cap, rfl⟩ := h.form
  cases hok : commsOk xs with
  | false =>
    have HR : pairsV xs = ([], false) := by simp [pairsV, hok]
    rw [HR]
    rw [hok] at HQ
    have HQ' := Lib.hid HQ; clear HQ hok HR
    go_enter Try.func10, Try.ntmps10
    go_wp2_with (go_at_call 23; refine HQ'.out.mono ?_; rintro e w1 ⟨rfl, hb1⟩)
    go_ret2
    exact ⟨_, rfl, Sn.OwnNest.nil _ _ _ _, hb1⟩
  | true =>
    have hx := commsOk_len hok
    have HR : pairsV xs = (pairL xs xs.length, true) := by simp [pairsV, hok]
    rw [HR]
    rw [hok] at HQ
    have HQ' := Lib.hid HQ; clear HQ hok HR
    go_enter Try.func10, Try.ntmps10
    go_wp2_with (go_at_call 23; refine HQ'.out.mono ?_; rintro e w1 ⟨rfl, hb1⟩)
    have ho1 : Sn.OwnTab (w1.alloc (.cells #[] 34)) w.heap.size (.slice (some ⟨w1.heap.size, 0, none⟩) 0 0) (pairL xs 0) := Sn.OwnNest.base (Sn.OwnNest.lit _ _ w1) hb1.size
    have hb1' : Below w.heap.size w (w1.alloc (.cells #[] 34)) := hb1.alloc hb1.size _
    go_loopw [4, 15] (fun o i wr => ∃ k : Nat, k ≤ xs.length ∧ i = .int .i64 k ∧ Sn.OwnTab wr w.heap.size o (pairL xs k) ∧ Below w.heap.size w wr) (fun _ i _ => xs.length - (intOf i).toNat)
    case atStart => exact ⟨0, by omega, rfl, ho1, hb1'⟩
    case round =>
      clear ho1 hb1'
      rename World => wa
      obtain ⟨k, hk, rfl, ho, hb⟩ := hrel
      obtain ⟨oo, oc, hof⟩ := ho.at_.form
      by_cases hlt : k < xs.length
      · obtain ⟨bc, off, u, hao, hbl, hui, c0', c1', c2'⟩ := CommsAt.get h hlt
        subst hao
        obtain ⟨ua, uk, rfl⟩ := hui.form
        have c0 := (hb.cell (p := ⟨bc, off + k * 3, none⟩) hbl).trans c0'
        have c1 := (hb.cell (p := ⟨bc, off + k * 3 + 1, none⟩) hbl).trans c1'
        have c2 := (hb.cell (p := ⟨bc, off + k * 3 + 2, none⟩) hbl).trans c2'
        clear c0' c1' c2'
        have hcp := NestAt.capLe h
        have hk1 : k + 1 ≤ xs.length := hlt
        have i0 : (0 : Int) ≤ (k : Int) + 1 := by omega
        have i1 : (k : Int) + 1 ≤ (xs.length : Int) := by omega
        have i2 : IntKind.i64.wrap ((k : Int) + 1) = (k : Int) + 1 := IntWalk.i64_in _ (by omega)
        by_cases hl1 : k + 1 < xs.length
        · have hck : ¬ cap = k + 1 := by omega
          have HT := NestAt.tail (f := ccell) (ord := DCommittee.members) (size := 3) (fun _ _ => rfl) h hk1
          rw [if_neg hck] at HT
          have HT' := Lib.hid HT; clear HT
          obtain ⟨a, ha⟩ : ∃ a, a = xs[k] := ⟨_, rfl⟩
          rw [← ha] at c0 c1 c2 hui
          have HA := Lib.hid ha; clear ha
          obtain ⟨W, hW2⟩ : ∃ W, W = wa.alloc (.cells #[.string a.name, .slice ua a.members.length uk, .int .i64 a.head] 40) := ⟨_, rfl⟩
          have bA : BoxAt W wa.heap.size #[.string a.name, .slice ua a.members.length uk, .int .i64 a.head] := by rw [hW2]; exact BoxAt.new _ _ _
          have hbW : Below wa.heap.size wa W := by rw [hW2]; exact (Below.refl _ _).alloc (Nat.le_refl _) _
          have HW2 := Lib.hid hW2; clear hW2
          have hoW : Sn.OwnTab W w.heap.size u4 (pairL xs k) := ho.below hbW
          go_wp2_with fail
          rw [← HW2.out]
          have HNX : Hid (pairL xs (k + 1) = pairL xs k ++ rowP xs k (xs.length - (k + 1))) := rfl
          have HPB := Lib.hid (fun j => rowP_bd xs k j)
          have HPL := Lib.hid (pairL_bd xs k)
          have hoW' : Sn.OwnTab W w.heap.size u4 (pairL xs k ++ rowP xs k 0) := by simpa [rowP] using hoW
          have hne : some wa.heap.size ≠ u4.ownBlock := Sn.nest_blk ho
          have hbwW : Below w.heap.size w W := below_step hb hbW
          clear hoW ho c0 c1 c2
          go_loopw [4, 25] (fun o i wr => ∃ j : Nat, j ≤ xs.length - (k + 1) ∧ i = .int .i64 j ∧ Sn.OwnTab wr w.heap.size o (pairL xs k ++ rowP xs k j) ∧ BoxAt wr wa.heap.size #[.string a.name, .slice ua a.members.length uk, .int .i64 a.head] ∧ some wa.heap.size ≠ o.ownBlock ∧ Below w.heap.size w wr) (fun _ i _ => (xs.length - (k + 1)) - (intOf i).toNat)
          case atStart => exact ⟨0, by omega, rfl, hoW', bA, hne, hbwW⟩
          case round =>
            rename World => wb
            clear hoW' bA hne
            obtain ⟨j, hj, rfl, ho, bA, hne, hbr⟩ := hrel
            by_cases hlt2 : j < xs.length - (k + 1)
            · obtain ⟨u', hbl', hu', d0, d1, d2⟩ := tail_get HT'.out hbr hlt2
              obtain ⟨ub, kb, rfl⟩ := hu'.form
              have hon := fun (hs : shareB (xs.getD k commZ) (xs.getD (k + 1 + j) commZ) = true) => rowP_on hs
              have hoff := fun (hs : shareB (xs.getD k commZ) (xs.getD (k + 1 + j) commZ) = false) => rowP_off hs
              rw [getD_c hlt, ← HA.out] at hon hoff
              obtain ⟨b, hbE⟩ : ∃ b, b = xs.getD (k + 1 + j) commZ := ⟨_, rfl⟩
              rw [← hbE] at hu' d0 d1 d2 hon hoff
              obtain ⟨W3, hW3⟩ : ∃ W3, W3 = wb.alloc (.cells #[.string b.name, .slice ub b.members.length kb, .int .i64 b.head] 40) := ⟨_, rfl⟩
              have hb3 : Below wb.heap.size wb W3 := by rw [hW3]; exact (Below.refl _ _).alloc (Nat.le_refl _) _
              have bB : BoxAt W3 wb.heap.size #[.string b.name, .slice ub b.members.length kb, .int .i64 b.head] := by rw [hW3]; exact BoxAt.new _ _ _
              have a0 := (bA.alloc (.cells #[.string b.name, .slice ub b.members.length kb, .int .i64 b.head] 40)).cells
              have bA3 : BoxAt W3 wa.heap.size #[.string a.name, .slice ua a.members.length uk, .int .i64 a.head] := bA.below hb3
              have hq := i_share _ _ a b W3 ((hui.below hbr).below hb3) (hu'.below hb3)
              have HW3 := Lib.hid hW3; clear hW3 hbE
              have hlen : (pairL xs k ++ rowP xs k j).length ≤ 4000000 := by
                have h1 := HPL.out.1; have h2 := (HPB.out j).1
                have h3 : k * xs.length ≤ 8 * 8 := Nat.mul_le_mul (by omega) hx
                rw [List.length_append]; omega
              cases hsh : shareB a b with
              | true =>
                rw [hsh] at hq
                have HQ2 := Lib.hid hq; clear hq
                have HN2 := Lib.hid (hon hsh); clear hon hoff hsh
                go_wp2_with fail
                rw [← HW3.out]
                refine HQ2.out.mono ?_
                rintro e w4 ⟨rfl, hb4⟩
                have bA4' := bA3.below hb4
                have bA4 := bA4'.cells
                have bB4 := (bB.below hb4).cells
                have hb04 : Below wb.heap.size wb w4 := below_step hb3 hb4
                have HOP := Lib.hid (own_pair w4 wb.heap.size a.name b.name hb04.size)
                have hb05 : Below wb.heap.size wb (w4.alloc (.cells #[.string a.name, .string b.name] 9)) := hb04.alloc hb04.size _
                have hB : w.heap.size ≤ wb.heap.size := hbr.size
                have HX : Hid (Value.slice (some ⟨w4.heap.size + 1, 0, none⟩) 1 1 = Value.slice (some ⟨(w4.alloc (.cells #[.string a.name, .string b.name] 9)).heap.size, 0, none⟩) 1 1) := by simp [Hid]
                clear a0
                go_wp2_with (at_builtin; refine Sn.wpList_push_nest0 (f := Sn.tcell) (ord := id) (size := 1) rfl (.tmp 32) (.tmp 38) _ rfl (fun _ _ => rfl) w.heap.size 34 9 _ _ 24 Sn.strs_info Try.underlying30 rfl (by omega) (by omega) _ (pairL xs k ++ rowP xs k j) _ [a.name, b.name] _ rfl wb ho hb05 HOP.out rfl (by simp [Sn.tcell, Value.oneCell']) HX.out hB hlen ?_; intro v' w' k1 k4 k2 k3; have kbx := box_push (bA4'.alloc (.cells #[.string a.name, .string b.name] 9)) hne hb05 k2 k3; clear k2 k3)
                go_roundw
                case rel => exact ⟨j + 1, by omega, by go_num, by rw [HN2.out, ← List.append_assoc]; exact k1, kbx.1, kbx.2, (hbr.trans (hb05.mono hB)).trans k4⟩
                case measure => simp [intOf]; omega
              | false =>
                rw [hsh] at hq
                have HQ2 := Lib.hid hq; clear hq
                have HN2 := Lib.hid (hoff hsh); clear hon hoff hsh
                go_wp2_with fail
                rw [← HW3.out]
                refine HQ2.out.mono ?_
                rintro e w4 ⟨rfl, hb4⟩
                have hb04 : Below wb.heap.size wb w4 := below_step hb3 hb4
                have ho4 := Sn.OwnNest.below ho hb04
                go_wp2_with fail
                go_roundw
                case rel => exact ⟨j + 1, by omega, by go_num, by rw [HN2.out]; exact ho4, bA3.below hb4, hne, below_step hbr hb04⟩
                case measure => simp [intOf]; omega
            · obtain rfl : j = xs.length - (k + 1) := by omega
              go_wp2_with fail
              go_roundw
              case rel => exact ⟨k + 1, by omega, by go_num, by rw [HNX.out]; exact ho, hbr⟩
              case measure => simp [intOf]; omega
        · have hnx : pairL xs (k + 1) = pairL xs k := by
            have e : xs.length - (k + 1) = 0 := by omega
            simp only [pairL, e, rowP, List.append_nil]
          have HNX := Lib.hid hnx; clear hnx
          have hz : ¬ 0 < xs.length - (k + 1) := by omega
          have hal := fun o => (Below.refl wa.heap.size wa).alloc (Nat.le_refl _) o
          clear hof
          by_cases hce : cap = k + 1
          · have hck : (cap = k + 1) = True := by simp [hce]
            clear hce
            go_wp2_with fail
            go_loopw [4, 25] (fun o i wr => i = .int .i64 0 ∧ Sn.OwnTab wr w.heap.size o (pairL xs k) ∧ Below w.heap.size w wr) (fun _ _ _ => 0)
            case atStart => exact ⟨rfl, ho.below (hal _), below_step hb (hal _)⟩
            case round =>
              clear ho hb
              obtain ⟨rfl, ho3, hb3⟩ := hrel
              go_wp2_with fail
              go_roundw
              case rel => exact ⟨k + 1, by omega, by go_num, by rw [HNX.out]; exact ho3, hb3⟩
              case measure => simp [intOf]; omega
          · have hck : ¬ cap = k + 1 := hce
            clear hce
            go_wp2_with fail
            go_loopw [4, 25] (fun o i wr => i = .int .i64 0 ∧ Sn.OwnTab wr w.heap.size o (pairL xs k) ∧ Below w.heap.size w wr) (fun _ _ _ => 0)
            case atStart => exact ⟨rfl, ho.below (hal _), below_step hb (hal _)⟩
            case round =>
              clear ho hb
              obtain ⟨rfl, ho3, hb3⟩ := hrel
              go_wp2_with fail
              go_roundw
              case rel => exact ⟨k + 1, by omega, by go_num, by rw [HNX.out]; exact ho3, hb3⟩
              case measure => simp [intOf]; omega
      · obtain rfl : k = xs.length := by omega
        go_wp2_with fail
        go_ret2
        exact ⟨_, rfl, ho, hb⟩

set_option maxRecDepth 100000 in
set_option maxHeartbeats 2000000 in
theorem s_SharedPairs (v : Value) (xs : List DCommittee) (w : World) (h : CommsAt w v xs) (hn : CommsLe xs) :
    Calls Try.prog 11 #[v] w fun e w' => ∃ u, e = .returned (.tuple #[u, .bool (pairsV xs).2]) ∧ Sn.OwnTab w' w.heap.size u (pairsV xs).1 ∧ Below w.heap.size w w' := by
  obtain ⟨W, hW⟩ : ∃ W, W = w.alloc (.cells #[] 34) := ⟨_, rfl⟩
  have hWb : Below w.heap.size w W := by rw [hW]; exact (Below.refl _ _).alloc (Nat.le_refl _) _
  have ho0 : Sn.OwnTab W w.heap.size (.slice (some ⟨w.heap.size, 0, none⟩) 0 0) [] := by rw [hW]; exact Sn.OwnNest.lit _ _ w
  have HW := Lib.hid hW; clear hW
  have HQ := s_l15Good v xs W (h.below hWb) hn
  obtain ⟨ao, cap, rfl⟩ := h.form
  cases hok : commsOk xs with
  | false =>
    have HR : pairsV xs = ([], false) := by simp [pairsV, hok]
    rw [HR]
    rw [hok] at HQ
    have HQ' := Lib.hid HQ; clear HQ hok HR
    go_enter Try.func11, Try.ntmps11
    go_wp2_with fail
    rw [← HW.out]
    refine HQ'.out.mono ?_
    rintro e w1 ⟨rfl, hb1⟩
    go_wp2_with fail
    go_ret2
    exact ⟨_, rfl, Sn.OwnNest.below ho0 hb1, below_step hWb hb1⟩
  | true =>
    have hx := commsOk_len hok
    have HR : pairsV xs = (pairL xs xs.length, true) := by simp [pairsV, hok]
    rw [HR]
    rw [hok] at HQ
    have HQ' := Lib.hid HQ; clear HQ hok HR
    go_enter Try.func11, Try.ntmps11
    go_wp2_with fail
    rw [← HW.out]
    refine HQ'.out.mono ?_
    rintro e w1 ⟨rfl, hb1⟩
    have ho1 : Sn.OwnTab w1 w.heap.size (.slice (some ⟨w.heap.size, 0, none⟩) 0 0) (pairL xs 0) := Sn.OwnNest.below ho0 hb1
    have hb1' := below_step hWb hb1
    go_wp2_with fail
    go_loopw [4, 5] (fun o i wr => ∃ k : Nat, k ≤ xs.length ∧ i = .int .i64 k ∧ Sn.OwnTab wr w.heap.size o (pairL xs k) ∧ Below w.heap.size w wr) (fun _ i _ => xs.length - (intOf i).toNat)
    case atStart => exact ⟨0, by omega, rfl, ho1, hb1'⟩
    case round =>
      clear ho1 ho0
      rename World => wa
      obtain ⟨k, hk, rfl, ho, hb⟩ := hrel
      by_cases hlt : k < xs.length
      · have HNX : Hid (pairL xs (k + 1) = pairL xs k ++ rowP xs k (xs.length - (k + 1))) := rfl
        have HPB := Lib.hid (fun j => rowP_bd xs k j)
        have HPL := Lib.hid (pairL_bd xs k)
        have ho' : Sn.OwnTab wa w.heap.size u4 (pairL xs k ++ rowP xs k 0) := by simpa [rowP] using ho
        have i2 : IntKind.i64.wrap ((k : Int) + 1) = (k : Int) + 1 := IntWalk.i64_in _ (by omega)
        clear ho
        go_wp2_with fail
        go_loopw [4, 6] (fun o i wr => ∃ j : Nat, j ≤ xs.length - (k + 1) ∧ i = .int .i64 ((k + 1 + j : Nat) : Int) ∧ Sn.OwnTab wr w.heap.size o (pairL xs k ++ rowP xs k j) ∧ Below w.heap.size w wr) (fun _ i _ => xs.length - (intOf i).toNat)
        case atStart => exact ⟨0, by omega, by go_num, ho', hb⟩
        case round =>
          rename World => wb
          clear ho'
          obtain ⟨j, hj, rfl, ho, hbr⟩ := hrel
          by_cases hlt2 : k + 1 + j < xs.length
          · obtain ⟨m, hm⟩ : ∃ m, m = k + 1 + j := ⟨_, rfl⟩
            have hon := fun (hs : shareB (xs.getD k commZ) (xs.getD (k + 1 + j) commZ) = true) => rowP_on hs
            have hoff := fun (hs : shareB (xs.getD k commZ) (xs.getD (k + 1 + j) commZ) = false) => rowP_off hs
            rw [← hm] at hlt2 hon hoff ⊢
            have HM := Lib.hid hm; clear hm
            rw [getD_c hlt, getD_c hlt2] at hon hoff
            obtain ⟨b0, off0, u9, hbo0, g0, _⟩ := h.get hlt
            obtain ⟨b, off, u0, rfl, g4, g5, c0, c1, c2⟩ := (h.below hbr).get hlt
            simp only [Option.some.injEq, Addr.mk.injEq, and_true] at hbo0
            obtain ⟨rfl, rfl⟩ := hbo0
            obtain ⟨b', off', u1, hbo, g4', g5', e0, e1, e2⟩ := (h.below hbr).get hlt2
            simp only [Option.some.injEq, Addr.mk.injEq, and_true] at hbo
            obtain ⟨rfl, rfl⟩ := hbo
            obtain ⟨a1, k1, rfl⟩ := g5.form
            obtain ⟨a2, k2, rfl⟩ := g5'.form
            have hk0 : (0 : Int) ≤ (k : Int) := by omega
            have hk1 : (k : Int) < (xs.length : Int) := by omega
            have hn0 : (0 : Int) ≤ (m : Int) := by omega
            have hn1 : (m : Int) < (xs.length : Int) := by omega
            have r0 := BW.cell g4 c0; have r1 := BW.cell g4 c1; have r2 := BW.cell g4 c2
            have s0 := BW.cell g4 e0; have s1 := BW.cell g4 e1; have s2 := BW.cell g4 e2
            have hq := fun x : BW wb => s_l15Conflict _ _ xs[k] xs[m] x.w (g5.below x.h) (g5'.below x.h)
            have hlen : (pairL xs k ++ rowP xs k j).length ≤ 4000000 := by
              have h1 := HPL.out.1; have h2 := (HPB.out j).1
              have h3 : k * xs.length ≤ 8 * 8 := Nat.mul_le_mul (by omega) hx
              rw [List.length_append]; omega
            cases hsh : shareB xs[k] xs[m] with
            | true =>
              have HN2 := Lib.hid (hon hsh)
              simp only [hsh] at hq
              have HQ2 := Lib.hid hq
              clear hq hsh hon hoff
              generalize xs[k] = A at *
              generalize xs[m] = B at *
              go_wp2_with fail
              refine wp_region_bw (by kernel_rfl) (by kernel_rfl) ?_
              repeat (first
                | go_big_quiet_skip
                | (go_big_quiet_want; go_big_quiet_op; first | go_big_quiet_on | (apply Exists.intro; refine ⟨fun _ => ?_, ?_⟩; ((go_at_call 37; exact BW.call (HQ2.out _))); go_big_quiet_on)))
              refine wpQuiet_nil ?_
              rintro _ ⟨xq, rfl⟩
              obtain ⟨wc, hxc⟩ := xq
              have f0 := (hxc.cell (p := ⟨b, off + k * 3, none⟩) g4).trans c0
              have f1 := (hxc.cell (p := ⟨b, off + m * 3, none⟩) g4).trans e0
              have ha1 := fun o => hxc.alloc hxc.size o
              have ha2 := fun o o' => (ha1 o).alloc (ha1 o).size o'
              have fa := fun o => (⟨((ha1 o).cell (p := ⟨b, off + k * 3, none⟩) g4).trans c0, ((ha1 o).cell (p := ⟨b, off + m * 3, none⟩) g4).trans e0⟩ : (wc.alloc o).cell? ⟨b, off + k * 3, none⟩ = some (.string A.name) ∧ (wc.alloc o).cell? ⟨b, off + m * 3, none⟩ = some (.string B.name))
              have fb := fun o o' => (⟨((ha2 o o').cell (p := ⟨b, off + k * 3, none⟩) g4).trans c0, ((ha2 o o').cell (p := ⟨b, off + m * 3, none⟩) g4).trans e0⟩ : ((wc.alloc o).alloc o').cell? ⟨b, off + k * 3, none⟩ = some (.string A.name) ∧ ((wc.alloc o).alloc o').cell? ⟨b, off + m * 3, none⟩ = some (.string B.name))
              have HFA := Lib.hid fa; have HFB := Lib.hid fb; clear fa fb ha1 ha2
              have HX : Hid (Value.slice (some ⟨wc.heap.size + 1, 0, none⟩) 1 1 = Value.slice (some ⟨(wc.alloc (.cells #[.string A.name, .string B.name] 9)).heap.size, 0, none⟩) 1 1) := by simp [Hid]
              have hB : w.heap.size ≤ wb.heap.size := hbr.size
              have HOP := Lib.hid (own_pair wc wb.heap.size A.name B.name hxc.size)
              have hb5 : Below wb.heap.size wb (wc.alloc (.cells #[.string A.name, .string B.name] 9)) := hxc.alloc hxc.size _
              have hb5D : Hid (Below wb.heap.size wb (wc.alloc (.cells #[.string A.name, .string B.name] 9)).drew) := Below.drew hb5
              have HOPD : Hid (Sn.OwnI 9 (wc.alloc (.cells #[.string A.name, .string B.name] 9)).drew wb.heap.size (.slice (some ⟨wc.heap.size, 0, none⟩) 2 2) [A.name, B.name]) := HOP.out
              have HO := Lib.hid ho
              clear c0 c1 c2 e0 e1 e2 r0 r1 r2 s0 s1 s2 ho
              go_wp2_with fail
              go_region_held3 (fun w' => w'.cell? ⟨b, off + k * 3, none⟩ = some (.string A.name) ∧ w'.cell? ⟨b, off + m * 3, none⟩ = some (.string B.name)) (first | exact ⟨f0, f1⟩ | exact HFA.out _ | exact HFB.out _ _ | exact hs4) (first
                | ((refine Sn.step_push_nest (w := (wc.alloc (.cells #[.string A.name, .string B.name] 9)).drew) (f := Sn.tcell) (ord := id) (size := 1) (by rfl) (.tmp 35) (.tmp 47) _ (by rfl) (fun _ _ => rfl) w.heap.size 34 9 34 _ 24 Sn.strs_info Try.underlying30 (by rfl) (by omega) (by omega) _ (pairL xs k ++ rowP xs k j) (.slice (some ⟨wc.heap.size, 0, none⟩) 2 2) [A.name, B.name] #[.slice (some ⟨wc.heap.size, 0, none⟩) 2 2] (by rfl) wb HO.out hb5D.out HOPD.out rfl (by simp [Sn.tcell, Value.oneCell']) (by exact HX.out) hB hlen ?_); (intro v4 w4 ho4 hb4 hg4); (have hs4 : w4.cell? ⟨b, off + k * 3, none⟩ = some (.string A.name) ∧ w4.cell? ⟨b, off + m * 3, none⟩ = some (.string B.name) := ⟨(hb4.cell (p := ⟨b, off + k * 3, none⟩) g0).trans (HFA.out _).1, (hb4.cell (p := ⟨b, off + m * 3, none⟩) g0).trans (HFA.out _).2⟩)))
              all_goals go_wp2_with fail
              all_goals go_roundw
              case rel => exact ⟨j + 1, by have := HM.out; omega, by rw [HM.out]; go_num, by rw [HN2.out, ← List.append_assoc]; exact ho4, (hbr.trans (hb5D.out.mono hB)).trans hb4⟩
              case measure => simp [intOf]; omega
            | false =>
              have HN2 := Lib.hid (hoff hsh)
              simp only [hsh] at hq
              have HQ2 := Lib.hid hq
              clear hq hsh hon hoff
              generalize xs[k] = A at *
              generalize xs[m] = B at *
              go_wp2_with fail
              refine wp_region_bw (by kernel_rfl) (by kernel_rfl) ?_
              repeat (first
                | go_big_quiet_skip
                | (go_big_quiet_want; go_big_quiet_op; first | go_big_quiet_on | (apply Exists.intro; refine ⟨fun _ => ?_, ?_⟩; ((go_at_call 37; exact BW.call (HQ2.out _))); go_big_quiet_on)))
              refine wpQuiet_nil ?_
              rintro _ ⟨xq, rfl⟩
              have ho4 := Sn.OwnNest.below ho xq.h
              go_wp2_with fail
              go_roundw
              case rel => exact ⟨j + 1, by have := HM.out; omega, by rw [HM.out]; go_num, by rw [HN2.out]; exact ho4, below_step hbr xq.h⟩
              case measure => simp [intOf]; omega
          · obtain rfl : j = xs.length - (k + 1) := by omega
            go_wp2_with fail
            go_roundw
            case rel => exact ⟨k + 1, by omega, by go_num, by rw [HNX.out]; exact ho, hbr⟩
            case measure => simp [intOf]; omega
      · obtain rfl : k = xs.length := by omega
        go_wp2_with fail
        go_ret2
        exact ⟨_, rfl, ho, hb⟩

end Go.Proofs.Ytpjmcjdnobihbaa
