/- Plain facts on tables of pairs; the program's and the reference's table. No conditions beyond sizes. -/
import Derived.Test.YtfonpkegaeebaaaRankW
import Derived.Test.YtfonpkegaeebaaaRankM
namespace Go.Proofs.Ytfonpkegaeebaaa
open Go.RowKit
set_option linter.unusedVariables false
set_option linter.unusedSimpArgs false

/-! ### rows by a rule -/
def tab (N : Nat) (f : Nat → Int) : List Int := (List.range N).map f
@[simp] theorem tab_len (N : Nat) (f : Nat → Int) : (tab N f).length = N := by simp [tab]
theorem tab_getD {N : Nat} {f : Nat → Int} {m : Nat} (h : m < N) : (tab N f).getD m 0 = f m := by simp [tab, List.getD_eq_getElem?_getD, h]
theorem tab_congr {N : Nat} {f g : Nat → Int} (h : ∀ c, c < N → f c = g c) : tab N f = tab N g := by
  unfold tab
  exact List.map_congr_left (fun c hc => h c (List.mem_range.1 hc))
theorem tab_set {N : Nat} {f : Nat → Int} {m : Nat} {y : Int} (h : m < N) : (tab N f).set m y = tab N (fun c => if c = m then y else f c) := by
  apply List.ext_getElem
  · simp
  · intro i h1 h2
    rw [List.getElem_set]
    simp only [tab, List.getElem_map, List.getElem_range]
    by_cases hi : m = i
    · subst hi; simp
    · rw [if_neg hi, if_neg (fun e => hi e.symm)]
theorem tab_zero (N : Nat) : tab N (fun _ => 0) = List.replicate N 0 := by
  apply List.ext_getElem <;> simp [tab]

/-- Where x stands in a ranking; -1 if it does not. -/
def posR (r : DRanking) (x : Int) : Int := idxFrom (fun y => x == y) 0 r.order
def beatsB (r : DRanking) (a b : Int) : Bool := !(a == b) && decide (posR r a < posR r b)
/-- The weights of the first i rankings in which a stands before b. -/
def partP (rs : List DRanking) (a b : Int) : Nat → Int
  | 0 => 0
  | i + 1 => partP rs a b i + (match rs[i]? with | some r => if beatsB r a b then r.weight else 0 | none => 0)
theorem partP_at {rs : List DRanking} {a b : Int} {i : Nat} (h : i < rs.length) : partP rs a b (i + 1) = partP rs a b i + (if beatsB rs[i] a b then rs[i].weight else 0) := by simp [partP, List.getElem?_eq_getElem h]
theorem partP_on {rs : List DRanking} {a b : Int} {i : Nat} (h : i < rs.length) (hb : beatsB rs[i] a b = true) : partP rs a b (i + 1) = partP rs a b i + rs[i].weight := by rw [partP_at h, if_pos hb]
theorem partP_off {rs : List DRanking} {a b : Int} {i : Nat} (h : i < rs.length) (hb : beatsB rs[i] a b = false) : partP rs a b (i + 1) = partP rs a b i := by rw [partP_at h, hb]; simp
theorem partP_bd {rs : List DRanking} (hw : ∀ r ∈ rs, 1 ≤ r.weight ∧ r.weight ≤ 100) (a b : Int) (i : Nat) : 0 ≤ partP rs a b i ∧ partP rs a b i ≤ 100 * i := by
  induction i with
  | zero => simp [partP]
  | succ i ih =>
    simp only [partP]
    split
    · rename_i r hr
      have := hw r (List.mem_of_getElem? hr)
      split <;> omega
    · omega
def pairRow (N : Nat) (rs : List DRanking) (a : Nat) : List Int := tab N (fun b => partP rs a b rs.length)
def pairT (N : Nat) (rs : List DRanking) : Nat → List (List Int)
  | 0 => []
  | a + 1 => pairT N rs a ++ [pairRow N rs a]
@[simp] theorem pairT_len (N : Nat) (rs : List DRanking) (a : Nat) : (pairT N rs a).length = a := by
  induction a with
  | zero => rfl
  | succ a ih => simp [pairT, ih]

/-! ### the program's way: column by column -/
def colIt (rs : List DRanking) (a b i : Nat) (c : Nat) : Int := if c < b then partP rs a c rs.length else if c = b then partP rs a b i else 0
theorem colIt_zero (N : Nat) (rs : List DRanking) (a : Nat) : tab N (colIt rs a 0 0) = List.replicate N 0 := by
  rw [← tab_zero]
  exact tab_congr fun c hc => by unfold colIt; rw [if_neg (by omega)]; split <;> simp [partP]
theorem colIt_next {N : Nat} {rs : List DRanking} {a b : Nat} : tab N (colIt rs a b rs.length) = tab N (colIt rs a (b + 1) 0) := tab_congr fun c hc => by
  unfold colIt
  by_cases h1 : c < b
  · rw [if_pos h1, if_pos (by omega)]
  · by_cases h2 : c = b
    · subst h2; rw [if_neg h1, if_pos rfl, if_pos (by omega)]
    · rw [if_neg h1, if_neg h2, if_neg (by omega)]
      split <;> simp [partP]
theorem colIt_done (N : Nat) (rs : List DRanking) (a : Nat) : tab N (colIt rs a N 0) = pairRow N rs a := tab_congr fun c hc => by unfold colIt; rw [if_pos hc]
theorem colIt_off {N : Nat} {rs : List DRanking} {a b i : Nat} (h : i < rs.length) (hb : beatsB rs[i] a b = false) : tab N (colIt rs a b (i + 1)) = tab N (colIt rs a b i) := tab_congr fun c hc => by
  unfold colIt; rw [partP_off h hb]
theorem colIt_on {N : Nat} {rs : List DRanking} {a b i : Nat} (hbN : b < N) (h : i < rs.length) (hb : beatsB rs[i] a b = true) : tab N (colIt rs a b (i + 1)) = (tab N (colIt rs a b i)).set b ((tab N (colIt rs a b i)).getD b 0 + rs[i].weight) := by
  rw [tab_set hbN, tab_getD hbN]
  exact tab_congr fun c hc => by
    unfold colIt
    by_cases h2 : c = b
    · subst h2; simp [partP_on h hb]
    · simp [h2]
theorem colIt_get {N : Nat} {rs : List DRanking} {a b i : Nat} (hbN : b < N) : (tab N (colIt rs a b i)).getD b 0 = partP rs a b i := by
  rw [tab_getD hbN]; simp [colIt]

/-! ### the reference's way: ranking by ranking -/
def rowIt (rs : List DRanking) (a i k : Nat) (c : Nat) : Int := partP rs a c i + (match rs[i]? with | some r => if beatsB r a c && decide (posR r c < k) then r.weight else 0 | none => 0)
theorem rowIt_zero {N : Nat} {rs : List DRanking} {a : Nat} (hpos : ∀ r ∈ rs, ∀ c : Nat, c < N → 0 ≤ posR r c) : tab N (rowIt rs a 0 0) = List.replicate N 0 := by
  rw [← tab_zero]
  exact tab_congr fun c hc => by
    unfold rowIt
    simp only [partP]
    split
    · rename_i r hr
      have := hpos r (List.mem_of_getElem? hr) c hc
      rw [if_neg (by simp; intro _; omega)]; rfl
    · rfl

set_option maxHeartbeats 4000000 in
theorem i_pairTable (N : Nat) (v : Value) (rs : List DRanking) (w : World) (h : RanksAt w v rs) (hN : N ≤ 5) (hr9 : rs.length ≤ 9) (hrs : ∀ r ∈ rs, r.order.length ≤ 5 ∧ 1 ≤ r.weight ∧ r.weight ≤ 100) :
    Calls Try.prog 27 #[.int .i64 (N : Int), v] w fun e w' => ∃ p, e = .returned p ∧ OwnTab w' w.heap.size p (pairT N rs N) ∧ Below w.heap.size w w' := by
  obtain ⟨i0, hi, hz0, hz1, hz2⟩ := info_parts int_info
  obtain ⟨ao, cap, rfl⟩ := h.form
  have HRS := Lib.hid hrs; clear hrs
  have hwt : ∀ r ∈ rs, 1 ≤ r.weight ∧ r.weight ≤ 100 := fun r hr => (HRS.out r hr).2
  have HWT := Lib.hid hwt; clear hwt
  have ho1 : OwnTab (w.alloc (.cells #[] 27)) w.heap.size (.slice (some ⟨w.heap.size, 0, none⟩) 0 0) (pairT N rs 0) := OwnNest.lit _ _ w
  have hb1 : Below w.heap.size w (w.alloc (.cells #[] 27)) := (Below.refl _ _).alloc (Nat.le_refl _) _
  go_enter Try.func27, Try.ntmps27
  go_wp2_with fail
  go_loopw [5, 13] (fun o i wr => ∃ a : Nat, a ≤ N ∧ i = .int .i64 a ∧ OwnTab wr w.heap.size o (pairT N rs a) ∧ Below w.heap.size w wr) (fun _ i _ => N - (intOf i).toNat)
  case atStart => exact ⟨0, by omega, rfl, ho1, hb1⟩
  case round =>
    rename World => wa
    obtain ⟨a, ha, rfl, ho, hb⟩ := hrel
    by_cases hat : a < N
    · go_wp2_with (at_make; refine wpList_make_full _ rfl _ _ 27 rfl wa.heap.size 3 i0 (.int .i64 0) 1 Try.underlying27 hi hz0 hz1 _ _ _ _ N rfl rfl rfl rfl ?c1 ?c2 ?c3 ?_)
      case c1 => rw [hz2]; omega
      case c2 => unfold maxLen; omega
      case c3 => omega
      intro w1 hown hg
      simp only [toList_madeCells_one, Nat.mul_one] at hown
      have hb2 : Below wa.heap.size wa w1 := (Below.refl _ _).grown hg (Nat.le_refl _) (by simp)
      obtain ⟨es, he, hrow, hin, hpw, hd⟩ := ho
      have HES := Lib.hid (And.intro he (And.intro hrow (And.intro hin (And.intro hpw hd))))
      clear he hrow hin hpw hd
      go_wp2_with fail
      have hown0 : w1.ownsRow wa.heap.size 3 1 (.slice (some ⟨wa.heap.size, 0, none⟩) N N) N (ints (tab N (colIt rs a 0 0))) := by rw [colIt_zero]; simpa [ints] using hown
      have HO0 := Lib.hid hown0; clear hown0 hown
      go_loopw [19] (fun i wq => ∃ b : Nat, b ≤ N ∧ i = .int .i64 b ∧ wq.ownsRow wa.heap.size 3 1 (.slice (some ⟨wa.heap.size, 0, none⟩) N N) N (ints (tab N (colIt rs a b 0))) ∧ Below wa.heap.size wa wq) (fun i _ => N - (intOf i).toNat)
      case atStart => exact ⟨0, by omega, rfl, HO0.out, hb2⟩
      case round =>
        rename World => wb
        obtain ⟨c, hc, rfl, hown, hbq⟩ := hrel
        by_cases hct : c < N
        · go_wp2_with fail
          go_loopw [24] (fun i wp => ∃ k : Nat, k ≤ rs.length ∧ i = .int .i64 k ∧ wp.ownsRow wa.heap.size 3 1 (.slice (some ⟨wa.heap.size, 0, none⟩) N N) N (ints (tab N (colIt rs a c k))) ∧ Below wa.heap.size wa wp) (fun i _ => rs.length - (intOf i).toNat)
          case atStart => exact ⟨0, by omega, rfl, hown, hbq⟩
          case round =>
            rename World => wc
            obtain ⟨k, hk, rfl, hown, hbp⟩ := hrel
            by_cases hkt : k < rs.length
            · obtain ⟨b0, off, u0, rfl, h4, h5, c0, c1⟩ := h.get hkt
              obtain ⟨hol, hw⟩ := HRS.out _ (List.getElem_mem hkt)
              have hfa := hb
              have hfc : Below w.heap.size w wc := hb.trans (hbp.mono hb.size)
              have hpb := partP_bd HWT.out (a : Int) (c : Int) k
              have hoff := colIt_off (N := N) (rs := rs) (a := a) (b := c) hkt
              have hon := colIt_on (N := N) (rs := rs) (a := a) (b := c) hct hkt
              have hget := colIt_get (N := N) (rs := rs) (a := a) (b := c) (i := k) hct
              generalize hr : rs[k] = r at *
              have HOFF := Lib.hid hoff; have HON := Lib.hid hon; have HGET := Lib.hid hget
              clear hoff hon hget hr
              obtain ⟨ur, uc, rfl⟩ := h5.form
              have d0 := (hfc.cell (p := ⟨b0, off + k * 2, none⟩) h4).trans c0
              have d1 := (hfc.cell (p := ⟨b0, off + k * 2 + 1, none⟩) h4).trans c1
              obtain ⟨W1, hW1⟩ : ∃ W1, W1 = wc.alloc (.cells #[.slice ur r.order.length uc, .int .i64 r.weight] 44) := ⟨_, rfl⟩
              have bP : BoxAt W1 wc.heap.size #[.slice ur r.order.length uc, .int .i64 r.weight] := by rw [hW1]; exact BoxAt.new _ _ _
              have hWn : Below wc.heap.size wc W1 := by rw [hW1]; go_grown
              have hownW := own_below hown hWn
              have hbW := below_step hbp hWn
              have hfW : Below w.heap.size w W1 := hb.trans (hbW.mono hb.size)
              have HW1 := Lib.hid hW1; clear hW1 c0 c1
              have e0 := BW.box bP
              have hIW := h5.below hfW
              have HQA := Lib.hid (fun x : BW W1 => (slices_Index _ r.order (a : Int) x.w (hIW.below x.h)).mono fun e w'' ⟨he, hw⟩ => (⟨he, hw ▸ Below.refl _ _⟩ : _ ∧ Below x.w.heap.size x.w w''))
              have HQB := Lib.hid (fun x : BW W1 => (slices_Index _ r.order (c : Int) x.w (hIW.below x.h)).mono fun e w'' ⟨he, hw⟩ => (⟨he, hw ▸ Below.refl _ _⟩ : _ ∧ Below x.w.heap.size x.w w''))
              by_cases hac : a = c
              · have hab : (((a : Nat) : Int) != ((c : Nat) : Int)) = false := by simp [hac]
                have hbt : beatsB r (a : Int) (c : Int) = false := by simp [beatsB, hac]
                rw [← HOFF.out hbt] at hownW
                clear hac hbt
                go_wp2_with fail
                rw [← HW1.out]
                refine wp_region_bw (by kernel_rfl) (by kernel_rfl) ?_
                repeat (first
                  | go_big_quiet_skip
                  | (go_big_quiet_want; go_big_quiet_op; first | go_big_quiet_on | (apply Exists.intro; refine ⟨fun _ => ?_, ?_⟩; (fail); go_big_quiet_on)))
                refine wpQuiet_nil ?_
                rintro _ ⟨xq, rfl⟩
                have hb3 := below_step hbW xq.h
                have ho3 := own_below hownW xq.h
                go_wp2_with fail
                go_roundw
                case rel => exact ⟨k + 1, by omega, by go_num, ho3, hb3⟩
                case measure => simp [intOf]; omega
              · have hab : (((a : Nat) : Int) != ((c : Nat) : Int)) = true := by rw [bne_iff_ne]; omega
                have hab2 : (((a : Nat) : Int) == ((c : Nat) : Int)) = false := by rw [beq_eq_false_iff_ne]; omega
                by_cases hlt : posR r (a : Int) < posR r (c : Int)
                · have hbt : beatsB r (a : Int) (c : Int) = true := by simp [beatsB, hab2, hlt]
                  have hon := HON.out hbt
                  rw [HGET.out] at hon
                  have hd : decide (posR r (a : Int) < posR r (c : Int)) = true := by simp [hlt]
                  unfold posR at hd hlt
                  have HHON := Lib.hid hon
                  clear hac hab2 hbt hon hlt
                  have hc0 : (0 : Int) ≤ (c : Int) := by omega
                  have hc1 : (c : Int) < (N : Int) := by omega
                  go_wp2_with fail
                  rw [← HW1.out]
                  refine wp_region_bw (by kernel_rfl) (by kernel_rfl) ?_
                  repeat (first
                    | go_big_quiet_skip
                    | (go_big_quiet_want; go_big_quiet_op; first | go_big_quiet_on | (apply Exists.intro; refine ⟨fun _ => ?_, ?_⟩; (first | (go_at_call_of 36 (Value.int .i64 (a : Int)); exact BW.call (HQA.out _)) | (go_at_call_of 36 (Value.int .i64 (c : Int)); exact BW.call (HQB.out _))); go_big_quiet_on)))
                  refine wpQuiet_nil ?_
                  rintro _ ⟨xq, rfl⟩
                  have hb3 := below_step hbW xq.h
                  have ho3 := own_below hownW xq.h
                  have e1 := (bP.below xq.h).cells
                  have q1 : xq.w.cell? ⟨wa.heap.size, c, none⟩ = some (.int .i64 (partP rs (a : Int) (c : Int) k)) := by rw [ho3.cellAt c (by omega), ints_gety (by simpa using hct), HGET.out]
                  have q2 := ho3.frozenAt c
                  have q3 : (xq.w.setCell ⟨wa.heap.size, c, none⟩ (.int .i64 (partP rs (a : Int) (c : Int) k + r.weight))).ownsRow wa.heap.size 3 1 (.slice (some ⟨wa.heap.size, 0, none⟩) N N) N (ints (tab N (colIt rs a c (k + 1)))) := by rw [HHON.out, ← ints_sety]; exact (ho3.stored c _).1
                  have q6 := (ho3.lt wa.heap.size rfl).2
                  clear ho3
                  generalize partP rs (a : Int) (c : Int) k = y at *
                  generalize r.weight = wt at *
                  go_wp2_with fail
                  go_region
                  all_goals go_wp2_with fail
                  all_goals go_roundw
                  all_goals first | (case rel => exact ⟨k + 1, by omega, by go_num, q3, by go_grown⟩) | (case measure => simp [intOf]; omega)
                · have hbt : beatsB r (a : Int) (c : Int) = false := by simp [beatsB, hlt]
                  have hd : decide (posR r (a : Int) < posR r (c : Int)) = false := by simp [hlt]
                  rw [← HOFF.out hbt] at hownW
                  unfold posR at hd
                  clear hac hab2 hbt hlt
                  go_wp2_with fail
                  rw [← HW1.out]
                  refine wp_region_bw (by kernel_rfl) (by kernel_rfl) ?_
                  repeat (first
                    | go_big_quiet_skip
                    | (go_big_quiet_want; go_big_quiet_op; first | go_big_quiet_on | (apply Exists.intro; refine ⟨fun _ => ?_, ?_⟩; (first | (go_at_call_of 36 (Value.int .i64 (a : Int)); exact BW.call (HQA.out _)) | (go_at_call_of 36 (Value.int .i64 (c : Int)); exact BW.call (HQB.out _))); go_big_quiet_on)))
                  refine wpQuiet_nil ?_
                  rintro _ ⟨xq, rfl⟩
                  have hb3 := below_step hbW xq.h
                  have ho3 := own_below hownW xq.h
                  go_wp2_with fail
                  go_roundw
                  case rel => exact ⟨k + 1, by omega, by go_num, ho3, hb3⟩
                  case measure => simp [intOf]; omega
            · obtain rfl : k = rs.length := by omega
              rw [colIt_next] at hown
              go_wp2_with fail
              go_roundw
              case rel => exact ⟨c + 1, by omega, by go_num, hown, hbp⟩
              case measure => simp [intOf]; omega
        · obtain rfl : N = c := by omega
          obtain ⟨he, hrow, hin, hpw, hd⟩ := HES.out
          have hrowI : OwnInts wb wa.heap.size (.slice (some ⟨wa.heap.size, 0, none⟩) N N) (pairRow N rs a) := by
            unfold OwnInts OwnI
            rw [← colIt_done, tab_len]
            exact hown
          have hpt := pairT_len N rs a
          have hnx : pairT N rs (a + 1) = pairT N rs a ++ [pairRow N rs a] := rfl
          have HP := Lib.hid (And.intro hpt hnx); clear hpt hnx
          have HE2 := Lib.hid he; clear he
          have hrow2 := own_below hrow hbq
          have hin2 := Lib.hid (fun p hp => OwnI.below (hin p hp) hbq)
          have hdv : (Value.slice (some ⟨wa.heap.size, 0, none⟩) N N).ownBlock = none ∨ (Value.slice (some ⟨wa.heap.size, 0, none⟩) N N).ownBlock ≠ Value.ownBlock _ := .inr (fun hc => by have := (hrow.lt wa.heap.size hc.symm).2; omega)
          have HNEW := Lib.hid (fun (p : Value × List Int) (hp : p ∈ es) => show p.1.ownBlock = none ∨ p.1.ownBlock ≠ (Value.slice (some ⟨wa.heap.size, 0, none⟩) N N).ownBlock from by
            cases hpb : p.1.ownBlock with
            | none => exact .inl rfl
            | some bb =>
              refine .inr fun hc => ?_
              have := ((hin p hp).lt bb hpb).2
              simp only [Value.ownBlock, Option.some.injEq] at hc
              omega)
          have hbe := hb.trans (hbq.mono hb.size)
          clear hin
          go_wp2_with (at_builtin; refine wpList_push_nest (f := tcell) (ord := id) (size := 1) rfl (.tmp 52) (.tmp 54) _ rfl (fun _ _ => rfl) w.heap.size 27 3 _ _ 24 ints_info Try.underlying34 rfl (by omega) (by omega) _ (pairT N rs a) _ (pairRow N rs a) _ rfl es HE2.out hrow2 hin2.out hpw hd (own_base hrowI hb.size) rfl (by simp [tcell, Value.oneCell']) hdv HNEW.out rfl hbe.size (by rw [HP.out.1]; omega) ?_; intro v' w' k1 k2 k3 k4)
          go_roundw
          case rel => exact ⟨a + 1, by omega, by go_num, by rw [HP.out.2]; exact k1, hbe.trans k4⟩
          case measure => simp [intOf]; omega
    · obtain rfl : a = N := by omega
      go_wp2_with fail
      go_ret
      exact ⟨_, rfl, ho, hb⟩

end Go.Proofs.Ytfonpkegaeebaaa
