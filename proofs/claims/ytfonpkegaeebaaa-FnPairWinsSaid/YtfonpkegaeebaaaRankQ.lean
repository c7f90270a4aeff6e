/- The reference's table of pairs. No conditions beyond sizes. -/
import Derived.Test.YtfonpkegaeebaaaRankP
namespace Go.Proofs.Ytfonpkegaeebaaa
open Go.RowKit
set_option linter.unusedVariables false
set_option linter.unusedSimpArgs false

/-- Where candidates stand in a valid ranking. -/
theorem pos_facts {N : Nat} {r : DRanking} (h : permOk N r.order = true) :
    r.order.length = N ∧ (∀ k (hk : k < r.order.length), posR r r.order[k] = (k : Int)) ∧ (∀ c : Nat, c < N → ∃ j, ∃ hj : j < r.order.length, posR r c = (j : Int) ∧ r.order[j] = (c : Int)) := by
  have h0 := h
  simp only [permOk, Bool.and_eq_true, decide_eq_true_eq] at h
  obtain ⟨h1, h2⟩ := h
  have hn := (permF_nodup h2).1
  refine ⟨by omega, fun k hk => ?_, fun c hc => ?_⟩
  · have hb : hasB r.order r.order[k] = true := by rw [hasB_iff]; exact List.getElem_mem hk
    obtain ⟨i, hi, h3, h4⟩ := idx_spec hb
    have : i = k := by
      have hp := List.pairwise_iff_getElem.1 hn
      rcases Nat.lt_trichotomy i k with h5 | h5 | h5
      · exact absurd h4 (hp i k hi hk h5)
      · exact h5
      · exact absurd h4.symm (hp k i hk hi h5)
    unfold posR
    rw [h3, this]
  · have hm := perm_all h0 (c := (c : Int)) (by omega)
    have hb : hasB r.order (c : Int) = true := by rw [hasB_iff]; exact hm
    obtain ⟨i, hi, h3, h4⟩ := idx_spec hb
    exact ⟨i, hi, h3, h4⟩

theorem rowIt_at {rs : List DRanking} {a i k c : Nat} (hi : i < rs.length) : rowIt rs a i k c = partP rs a c i + (if beatsB rs[i] a c && decide (posR rs[i] c < k) then rs[i].weight else 0) := by simp [rowIt, List.getElem?_eq_getElem hi]
theorem rowIt_next {N : Nat} {rs : List DRanking} {a i : Nat} (hi : i < rs.length) (hp : ∀ r ∈ rs, permOk N r.order = true) : tab N (rowIt rs a i N) = tab N (rowIt rs a (i + 1) 0) := tab_congr fun c hc => by
  obtain ⟨hl, _, h3⟩ := pos_facts (hp _ (List.getElem_mem hi))
  obtain ⟨j, hj, h4, _⟩ := h3 c hc
  rw [rowIt_at hi, h4]
  have hd : decide ((j : Int) < (N : Int)) = true := by simp; omega
  rw [hd, Bool.and_true, ← partP_at hi]
  unfold rowIt
  split
  · rename_i r hr
    obtain ⟨_, _, h5⟩ := pos_facts (hp _ (List.mem_of_getElem? hr))
    obtain ⟨j', hj', h6, _⟩ := h5 c hc
    rw [h6]
    have hd2 : decide ((j' : Int) < ((0 : Nat) : Int)) = false := by simp
    rw [hd2, Bool.and_false]; simp
  · simp
theorem rowIt_start {N : Nat} {rs : List DRanking} {a : Nat} (hp : ∀ r ∈ rs, permOk N r.order = true) : tab N (rowIt rs a 0 0) = List.replicate N 0 := by
  refine rowIt_zero fun r hr c hc => ?_
  obtain ⟨_, _, h3⟩ := pos_facts (hp r hr)
  obtain ⟨j, _, h4, _⟩ := h3 c hc
  omega
theorem rowIt_done {N : Nat} {rs : List DRanking} {a : Nat} : tab N (rowIt rs a rs.length 0) = pairRow N rs a := tab_congr fun c hc => by
  unfold rowIt
  simp
/-- One place further in a ranking: behind a the weight is added. -/
theorem rowIt_on {N : Nat} {rs : List DRanking} {a i k x : Nat} (hi : i < rs.length) (hp : permOk N rs[i].order = true) (hk : k < rs[i].order.length) (hx : rs[i].order[k] = (x : Int)) (hxN : x < N) (hb : posR rs[i] a < k) :
    tab N (rowIt rs a i (k + 1)) = (tab N (rowIt rs a i k)).set x ((tab N (rowIt rs a i k)).getD x 0 + rs[i].weight) := by
  obtain ⟨hl, h2, h3⟩ := pos_facts hp
  have hpx := h2 k hk
  rw [hx] at hpx
  rw [tab_set hxN, tab_getD hxN]
  refine tab_congr fun c hc => ?_
  obtain ⟨j, hj, h4, h5⟩ := h3 c hc
  rw [rowIt_at hi, rowIt_at hi, rowIt_at hi]
  by_cases hcx : c = x
  · subst hcx
    rw [if_pos rfl, hpx]
    have hac : ((a : Int) == (c : Int)) = false := by
      rw [beq_eq_false_iff_ne]
      intro e
      rw [e, hpx] at hb
      omega
    have hbt : beatsB rs[i] a c = true := by simp only [beatsB, hac, hpx]; simp; exact hb
    rw [hbt]
    have d1 : decide ((k : Int) < ((k + 1 : Nat) : Int)) = true := by simp; omega
    have d2 : decide ((k : Int) < (k : Int)) = false := by simp
    rw [d1, d2]
    simp
  · rw [if_neg hcx, h4]
    have hjk : j ≠ k := by
      rintro rfl
      rw [hx] at h5
      exact hcx (by omega)
    have : decide ((j : Int) < ((k + 1 : Nat) : Int)) = decide ((j : Int) < (k : Int)) := by
      rw [Bool.eq_iff_iff]; simp; omega
    rw [this]
theorem rowIt_off {N : Nat} {rs : List DRanking} {a i k x : Nat} (hi : i < rs.length) (hp : permOk N rs[i].order = true) (hk : k < rs[i].order.length) (hx : rs[i].order[k] = (x : Int)) (hb : ¬ posR rs[i] a < k) :
    tab N (rowIt rs a i (k + 1)) = tab N (rowIt rs a i k) := by
  obtain ⟨hl, h2, h3⟩ := pos_facts hp
  have hpx := h2 k hk
  rw [hx] at hpx
  refine tab_congr fun c hc => ?_
  obtain ⟨j, hj, h4, h5⟩ := h3 c hc
  rw [rowIt_at hi, rowIt_at hi, h4]
  by_cases hjk : j = k
  · subst hjk
    have hbt : beatsB rs[i] a c = false := by
      simp only [beatsB, h4]
      have : decide (posR rs[i] (a : Int) < (j : Int)) = false := by simpa using hb
      rw [this]; simp
    rw [hbt]; simp
  · have : decide ((j : Int) < ((k + 1 : Nat) : Int)) = decide ((j : Int) < (k : Int)) := by
      rw [Bool.eq_iff_iff]; simp; omega
    rw [this]
theorem rowIt_bd {rs : List DRanking} (hw : ∀ r ∈ rs, 1 ≤ r.weight ∧ r.weight ≤ 100) (a i k c : Nat) : 0 ≤ rowIt rs a i k c ∧ rowIt rs a i k c ≤ 100 * i + 100 := by
  have h1 := partP_bd hw (a : Int) (c : Int) i
  unfold rowIt
  split
  · rename_i r hr
    have := hw r (List.mem_of_getElem? hr)
    split <;> omega
  · omega

set_option maxHeartbeats 4000000 in
theorem s_l13Pairs (N : Nat) (v : Value) (rs : List DRanking) (w : World) (h : RanksAt w v rs) (hN : N ≤ 5) (hr9 : rs.length ≤ 9) (hrs : ∀ r ∈ rs, permOk N r.order = true ∧ 1 ≤ r.weight ∧ r.weight ≤ 100) :
    Calls Try.prog 33 #[.int .i64 (N : Int), v] w fun e w' => ∃ p, e = .returned p ∧ OwnTab w' w.heap.size p (pairT N rs N) ∧ Below w.heap.size w w' := by
  obtain ⟨i0, hi, hz0, hz1, hz2⟩ := info_parts int_info
  obtain ⟨ao, cap, rfl⟩ := h.form
  have hpm : ∀ r ∈ rs, permOk N r.order = true := fun r hr => (hrs r hr).1
  have hwt : ∀ r ∈ rs, 1 ≤ r.weight ∧ r.weight ≤ 100 := fun r hr => (hrs r hr).2
  have HWT := Lib.hid hwt; have HPM := Lib.hid hpm; clear hwt hpm hrs
  have ho1 : OwnTab (w.alloc (.cells #[] 27)) w.heap.size (.slice (some ⟨w.heap.size, 0, none⟩) 0 0) (pairT N rs 0) := OwnNest.lit _ _ w
  have hb1 : Below w.heap.size w (w.alloc (.cells #[] 27)) := (Below.refl _ _).alloc (Nat.le_refl _) _
  go_enter Try.func33, Try.ntmps33
  go_wp2_with fail
  go_loopw [5, 6] (fun o i wr => ∃ a : Nat, a ≤ N ∧ i = .int .i64 a ∧ OwnTab wr w.heap.size o (pairT N rs a) ∧ Below w.heap.size w wr) (fun _ i _ => N - (intOf i).toNat)
  case atStart => exact ⟨0, by omega, rfl, ho1, hb1⟩
  case round =>
    rename World => wa
    obtain ⟨a, ha, rfl, ho, hb⟩ := hrel
    by_cases hat : a < N
    · go_wp2_with (at_make; refine wpList_make_full _ rfl _ _ 27 rfl wa.heap.size 3 i0 (.int .i64 0) 1 Try.underlying27 hi hz0 hz1 _ _ _ _ N rfl rfl rfl rfl ?c1 ?c2 ?c3 ?_)
      case c1 => rw [hz2]; omega
      case c2 => unfold maxLen; omega
      case c3 => omega
      intro w1 hown hg
      simp only [toList_madeCells_one, Nat.mul_one] at hown
      have hb2 : Below wa.heap.size wa w1 := (Below.refl _ _).grown hg (Nat.le_refl _) (by simp)
      obtain ⟨es, he, hrow, hin, hpw, hd⟩ := ho
      have HES := Lib.hid (And.intro he (And.intro hrow (And.intro hin (And.intro hpw hd))))
      clear he hrow hin hpw hd
      go_wp2_with fail
      have hown0 : w1.ownsRow wa.heap.size 3 1 (.slice (some ⟨wa.heap.size, 0, none⟩) N N) N (ints (tab N (rowIt rs a 0 0))) := by rw [rowIt_start HPM.out]; simpa [ints] using hown
      have HO0 := Lib.hid hown0; clear hown0 hown
      go_loopw [8] (fun i wq => ∃ k : Nat, k ≤ rs.length ∧ i = .int .i64 k ∧ wq.ownsRow wa.heap.size 3 1 (.slice (some ⟨wa.heap.size, 0, none⟩) N N) N (ints (tab N (rowIt rs a k 0))) ∧ Below wa.heap.size wa wq) (fun i _ => rs.length - (intOf i).toNat)
      case atStart => exact ⟨0, by omega, rfl, HO0.out, hb2⟩
      case round =>
        rename World => wb
        obtain ⟨k, hk, rfl, hown, hbq⟩ := hrel
        by_cases hkt : k < rs.length
        · obtain ⟨b0, off, u0, rfl, h4, h5, c0, c1⟩ := h.get hkt
          have hw := HWT.out _ (List.getElem_mem hkt)
          have hpk := HPM.out _ (List.getElem_mem hkt)
          have hnx := rowIt_next (N := N) (a := a) hkt HPM.out
          have hon := fun q x => rowIt_on (N := N) (rs := rs) (a := a) (i := k) (k := q) (x := x) hkt hpk
          have hoff := fun q x => rowIt_off (N := N) (rs := rs) (a := a) (i := k) (k := q) (x := x) hkt hpk
          obtain ⟨hol, hp1, hp2⟩ := pos_facts hpk
          obtain ⟨ja, hja, hpa, hxa⟩ := hp2 a hat
          have hinr := fun x (hx : x ∈ rs[k].order) => inB_iff.1 (permF_mem (n := N) (pre := []) (xs := rs[k].order) (by simp only [permOk, Bool.and_eq_true] at hpk; exact hpk.2) x hx)
          generalize hr : rs[k] = r at *
          have HNX := Lib.hid hnx; have HON := Lib.hid hon; have HOFF := Lib.hid hoff; have HOL := Lib.hid hol; have HP1 := Lib.hid hp1; have HINR := Lib.hid hinr; have HPA := Lib.hid (And.intro hpa hxa)
          clear hnx hon hoff hr hpk hp1 hp2 hinr hol hpa hxa
          obtain ⟨_, uo, uc, rfl, p1, p2, p3⟩ := h5
          rw [HOL.out] at c0 p1 p3
          have hz : (Value.bool false) = .bool (decide (posR r (a : Int) < ((0 : Nat) : Int))) := by rw [HPA.out.1]; simp
          have HZ := Lib.hid hz; clear hz
          go_wp2_with fail
          go_loopw [9, 10] (fun bh i wp => ∃ q : Nat, q ≤ N ∧ i = .int .i64 q ∧ bh = .bool (decide (posR r (a : Int) < (q : Int))) ∧ wp.ownsRow wa.heap.size 3 1 (.slice (some ⟨wa.heap.size, 0, none⟩) N N) N (ints (tab N (rowIt rs a k q))) ∧ Below wa.heap.size wa wp) (fun _ i _ => N - (intOf i).toNat)
          case atStart => exact ⟨0, by omega, rfl, HZ.out, hown, hbq⟩
          case round =>
            rename World => wc
            obtain ⟨q, hq, rfl, rfl, hown, hbp⟩ := hrel
            rw [HPA.out.1]
            by_cases hqt : q < N
            · have hqo : q < r.order.length := by rw [HOL.out]; exact hqt
              obtain ⟨bu, ou, rfl, q4, q5⟩ := p3 (by omega)
              have hfc : Below w.heap.size w wc := hb.trans (hbp.mono hb.size)
              have hx := HINR.out _ (List.getElem_mem hqo)
              have hpq := HP1.out q hqo
              obtain ⟨m, hm⟩ : ∃ m : Nat, r.order[q] = (m : Int) := ⟨r.order[q].toNat, by omega⟩
              have hc := q5.int hqo
              rw [hm] at hc hx hpq
              have hmN : m < N := by omega
              have hm0 : (0 : Int) ≤ (m : Int) := by omega
              have hm1 : (m : Int) < (N : Int) := by omega
              have hk0 : (0 : Int) ≤ (k : Int) := by omega
              have hk1 : (k : Int) < (rs.length : Int) := by omega
              have d0 := (hfc.cell (p := ⟨b0, off + k * 2, none⟩) h4).trans c0
              have d1 := (hfc.cell (p := ⟨b0, off + k * 2 + 1, none⟩) h4).trans c1
              have d2 := (hfc.cell (p := ⟨bu, ou + q, none⟩) q4).trans hc
              by_cases hlt : (ja : Int) < (q : Int)
              · have hdt : decide ((ja : Int) < (q : Int)) = true := decide_eq_true hlt
                have hst := HON.out q m hqo hm hmN (by rw [HPA.out.1]; exact hlt)
                have HFL : Hid (Value.bool true = .bool (decide ((ja : Int) < ((q + 1 : Nat) : Int)))) := by
                  simp only [Hid]; rw [decide_eq_true (by omega)]
                have q1 : wc.cell? ⟨wa.heap.size, m, none⟩ = some (.int .i64 ((tab N (rowIt rs a k q)).getD m 0)) := by rw [hown.cellAt m (by omega)]; exact ints_gety (by simpa using hmN)
                have q2 := hown.frozenAt m
                have q3 : (wc.setCell ⟨wa.heap.size, m, none⟩ (.int .i64 ((tab N (rowIt rs a k q)).getD m 0 + r.weight))).ownsRow wa.heap.size 3 1 (.slice (some ⟨wa.heap.size, 0, none⟩) N N) N (ints (tab N (rowIt rs a k (q + 1)))) := by rw [hst, ← ints_sety]; exact (hown.stored m _).1
                have q6 := (hown.lt wa.heap.size rfl).2
                have hbd := rowIt_bd HWT.out a k q m
                rw [← tab_getD (N := N) (f := rowIt rs a k q) hmN] at hbd
                simp only [hdt]
                clear hm hst hown hpq hdt hlt hc
                generalize (tab N (rowIt rs a k q)).getD m 0 = y at *
                generalize r.weight = wt at *
                go_wp2_with fail
                go_region
                all_goals go_wp2_with fail
                all_goals go_roundw
                all_goals first | (case rel => exact ⟨q + 1, by omega, by go_num, HFL.out, q3, by go_grown⟩) | (case measure => simp [intOf]; omega)
              · have hdf : decide ((ja : Int) < (q : Int)) = false := decide_eq_false hlt
                have hst := HOFF.out q m hqo hm (by rw [HPA.out.1]; omega)
                have q3 : wc.ownsRow wa.heap.size 3 1 (.slice (some ⟨wa.heap.size, 0, none⟩) N N) N (ints (tab N (rowIt rs a k (q + 1)))) := by rw [hst]; exact hown
                by_cases hma : m = a
                · have hmb : ((m : Int) == (a : Int)) = true := by simp [hma]
                  have hja2 := HPA.out.1
                  have HFL : Hid (Value.bool true = .bool (decide ((ja : Int) < ((q + 1 : Nat) : Int)))) := by
                    simp only [Hid]; subst hma; rw [hpq] at hja2; rw [decide_eq_true (by omega)]
                  clear hja2
                  simp only [hdf]
                  clear hm hst hown hpq hdf hlt hma hc
                  go_wp2_with fail
                  go_roundw
                  case rel => exact ⟨q + 1, by omega, by go_num, HFL.out, q3, hbp⟩
                  case measure => simp [intOf]; omega
                · have hmb : ((m : Int) == (a : Int)) = false := by rw [beq_eq_false_iff_ne]; omega
                  have hjq : ja ≠ q := by
                    intro e
                    have h9 := HPA.out.2
                    simp only [e] at h9
                    rw [hm] at h9
                    omega
                  have HFL : Hid (Value.bool false = .bool (decide ((ja : Int) < ((q + 1 : Nat) : Int)))) := by
                    simp only [Hid]; rw [decide_eq_false (by omega)]
                  simp only [hdf]
                  clear hm hst hown hpq hdf hlt hma hjq hc
                  go_wp2_with fail
                  go_roundw
                  case rel => exact ⟨q + 1, by omega, by go_num, HFL.out, q3, hbp⟩
                  case measure => simp [intOf]; omega
            · obtain rfl : N = q := by omega
              have q3 : wc.ownsRow wa.heap.size 3 1 (.slice (some ⟨wa.heap.size, 0, none⟩) N N) N (ints (tab N (rowIt rs a (k + 1) 0))) := by rw [← HNX.out]; exact hown
              clear hown
              go_wp2_with fail
              go_roundw
              case rel => exact ⟨k + 1, by omega, by go_num, q3, hbp⟩
              case measure => simp [intOf]; omega
        · obtain rfl : k = rs.length := by omega
          obtain ⟨he, hrow, hin, hpw, hd⟩ := HES.out
          have hrowI : OwnInts wb wa.heap.size (.slice (some ⟨wa.heap.size, 0, none⟩) N N) (pairRow N rs a) := by
            unfold OwnInts OwnI
            rw [← rowIt_done, tab_len]
            exact hown
          have hpt := pairT_len N rs a
          have hnx : pairT N rs (a + 1) = pairT N rs a ++ [pairRow N rs a] := rfl
          have HP := Lib.hid (And.intro hpt hnx); clear hpt hnx
          have HE2 := Lib.hid he; clear he
          have hrow2 := own_below hrow hbq
          have hin2 := Lib.hid (fun p hp => OwnI.below (hin p hp) hbq)
          have hdv : (Value.slice (some ⟨wa.heap.size, 0, none⟩) N N).ownBlock = none ∨ (Value.slice (some ⟨wa.heap.size, 0, none⟩) N N).ownBlock ≠ Value.ownBlock _ := .inr (fun hc => by have := (hrow.lt wa.heap.size hc.symm).2; omega)
          have HNEW := Lib.hid (fun (p : Value × List Int) (hp : p ∈ es) => show p.1.ownBlock = none ∨ p.1.ownBlock ≠ (Value.slice (some ⟨wa.heap.size, 0, none⟩) N N).ownBlock from by
            cases hpb : p.1.ownBlock with
            | none => exact .inl rfl
            | some bb =>
              refine .inr fun hc => ?_
              have := ((hin p hp).lt bb hpb).2
              simp only [Value.ownBlock, Option.some.injEq] at hc
              omega)
          have hbe := hb.trans (hbq.mono hb.size)
          clear hin
          go_wp2_with (at_builtin; refine wpList_push_nest (f := tcell) (ord := id) (size := 1) rfl (.tmp 59) (.tmp 61) _ rfl (fun _ _ => rfl) w.heap.size 27 3 _ _ 24 ints_info Try.underlying34 rfl (by omega) (by omega) _ (pairT N rs a) _ (pairRow N rs a) _ rfl es HE2.out hrow2 hin2.out hpw hd (own_base hrowI hb.size) rfl (by simp [tcell, Value.oneCell']) hdv HNEW.out rfl hbe.size (by rw [HP.out.1]; omega) ?_; intro v' w' k1 k2 k3 k4)
          go_roundw
          case rel => exact ⟨a + 1, by omega, by go_num, by rw [HP.out.2]; exact k1, hbe.trans k4⟩
          case measure => simp [intOf]; omega
    · obtain rfl : a = N := by omega
      go_wp2_with fail
      go_ret
      exact ⟨_, rfl, ho, hb⟩

end Go.Proofs.Ytfonpkegaeebaaa
