/- Contracts of the laws' helpers on slices of slices of ints: eq, mark, held. No conditions beyond sizes. -/
import Derived.Test.YtflkijklipkneaaNestM
import Derived.Test.YtflkijklipkneaaBw
namespace Go.Proofs.Ytflkijklipkneaa
open Go.RowKit
set_option linter.unusedVariables false
set_option linter.unusedSimpArgs false

def tcell (u : Value) (_ : List Int) : List Value := [u]
abbrev IntSSAt (w : World) (v : Value) (t : List (List Int)) : Prop := NestAt tcell id 1 w v t
theorem ncs_tcell (es : List (Value × List Int)) : ncs tcell es = es.map Prod.fst := by
  induction es with
  | nil => rfl
  | cons a r ih => simp only [ncs, List.flatMap_cons, List.map_cons] at *; rw [ih]; rfl
theorem ncs_tzip {us : List Value} {xs : List (List Int)} (h : us.length = xs.length) : ncs tcell (us.zip xs) = us := by
  rw [ncs_tcell, List.map_fst_zip (by omega)]
theorem IntSSAt.get {w : World} {ao : Option Addr} {cap : Nat} {xs : List (List Int)} (h : IntSSAt w (.slice ao xs.length cap) xs) {k : Nat} (hk : k < xs.length) :
    ∃ b off u, ao = some ⟨b, off, none⟩ ∧ b < w.heap.size ∧ IntsAt w u xs[k] ∧ w.cell? ⟨b, off + k, none⟩ = some u := by
  obtain ⟨b, off, u, h1, h2, h3, h4⟩ := NestAt.get (f := tcell) (ord := id) (size := 1) (fun _ _ => rfl) h hk
  exact ⟨b, off, u, h1, h2, h3, by simpa [tcell] using h4 0 (by omega)⟩
theorem IntSSAt.below {w w' : World} {v : Value} {xs : List (List Int)} (h : IntSSAt w v xs) (hb : Below w.heap.size w w') : IntSSAt w' v xs := NestAt.below h hb
theorem IntSSAt.form {w : World} {v : Value} {xs : List (List Int)} (h : IntSSAt w v xs) : ∃ ao cap, v = .slice ao xs.length cap := NestAt.form h
theorem IntSSAt.len {w : World} {v : Value} {xs : List (List Int)} (h : IntSSAt w v xs) : xs.length ≤ maxLen := NestAt.len h

theorem ints_info : (Try.prog.info? 22).map (fun i => (i.zero, i.size, i.bytes)) = some (some (.slice none 0 0), 1, 24) := by kernel_rfl
abbrev OwnTab (w : World) (B : Nat) (v : Value) (t : List (List Int)) : Prop := OwnNest tcell id 1 22 3 w B v t
abbrev OwnTR (w : World) (lo hi : Nat) (v : Value) (t : List (List Int)) : Prop := OwnNN tcell id 1 22 3 w lo hi v t

set_option maxHeartbeats 1000000 in
theorem eqIntSS_c (v u : Value) (xs ys : List (List Int)) (w : World) (h : IntSSAt w v xs) (g : IntSSAt w u ys) :
    Calls Try.prog 10 #[v, u] w fun e w' => e = .returned (.bool (decide (xs = ys))) ∧ Below w.heap.size w w' := by
  have hL := h.len; have gL := g.len
  unfold maxLen at hL gL
  obtain ⟨ao, cap, rfl⟩ := h.form
  obtain ⟨ao', cap', rfl⟩ := g.form
  by_cases hl : xs.length = ys.length
  · have hlb : (((xs.length : Nat) : Int) != ((ys.length : Nat) : Int)) = false := by simp [hl]
    have HL := Lib.hid hl; clear hl
    go_enter Try.func10, Try.ntmps10
    go_wp2_with fail
    go_loopw [5] (fun i wr => ∃ k : Nat, k ≤ xs.length ∧ i = .int .i64 k ∧ Hid (decide (xs = ys) = decide (xs.drop k = ys.drop k)) ∧ Below w.heap.size w wr) (fun i _ => xs.length - (intOf i).toNat)
    case atStart => exact ⟨0, by omega, rfl, by simp [Hid], Below.refl _ _⟩
    case round =>
      obtain ⟨k, hk, rfl, hd, hb⟩ := hrel
      by_cases hlt : k < xs.length
      · have hlt' : k < ys.length := by have := HL.out; omega
        obtain ⟨b, off, u0, rfl, h4, h5, c0⟩ := (h.below hb).get hlt
        obtain ⟨b', off', u1, rfl, g4, g5, d0⟩ := (g.below hb).get hlt'
        have hd' := hd.out
        rw [drop_at hlt, drop_at hlt'] at hd'
        simp only [List.cons.injEq] at hd'
        have hq := fun x : BW wr => eqIntS_c u0 u1 xs[k] ys[k] x.w (h5.below x.h) (g5.below x.h)
        have r0 := BW.cell h4 c0
        have s0 := BW.cell g4 d0
        by_cases hxy : xs[k] = ys[k]
        · have HD : Hid (decide (xs = ys) = decide (xs.drop (k + 1) = ys.drop (k + 1))) := by simpa [Hid, hxy] using hd'
          have HX : decide (xs[k] = ys[k]) = true := by simp [hxy]
          simp only [HX] at hq
          have HQ := Lib.hid hq
          clear hd hd' hxy HX hq
          generalize xs[k] = p at *
          generalize ys[k] = q at *
          go_wp2_with fail
          refine wp_region_bw (by kernel_rfl) (by kernel_rfl) ?_
          repeat (first
            | go_big_quiet_skip
            | (go_big_quiet_want; go_big_quiet_op; first | go_big_quiet_on | (apply Exists.intro; refine ⟨fun _ => ?_, ?_⟩; ((go_at_call 12; exact BW.call (HQ.out _))); go_big_quiet_on)))
          refine wpQuiet_nil ?_
          rintro _ ⟨xq, rfl⟩
          go_wp2_with fail
          go_roundw
          case rel => exact ⟨k + 1, by omega, by go_num, HD, below_step hb xq.h⟩
          case measure => simp [intOf]; omega
        · have HD : Hid (decide (xs = ys) = false) := by simpa [Hid, hxy] using hd'
          have HX : decide (xs[k] = ys[k]) = false := by simp [hxy]
          simp only [HX] at hq
          have HQ := Lib.hid hq
          clear hd hd' hxy HX hq
          generalize xs[k] = p at *
          generalize ys[k] = q at *
          go_wp2_with fail
          refine wp_region_bw (by kernel_rfl) (by kernel_rfl) ?_
          repeat (first
            | go_big_quiet_skip
            | (go_big_quiet_want; go_big_quiet_op; first | go_big_quiet_on | (apply Exists.intro; refine ⟨fun _ => ?_, ?_⟩; ((go_at_call 12; exact BW.call (HQ.out _))); go_big_quiet_on)))
          refine wpQuiet_nil ?_
          rintro _ ⟨xq, rfl⟩
          go_wp2_with fail
          go_ret
          exact ⟨ret_bool HD.out.symm, below_step hb xq.h⟩
      · have HD : Hid (decide (xs = ys) = true) := by
          have hd' := hd.out
          rw [List.drop_of_length_le (by omega), List.drop_of_length_le (by have := HL.out; omega)] at hd'
          simpa [Hid] using hd'
        clear hd
        go_wp2_with fail
        go_ret
        exact ⟨ret_bool HD.out.symm, hb⟩
  · have hlb : (((xs.length : Nat) : Int) != ((ys.length : Nat) : Int)) = true := by rw [bne_iff_ne]; omega
    have HD : Hid (decide (xs = ys) = false) := by
      simp only [Hid, decide_eq_false_iff_not]; rintro rfl; exact hl rfl
    have HL := Lib.hid hl; clear hl
    go_enter Try.func10, Try.ntmps10
    go_wp2_with fail
    go_ret
    exact ⟨ret_bool HD.out.symm, Below.refl _ _⟩

abbrev lenSum (t : List (List Int)) : Nat := sumG List.length t
abbrev mkT (k : Int) (t : List (List Int)) : List (List Int) := mkG List.length (fun k (r : List Int) => upFrom k r.length) k t

set_option maxHeartbeats 2000000 in
theorem markIntSS_r (v : Value) (xs : List (List Int)) (lo hi : Nat) (k : Int) (w : World) (h : OwnTR w lo hi v xs) (hk : 0 ≤ k) (hn : k + lenSum xs ≤ 9000000000000000000) :
    Calls Try.prog 15 #[v, .int .i64 k] w fun e w' => e = .returned (.int .i64 (k + lenSum xs)) ∧ OwnTR w' lo hi v (mkT k xs) ∧ OutOf lo hi w w' := by
  obtain ⟨us, hul, hown, hin, hap, hdv⟩ := h
  rw [ncs_tzip hul] at hown
  simp only [List.map_id_fun, id] at hin
  have hsum : ∀ j, sumG List.length (xs.take j) ≤ lenSum xs := sumG_take_le List.length xs
  have hfin : ∀ w', OwnIn 22 1 lo hi w' v xs.length us → Inn 3 w' lo hi us (mkT k xs) → OwnTR w' lo hi v (mkT k xs) := fun w' a b =>
    ⟨us, by simpa using hul, by rw [ncs_tzip (by simpa using hul)]; simpa using a, by simpa using b, hap, hdv⟩
  rcases hown.1.2 with ⟨rfl, hn0⟩ | ⟨g, cap, cur, rfl, hB, hh, hc1, hc2, hc3, hc4⟩
  · have hx0 : xs = [] := List.eq_nil_of_length_eq_zero hn0
    subst hx0
    have hf := hfin w hown (by simpa [mkT, mkG] using hin)
    clear hown hin hsum hfin hul hap hdv
    have hn2 : k + 0 = k := by omega
    go_enter Try.func15, Try.ntmps15
    go_wp2
    refine wp_loop_rounds 1 ?_; rw [rounds_succ]; go_wp2
    go_ret
    exact ⟨ret_int (by simp [lenSum, sumG]), hf, OutOf.refl _ _ _⟩
  · have hgl := hown.2.1 g rfl
    unfold maxLen at hc2
    have HAP := Lib.hid hap; have HDV := Lib.hid hdv; have HUL := Lib.hid hul; have HSUM := Lib.hid hsum; have HFIN := Lib.hid hfin
    clear hap hdv hul hsum hfin hc3 hc4 hh
    go_enter Try.func15, Try.ntmps15
    go_wp2_with fail
    go_loopw [1, 5] (fun kk i wr => ∃ j : Nat, j ≤ xs.length ∧ i = .int .i64 j ∧ kk = .int .i64 (k + sumG List.length (xs.take j)) ∧ OwnIn 22 1 lo hi wr (.slice (some ⟨g, 0, none⟩) xs.length cap) xs.length us ∧ Inn 3 wr lo hi us (mixG List.length (fun k (r : List Int) => upFrom k r.length) k xs j) ∧ OutOf lo hi w wr) (fun _ i _ => xs.length - (intOf i).toNat)
    case atStart => exact ⟨0, by omega, rfl, by simp [sumG], hown, by simpa using hin, OutOf.refl _ _ _⟩
    case round =>
      clear hown hin
      obtain ⟨j, hj, rfl, rfl, hown, hin, hot⟩ := hrel
      by_cases hlt : j < xs.length
      · have hju : j < us.length := by have := HUL.out; omega
        have hml := mixG_len List.length (fun k (r : List Int) => upFrom k r.length) k xs j hj
        have hr := hin.2 j hju (by rw [hml]; exact hlt)
        rw [mixG_at _ _ _ _ _ hlt] at hr
        have hnx := mixG_next List.length (fun k (r : List Int) => upFrom k r.length) k xs j hlt
        have hs0 := HSUM.out j
        have hs1 := HSUM.out (j + 1)
        have hss := sumG_at (cnt := List.length) hlt
        have hcj : wr.cell? ⟨g, j, none⟩ = some us[j] := by rw [hown.1.cellAt j (by omega), List.getElem?_eq_getElem hju]
        obtain ⟨t, ht⟩ : ∃ t : Int, t = k + sumG List.length (xs.take j) := ⟨_, rfl⟩
        have ht0 : 0 ≤ t := by omega
        have ht1 : t + xs[j].length ≤ 9000000000000000000 := by omega
        have hte : t + xs[j].length = k + sumG List.length (xs.take (j + 1)) := by omega
        rw [← ht] at hnx ⊢
        obtain ⟨au, ku, hu⟩ := hr.at_.form
        have HU := Lib.hid hu
        rw [hu] at hcj hr
        have HR := Lib.hid hr
        have HNX := Lib.hid hnx; have HTE := Lib.hid hte; have HML := Lib.hid hml; have HIN := Lib.hid hin
        clear hnx hte hml hin hs0 hs1 hss ht hu hr
        generalize xs[j] = r at *
        go_wp2_with fail
        refine (markIntS_c lo _ r.length (ints r) _ _ HR.out.1 ht0 ht1).mono ?_
        rintro e w1 ⟨rfl, hv1, hg1⟩
        have ho1 : OutOf lo hi wr w1 := OutOf.of_grown hg1 fun b hb => ⟨(HR.out.1.lt b hb).1, HR.out.2.1 b hb⟩
        have hs1 := ho1.size
        have hd1 := HDV.out _ (List.getElem_mem hju)
        rw [HU.out] at hd1
        have hown1 : OwnIn 22 1 lo hi w1 (.slice (some ⟨g, 0, none⟩) xs.length cap) xs.length us := ⟨hown.1.kept hg1 (by
          rcases hd1 with h0 | h0
          · rw [h0]; simp [Value.ownBlock]
          · exact .inr (fun e => h0 e.symm)), hown.2.1, Nat.le_trans hown.2.2 hs1⟩
        have hin1 : Inn 3 w1 lo hi us (mixG List.length (fun k (r : List Int) => upFrom k r.length) k xs (j + 1)) := by
          rw [HNX.out]
          refine Inn.mark HIN.out HAP.out hju (by rw [HU.out]; exact hg1) ?_
          rw [HU.out]
          exact ⟨by simpa using hv1, HR.out.2.1, Nat.le_trans HR.out.2.2 hs1⟩
        have hot' := hot.trans ho1
        have HI1 := Lib.hid hin1; clear hin1 hd1
        go_wp2_with fail
        go_roundw
        case rel => exact ⟨j + 1, by omega, by go_num, by rw [HTE.out], hown1, HI1.out, hot'⟩
        case measure => simp [intOf]; omega
      · obtain rfl : j = xs.length := by omega
        rw [mixG_done] at hin
        rw [List.take_length]
        have hf := HFIN.out _ hown hin
        clear hin
        go_wp2_with fail
        go_ret
        exact ⟨rfl, hf, hot⟩

set_option maxHeartbeats 1000000 in
theorem heldIntSS_n (v : Value) (xs : List (List Int)) (k : Int) (w : World) (h : IntSSAt w v (mkT k xs)) (hk : 0 ≤ k) (hk2 : k + lenSum xs ≤ 9000000000000000000) :
    Calls Try.prog 16 #[v, .int .i64 k] w fun e w' => e = .returned (.int .i64 (k + lenSum xs)) ∧ Below w.heap.size w w' := by
  have hL := h.len
  unfold maxLen at hL
  have hsum : ∀ j, sumG List.length (xs.take j) ≤ lenSum xs := sumG_take_le List.length xs
  have HSUM := Lib.hid hsum; clear hsum
  obtain ⟨ao, cap, rfl⟩ := h.form
  simp only [mkG_len] at *
  go_enter Try.func16, Try.ntmps16
  go_wp2_with fail
  go_loopw [1, 5] (fun kk i wr => ∃ j : Nat, j ≤ xs.length ∧ i = .int .i64 j ∧ kk = .int .i64 (k + sumG List.length (xs.take j)) ∧ Below w.heap.size w wr) (fun _ i _ => xs.length - (intOf i).toNat)
  case atStart => exact ⟨0, by omega, rfl, by simp [sumG], Below.refl _ _⟩
  case round =>
    obtain ⟨j, hj, rfl, rfl, hb⟩ := hrel
    by_cases hlt : j < xs.length
    · have hb' := h.below hb
      rw [← mkG_len List.length (fun k (r : List Int) => upFrom k r.length) k xs] at hb'
      obtain ⟨b, off, u0, rfl, h4, h5, c0⟩ := IntSSAt.get hb' (k := j) (by simpa using hlt)
      rw [mkG_get _ _ _ _ _ hlt] at h5
      have hs0 := HSUM.out j
      have hs1 := HSUM.out (j + 1)
      have hss := sumG_at (cnt := List.length) hlt
      obtain ⟨t, ht⟩ : ∃ t : Int, t = k + sumG List.length (xs.take j) := ⟨_, rfl⟩
      have ht0 : 0 ≤ t := by omega
      have ht1 : t + xs[j].length ≤ 9000000000000000000 := by omega
      have htn : ¬ t + xs[j].length < 0 := by omega
      have hte : t + xs[j].length = k + sumG List.length (xs.take (j + 1)) := by omega
      rw [← ht] at h5 ⊢
      obtain ⟨a1, k1, rfl⟩ := h5.form
      have HTE := Lib.hid hte
      clear hb' ht hte hs0 hs1 hss
      generalize xs[j] = r at *
      simp only [upFrom_length] at *
      go_wp2_with fail
      refine (heldIntS_n _ r _ _ h5 ht0 ht1).mono ?_
      rintro e w1 ⟨rfl, hb1⟩
      have hbb := below_step hb hb1
      go_wp2_with fail
      go_roundw
      case rel => exact ⟨j + 1, by omega, by go_num, by rw [HTE.out], hbb⟩
      case measure => simp [intOf]; omega
    · obtain rfl : j = xs.length := by omega
      rw [List.take_length]
      go_wp2_with fail
      go_ret
      exact ⟨rfl, hb⟩

end Go.Proofs.Ytflkijklipkneaa
