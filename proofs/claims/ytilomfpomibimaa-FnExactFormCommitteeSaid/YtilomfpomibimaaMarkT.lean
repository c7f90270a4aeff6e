/- Contracts: the laws' marks that are texts; marks on slices of texts; eq, held. No conditions beyond sizes. -/
import Derived.Test.YtilomfpomibimaaCommB
import Derived.Test.YtilomfpomibimaaNestM
import Derived.Laws.IdiomStrings
namespace Go.Proofs.Ytilomfpomibimaa
open Go.RowKit
set_option linter.unusedVariables false
set_option linter.unusedSimpArgs false

def digS (x : Int) : ByteArray := ⟨#[UInt8.ofNat (48 + x % 10).toNat]⟩
/-- The digits of x ahead of a text. -/
def mtF : Nat → Int → ByteArray → ByteArray
  | 0, _, out => out
  | f + 1, x, out => if 0 < x then mtF f (x / 10) (digS x ++ out) else out
theorem mtF_go {f : Nat} {x : Int} {out : ByteArray} (h : 0 < x) : mtF (f + 1) x out = mtF f (x / 10) (digS x ++ out) := if_pos h
theorem mtF_stop {f : Nat} {x : Int} {out : ByteArray} (h : ¬ 0 < x) : mtF f x out = out := by
  cases f with
  | zero => rfl
  | succ f => exact if_neg h
theorem ret_str {a b : ByteArray} (h : a = b) : Ending.returned (.string a) = .returned (.string b) := by rw [h]
def mt (k : Int) : ByteArray := if k ≤ 0 then ⟨#[109, 48]⟩ else ⟨#[109]⟩ ++ mtF 64 k ⟨#[]⟩

theorem conv_dig (w : World) (x : Int) : (convert 37 9 (.slice (some ⟨w.heap.size, 0, none⟩) 1 1)).run Try.prog (w.alloc (.cells #[.int .u8 (48 + x % 10)] 5)) = .ok (.string (digS x)) (w.alloc (.cells #[.int .u8 (48 + x % 10)] 5)) := by
  have h := run_convert_bytes_back (P := Try.prog) (w.alloc (.cells #[.int .u8 (48 + x % 10)] 5)) 37 9 5 ⟨w.heap.size, 0, none⟩ 1 [UInt8.ofNat (48 + x % 10).toNat] Try.underlying37 Try.underlying5 Try.underlying9 (by
    intro j hj
    have hj' : j = 0 := by simpa using hj
    subst hj'
    have hb : (UInt8.ofNat (48 + x % 10).toNat).toNat = (48 + x % 10).toNat := by
      simp only [UInt8.toNat_ofNat']
      omega
    have e : ((⟨w.heap.size, 0, none⟩ : Addr).add 0) = ⟨w.heap.size, 0, none⟩ := by simp [Addr.add]
    rw [e, (BoxAt.new w #[.int .u8 (48 + x % 10)] 5).cells 0]
    simp only [List.getElem_cons_zero, hb]
    have : (((48 + x % 10).toNat : Nat) : Int) = 48 + x % 10 := by omega
    rw [this]; rfl)
  exact h

set_option maxHeartbeats 1000000 in
theorem markText_c (k : Int) (w : World) (h0 : 0 ≤ k) (hk : k ≤ 9000000000000000000) :
    Calls Try.prog 54 #[.int .i64 k] w fun e w' => e = .returned (.string (mt k)) ∧ Below w.heap.size w w' := by
  by_cases hz : k ≤ 0
  · obtain rfl : k = 0 := by omega
    go_enter Try.func54, Try.ntmps54
    go_wp2_with fail
    go_ret
    exact ⟨rfl, Below.refl _ _⟩
  · have HR := Lib.hid (show mt k = ⟨#[109]⟩ ++ mtF 64 k ⟨#[]⟩ by simp [mt, hz])
    rw [HR.out]
    go_enter Try.func54, Try.ntmps54
    go_wp2_with fail
    go_loopw [0, 3] (fun xv o wr => ∃ (f : Nat) (x : Int) (out : ByteArray), f ≤ 64 ∧ 0 ≤ x ∧ x ≤ 9000000000000000000 ∧ Hid (x < 10 ^ f) ∧ xv = .int .i64 x ∧ o = .string out ∧ out.size ≤ 64 - f ∧ Hid (mtF 64 k ⟨#[]⟩ = mtF f x out) ∧ Below w.heap.size w wr) (fun xv _ _ => (intOf xv).toNat)
    case atStart => exact ⟨64, k, ⟨#[]⟩, by omega, by omega, hk, by simp only [Hid]; omega, rfl, rfl, by simp [ByteArray.size], rfl, Below.refl _ _⟩
    case round =>
      obtain ⟨f, x, out, hf, hx0, hx1, hp, rfl, rfl, hs, hm, hb⟩ := hrel
      by_cases hx : 0 < x
      · obtain ⟨f', rfl⟩ : ∃ f', f = f' + 1 := by
          cases f with
          | zero => have := hp.out; simp at this; omega
          | succ f => exact ⟨f, rfl⟩
        have HP : Hid (x / 10 < 10 ^ f') := by
          have := hp.out
          simp only [Hid]
          rw [Int.pow_succ] at this
          omega
        have HM : Hid (mtF 64 k ⟨#[]⟩ = mtF f' (x / 10) (digS x ++ out)) := by
          have := hm.out
          rw [mtF_go hx] at this
          exact this
        have hcv := conv_dig wr x
        have hds : (digS x).size = 1 := rfl
        have hd0 : 0 ≤ x % 10 := by omega
        have hd1 : x % 10 ≤ 9 := by omega
        have hal := hb.alloc hb.size (.cells #[.int .u8 (48 + x % 10)] 5)
        have HDS : Hid (((digS x) ++ out).size ≤ 64 - f') := by simp only [Hid]; rw [ByteArray.size_append]; omega
        clear hp hm
        generalize digS x = ds at *
        go_wp2_with fail
        go_roundw
        case rel => exact ⟨f', x / 10, ds ++ out, by omega, by omega, by omega, HP, rfl, rfl, HDS.out, HM, hal⟩
        case measure => simp [intOf]; omega
      · have HD : Hid (mtF 64 k ⟨#[]⟩ = out) := by
          have := hm.out
          rw [mtF_stop hx] at this
          exact this
        clear hm hp
        go_wp2_with fail
        go_ret
        exact ⟨ret_str (by rw [HD.out]), hb⟩

set_option maxHeartbeats 1000000 in
theorem eqStringS_c (v u : Value) (xs ys : List ByteArray) (w : World) (h : StrsAt w v xs) (g : StrsAt w u ys) :
    Calls Try.prog 52 #[v, u] w fun e w' => e = .returned (.bool (decide (xs = ys))) ∧ Below w.heap.size w w' := by
  obtain ⟨_, ao, cap, rfl, h1, h2, h3⟩ := h
  obtain ⟨_, ao', cap', rfl, g1, g2, g3⟩ := g
  unfold maxLen at h2 g2
  by_cases hl : xs.length = ys.length
  · have hlb : (((xs.length : Nat) : Int) != ((ys.length : Nat) : Int)) = false := by simp [hl]
    have HL := Lib.hid hl; clear hl
    go_enter Try.func52, Try.ntmps52
    go_wp2
    go_loopw [5] (fun i wr => ∃ k : Nat, k ≤ xs.length ∧ i = .int .i64 k ∧ Hid (decide (xs = ys) = decide (xs.drop k = ys.drop k)) ∧ Below w.heap.size w wr) (fun i _ => xs.length - (intOf i).toNat)
    case atStart => exact ⟨0, by omega, rfl, by simp [Hid], Below.refl _ _⟩
    case round =>
      obtain ⟨k, hk, rfl, hd, hb⟩ := hrel
      by_cases hlt : k < xs.length
      · have hlt' : k < ys.length := by have := HL.out; omega
        obtain ⟨b, off, rfl, h4, h5⟩ := h3 (by omega)
        obtain ⟨b', off', rfl, g4, g5⟩ := g3 (by omega)
        have hc : wr.cell? ⟨b, off + k, none⟩ = some (.string xs[k]) := by rw [hb.cell (p := ⟨b, off + k, none⟩) h4, h5 k (by simpa using hlt)]; simp [strs]
        have hc' : wr.cell? ⟨b', off' + k, none⟩ = some (.string ys[k]) := by rw [hb.cell (p := ⟨b', off' + k, none⟩) g4, g5 k (by simpa using hlt')]; simp [strs]
        have hd' := hd.out
        rw [drop_at hlt, drop_at hlt'] at hd'
        simp only [List.cons.injEq] at hd'
        by_cases hxy : xs[k] = ys[k]
        · have hb1 : (xs[k].toList == ys[k].toList) = true := by simp [hxy]
          have HD : Hid (decide (xs = ys) = decide (xs.drop (k + 1) = ys.drop (k + 1))) := by simpa [Hid, hxy] using hd'
          generalize xs[k] = x at *
          generalize ys[k] = y at *
          clear hd hd' hxy
          go_wp2
          go_quiet (fail)
          go_wp2
          go_roundw
          case rel => exact ⟨k + 1, by omega, by go_num, HD, Below.drewN' hb _⟩
          case measure => simp [intOf]; omega
        · have hb1 : (xs[k].toList == ys[k].toList) = false := (Lib.bytes_beq_false_iff _ _).2 hxy
          have HD : Hid (decide (xs = ys) = false) := by simpa [Hid, hxy] using hd'
          generalize xs[k] = x at *
          generalize ys[k] = y at *
          clear hd hd' hxy
          go_wp2
          go_quiet (fail)
          go_wp2
          go_ret
          exact ⟨ret_bool HD.out.symm, Below.drewN' hb _⟩
      · have HD : Hid (decide (xs = ys) = true) := by
          have hd' := hd.out
          rw [List.drop_of_length_le (by omega), List.drop_of_length_le (by have := HL.out; omega)] at hd'
          simpa [Hid] using hd'
        clear hd
        go_wp2
        go_ret
        exact ⟨ret_bool HD.out.symm, hb⟩
  · have hlb : (((xs.length : Nat) : Int) != ((ys.length : Nat) : Int)) = true := by rw [bne_iff_ne]; omega
    have HD : Hid (decide (xs = ys) = false) := by
      simp only [Hid, decide_eq_false_iff_not]; rintro rfl; exact hl rfl
    have HL := Lib.hid hl; clear hl
    go_enter Try.func52, Try.ntmps52
    go_wp2
    go_ret
    exact ⟨ret_bool HD.out.symm, Below.refl _ _⟩

/-- The marks from k on, n of them. -/
def mtFrom (k : Int) (n : Nat) : List ByteArray := (List.range n).map fun (i : Nat) => mt (k + (i : Int))
@[simp] theorem mtFrom_length (k : Int) (n : Nat) : (mtFrom k n).length = n := by simp [mtFrom]
theorem mtFrom_get (k : Int) (n i : Nat) (h : i < n) : (mtFrom k n)[i]'(by simpa using h) = mt (k + i) := by simp [mtFrom]
theorem mt_step (cs : List Value) (k : Int) (n i : Nat) (h : i < n) (hn : cs.length = n) :
    (strs (mtFrom k i) ++ cs.drop i).set i (.string (mt (k + i))) = strs (mtFrom k (i + 1)) ++ cs.drop (i + 1) := by
  rw [drop_at (by omega), set_mid _ _ _ _ _ (by simp)]
  simp [strs, mtFrom, List.range_succ]
theorem strs_one (xs : List ByteArray) : ∀ u ∈ strs xs, u.oneCell' = true := by
  intro u hu
  simp only [strs, List.mem_map] at hu
  obtain ⟨s, _, rfl⟩ := hu
  rfl

set_option maxHeartbeats 1000000 in
theorem markStringS_c (B : Nat) (v : Value) (n : Nat) (cs : List Value) (k : Int) (w : World) (h : w.ownsRow B 9 1 v n cs) (hk : 0 ≤ k) (hk2 : k + n ≤ 9000000000000000000) :
    Calls Try.prog 55 #[v, .int .i64 k] w fun e w' => e = .returned (.int .i64 (k + n)) ∧ w'.ownsRow B 9 1 v n (strs (mtFrom k n)) ∧ w.grownBy w' v.ownBlock := by
  rcases h.2 with ⟨rfl, rfl⟩ | ⟨g, cap, cur, rfl, hB1, hh, hc1, hc2, hc3, hc4⟩
  · go_enter Try.func55, Try.ntmps55
    go_wp2
    refine wp_loop_rounds 1 ?_; rw [rounds_succ]; go_wp2
    go_ret
    exact ⟨ret_int (by simp), by simpa [mtFrom, strs] using World.ownsRow_nil w B 9 1, World.grownBy.refl _ _⟩
  · have hl := h.1
    unfold maxLen at hc2
    clear hh hc3 hc4
    go_enter Try.func55, Try.ntmps55
    go_wp2_with fail
    go_loopw [1, 5] (fun kk i wr => ∃ j : Nat, j ≤ n ∧ i = .int .i64 j ∧ kk = .int .i64 (k + j) ∧ wr.ownsRow B 9 1 (.slice (some ⟨g, 0, none⟩) n cap) n (strs (mtFrom k j) ++ cs.drop j) ∧ w.grownBy wr (some g)) (fun _ i _ => n - (intOf i).toNat)
    case atStart => exact ⟨0, by omega, rfl, by simp, by simpa [strs, mtFrom] using h, World.grownBy.refl _ _⟩
    case round =>
      obtain ⟨j, hj, rfl, rfl, hown, hg⟩ := hrel
      by_cases hlt : j < n
      · have HO := Lib.hid hown
        clear hown
        go_wp2_with (go_at_call 54; refine (markText_c _ _ (by omega) (by omega)).mono ?_; rintro e w2 ⟨rfl, hb2⟩; have hown2 := own_below HO.out hb2; have hf2 := hown2.frozenAt j; obtain ⟨y, hy⟩ : ∃ y, w2.cell? ⟨g, j, none⟩ = some y := (by rw [hown2.cellAt j (by omega)]; exact ⟨_, List.getElem?_eq_getElem (by rw [hown2.1]; omega)⟩))
        have hst := hown2.stored j (.string (mt (k + j)))
        rw [mt_step cs k n j hlt (by omega)] at hst
        have hgg : w.grownBy (w2.setCell ⟨g, j, none⟩ (.string (mt (k + j)))) (some g) := (hg.trans (below_grown hb2 _)).trans hst.2
        have hst := hst.1
        go_roundw
        case rel => exact ⟨j + 1, by omega, by go_num, by go_num, hst, hgg⟩
        case measure => simp [intOf]; omega
      · have hjn : j = n := by omega
        have hown' : wr.ownsRow B 9 1 (.slice (some ⟨g, 0, none⟩) n cap) n (strs (mtFrom k n)) := by
          rw [hjn, List.drop_of_length_le (by omega), List.append_nil] at hown; exact hown
        have HJ := Lib.hid hjn; clear hjn
        go_wp2_with fail
        go_ret
        exact ⟨ret_int (by rw [HJ.out]), hown', hg⟩

abbrev OwnSR (w : World) (lo hi : Nat) (v : Value) (xs : List ByteArray) : Prop := OwnIn 9 1 lo hi w v xs.length (strs xs)
theorem OwnSR.at_ {lo hi : Nat} {w : World} {v : Value} {xs : List ByteArray} (h : OwnSR w lo hi v xs) : StrsAt w v xs := OwnIn.at_ h
theorem OwnStrs.toR {B : Nat} {w : World} {v : Value} {xs : List ByteArray} (h : OwnStrs w B v xs) : OwnSR w B w.heap.size v xs := OwnIn.of h
theorem OwnSR.keep {lo hi : Nat} {w w' : World} {v : Value} {xs : List ByteArray} (h : OwnSR w lo hi v xs) (hs : SameIn lo hi w w') : OwnSR w' lo hi v xs := OwnIn.keep h hs
theorem OwnSR.hiLe {lo hi : Nat} {w : World} {v : Value} {xs : List ByteArray} (h : OwnSR w lo hi v xs) : hi ≤ w.heap.size := h.2.2

theorem markStringS_r (v : Value) (xs : List ByteArray) (lo hi : Nat) (k : Int) (w : World) (h : OwnSR w lo hi v xs) (hk : 0 ≤ k) (hk2 : k + xs.length ≤ 9000000000000000000) :
    Calls Try.prog 55 #[v, .int .i64 k] w fun e w' => e = .returned (.int .i64 (k + xs.length)) ∧ OwnSR w' lo hi v (mtFrom k xs.length) ∧ OutOf lo hi w w' := by
  exact (markStringS_c lo v xs.length (strs xs) k w h.1 hk hk2).mono fun e w' ⟨he, ho, hg⟩ =>
    ⟨he, ⟨by simpa using ho, h.2.1, Nat.le_trans h.2.2 hg.size⟩, OutOf.of_grown hg fun b hb => ⟨(h.1.lt b hb).1, h.2.1 b hb⟩⟩

set_option maxHeartbeats 1000000 in
theorem heldStringS_n (v : Value) (xs : List ByteArray) (k : Int) (w : World) (h : StrsAt w v (mtFrom k xs.length)) (hk : 0 ≤ k) (hk2 : k + xs.length ≤ 9000000000000000000) :
    Calls Try.prog 56 #[v, .int .i64 k] w fun e w' => e = .returned (.int .i64 (k + xs.length)) ∧ Below w.heap.size w w' := by
  obtain ⟨_, ao, cap, rfl, h1, h2, h3⟩ := h
  rw [mtFrom_length] at h1 h3
  unfold maxLen at h2
  simp only [mtFrom_length]
  generalize xs.length = n at *
  go_enter Try.func56, Try.ntmps56
  go_wp2_with fail
  go_loopw [1, 5] (fun kk i wr => ∃ j : Nat, j ≤ n ∧ i = .int .i64 j ∧ kk = .int .i64 (k + j) ∧ Below w.heap.size w wr) (fun _ i _ => n - (intOf i).toNat)
  case atStart => exact ⟨0, by omega, rfl, by simp, Below.refl _ _⟩
  case round =>
    obtain ⟨j, hj, rfl, rfl, hb⟩ := hrel
    by_cases hlt : j < n
    · obtain ⟨b, off, rfl, h4, h5⟩ := h3 (by omega)
      have hc : wr.cell? ⟨b, off + j, none⟩ = some (.string (mt (k + j))) := by
        rw [hb.cell (p := ⟨b, off + j, none⟩) h4, h5 j (by simpa using hlt)]
        simp [strs, mtFrom]
      have hbe : ((mt (k + j)).toList == (mt (k + j)).toList) = true := by simp
      have hk0 : (0 : Int) ≤ (j : Int) := by omega
      have hk1 : (j : Int) < (n : Int) := by omega
      have hw0 : b < wr.heap.size := by have := hb.size; omega
      have r0 := BW.cell hw0 hc
      have hq := fun x : BW wr => markText_c (k + j) x.w (by omega) (by omega)
      have HQ := Lib.hid hq; clear hq
      generalize mt (k + j) = m at *
      go_wp2_with fail
      refine wp_region_bw (by kernel_rfl) (by kernel_rfl) ?_
      repeat (first
        | go_big_quiet_skip
        | (go_big_quiet_want; go_big_quiet_op; first | go_big_quiet_on | (apply Exists.intro; refine ⟨fun _ => ?_, ?_⟩; ((go_at_call 54; exact BW.call (HQ.out _))); go_big_quiet_on)))
      refine wpQuiet_nil ?_
      rintro _ ⟨xq, rfl⟩
      go_wp2_with fail
      go_roundw
      case rel => exact ⟨j + 1, by omega, by go_num, by go_num, below_step hb xq.h⟩
      case measure => simp [intOf]; omega
    · have hjn : j = n := by omega
      have HJ := Lib.hid hjn; clear hjn
      go_wp2_with fail
      go_ret
      exact ⟨ret_int (by rw [HJ.out]), hb⟩

end Go.Proofs.Ytilomfpomibimaa
