/- Contracts: how many others each candidate beats, the program's. No conditions beyond sizes. -/
import Derived.Test.YtfonpkegaeebaaaRankU
import Derived.Deep.OwnRows
import Derived.Deep.DeepCutAuto
namespace Go.Proofs.Ytfonpkegaeebaaa
open Go.RowKit
set_option linter.unusedVariables false
set_option linter.unusedSimpArgs false

/-- One cell of the table: the row's value, and the number in the row; where the blocks lie. -/
theorem OwnTab.cell2 {w : World} {B : Nat} {ao : Option Addr} {cap N : Nat} {rs : List DRanking} (h : OwnTab w B (.slice ao N cap) (pairT N rs N)) {a b : Nat} (ha : a < N) (hb : b < N) :
    ∃ g gu uc, ao = some ⟨g, 0, none⟩ ∧ B ≤ g ∧ g < w.heap.size ∧ B ≤ gu ∧ gu < w.heap.size ∧ w.cell? ⟨g, a, none⟩ = some (.slice (some ⟨gu, 0, none⟩) N uc) ∧ w.cell? ⟨gu, b, none⟩ = some (.int .i64 (partP rs a b rs.length)) := by
  obtain ⟨es, he, hrow, hin, _, _⟩ := h
  have hel : es.length = N := by have := congrArg List.length he; simpa using this
  have hx : (pairT N rs N)[a]'(by simpa using ha) = es[a].2 := by simp [← he]
  rw [pairT_at] at hx
  have hu := hin es[a] (List.getElem_mem (by omega))
  simp only [id, ← hx] at hu
  have hpl : (pairRow N rs a).length = N := by simp [pairRow]
  have hrow' := hrow
  rcases hrow.2 with ⟨h1, h2⟩ | ⟨g, c, cur, h1, h2, h3, _⟩
  · omega
  · simp only [Value.slice.injEq] at h1
    obtain ⟨rfl, h1l, rfl⟩ := h1
    rw [hel] at hrow
    have hc := hrow.cellAt a (by omega)
    rw [ncs_tcell, List.getElem?_map, List.getElem?_eq_getElem (by omega)] at hc
    have hul := hu.lt
    unfold OwnI at hu
    rw [hpl] at hu
    rcases hu.2 with ⟨k1, k2⟩ | ⟨gu, uc, _, k1, k2, k3, _⟩
    · omega
    · rw [k1] at hu
      have hcu := hu.cellAt b (by omega)
      refine ⟨g, gu, uc, rfl, h2, (Array.getElem?_eq_some_iff.1 h3).1, k2, (Array.getElem?_eq_some_iff.1 k3).1, by rw [hc, ← k1]; rfl, ?_⟩
      rw [hcu]
      simp [pairRow, tab, ints, hb]

/-- The table of pairs lies in other blocks than g. -/
def TabOff (g : Nat) (w : World) (ao : Option Addr) (N : Nat) (rs : List DRanking) : Prop := ∀ a b : Nat, a < N → b < N →
    ∃ h gu uc, ao = some ⟨h, 0, none⟩ ∧ h ≠ g ∧ gu ≠ g ∧ h < w.heap.size ∧ gu < w.heap.size ∧ w.cell? ⟨h, a, none⟩ = some (.slice (some ⟨gu, 0, none⟩) N uc) ∧ w.cell? ⟨gu, b, none⟩ = some (.int .i64 (partP rs a b rs.length))
theorem TabOff.keep {g : Nat} {w w' : World} {ao : Option Addr} {N : Nat} {rs : List DRanking} (h : TabOff g w ao N rs) (ho : OutOf g (g + 1) w w') : TabOff g w' ao N rs := by
  intro a b ha hb
  obtain ⟨h0, gu, uc, h1, h2, h3, h4, h5, h6, h7⟩ := h a b ha hb
  have hs := ho.size
  refine ⟨h0, gu, uc, h1, h2, h3, by omega, by omega, ?_, ?_⟩
  · exact (World.cell?_of_block (w := w) (a := ⟨h0, a, none⟩) (ho.block h0 h4 (by omega))).trans h6
  · exact (World.cell?_of_block (w := w) (a := ⟨gu, b, none⟩) (ho.block gu h5 (by omega))).trans h7
theorem OwnTab.off {w : World} {B g : Nat} {ao : Option Addr} {cap N : Nat} {rs : List DRanking} (h : OwnTab w B (.slice ao N cap) (pairT N rs N)) (hg : g < B ∨ w.heap.size ≤ g) : TabOff g w ao N rs := by
  intro a b ha hb
  obtain ⟨h0, gu, uc, h1, h2, h3, h4, h5, h6, h7⟩ := h.cell2 ha hb
  exact ⟨h0, gu, uc, h1, by omega, by omega, h3, h5, h6, h7⟩

/-- The table and the row of zeros, made in whatever order. -/
def BeatAt (w wx : World) (N : Nat) (rs : List DRanking) (s t : Value) : Prop :=
  ∃ po pc g, s = .slice po N pc ∧ t = .slice (some ⟨g, 0, none⟩) N N ∧ wx.ownsRow w.heap.size 3 1 (.slice (some ⟨g, 0, none⟩) N N) N (ints (tab N (beatIt N rs 0 0))) ∧ TabOff g wx po N rs ∧ Below w.heap.size w wx

theorem beat_made {w0 : World} {N : Nat} {rs : List DRanking} (wx : World) (hw : wx = w0.alloc (.cells (madeCells #[.int .i64 0] N) 3)) (hN : N ≤ 5) :
    wx.ownsRow w0.heap.size 3 1 (.slice (some ⟨w0.heap.size, 0, none⟩) N N) N (ints (tab N (beatIt N rs 0 0))) := by
  subst hw
  rw [beatIt_zero]
  have e : (madeCells #[Value.int .i64 0] N).toList = ints (List.replicate N 0) := by simp [toList_madeCells_one, ints]
  have h := World.ownsRow_lit (base := w0.heap.size) (e := 3) (size := 1) w0 (madeCells #[.int .i64 0] N) N (Nat.le_refl _) (by unfold maxLen; omega) (by have := congrArg List.length e; simpa using this)
  rw [e] at h
  exact h

set_option maxHeartbeats 4000000 in
theorem i_beaten (N : Nat) (v : Value) (rs : List DRanking) (w : World) (h : RanksAt w v rs) (hN : N ≤ 5) (hr9 : rs.length ≤ 9) (hrs : ∀ r ∈ rs, r.order.length ≤ 5 ∧ 1 ≤ r.weight ∧ r.weight ≤ 100) :
    Calls Try.prog 37 #[.int .i64 (N : Int), v] w fun e w' => ∃ p, e = .returned p ∧ OwnInts w' w.heap.size p (beatsL N rs) ∧ Below w.heap.size w w' := by
  have HQ := Lib.hid (fun w' (hb : Below w.heap.size w w') => i_pairTable N v rs w' (h.below hb) hN hr9 hrs)
  obtain ⟨ao, cap, rfl⟩ := h.form
  clear hrs
  have hmk : ∀ w' : World, (Instr.makeSlice 27 (.int .i64 (N : Int)) (.int .i64 (N : Int))).run Try.prog w' = .ok (.slice (some ⟨w'.heap.size, 0, none⟩) N N) (w'.alloc (.cells (madeCells #[.int .i64 0] N) 3)) := fun w' => run_make_row' _ _ _ _ Try.underlying27 int_info rfl _ _ N (by omega) (by omega) w'
  go_enter Try.func37, Try.ntmps37
  go_upto_region 1 with fail
  go_cut [5, 6] (fun s t wx => BeatAt w wx N rs s t)
  case first =>
    go_region_with (first
      | (go_at_call 27; refine (HQ.out _ ?_).mono ?_; (first | exact Below.drew (Below.refl _ _) | go_grown); rintro e w1 ⟨p, rfl, ho, hb1⟩; obtain ⟨po, pc, hpf⟩ := ho.at_.form; rw [pairT_len] at hpf; subst hpf))
    · go_wp2_with fail
      go_meet
      have hb1' : Below w.heap.size w w1 := undrew hb1
      exact ⟨po, pc, w1.heap.size, rfl, rfl, own_base (beat_made _ rfl hN) hb1'.size, (OwnTab.off ho (.inr (Nat.le_refl _))).keep ((OutOf.refl _ _ _).alloc _), hb1'.alloc hb1'.size _⟩
    · go_wp2_with fail
      go_meet
      have ha := beat_made (N := N) (rs := rs) (w0 := w) _ rfl hN
      have hb0 : Below w.heap.size w (w.alloc (.cells (madeCells #[.int .i64 0] N) 3)) := (Below.refl _ _).alloc (Nat.le_refl _) _
      have hb1' : Below (w.alloc (.cells (madeCells #[.int .i64 0] N) 3)).heap.size (w.alloc (.cells (madeCells #[.int .i64 0] N) 3)) w1 := undrew hb1
      exact ⟨po, pc, w.heap.size, rfl, rfl, own_below ha hb1', OwnTab.off ho (.inl (by simp)), below_step hb0 hb1'⟩
  case rest =>
    clear hmk
    obtain ⟨po, pc, g, rfl, rfl, hown, HT, hbW⟩ := hcut
    rename World => wt
    have hg0 := hown.lt g rfl
    have HTT := Lib.hid HT; clear HT
    go_wp2_with fail
    go_loopw [15] (fun i wr => ∃ a : Nat, a ≤ N ∧ i = .int .i64 a ∧ wr.ownsRow w.heap.size 3 1 (.slice (some ⟨g, 0, none⟩) N N) N (ints (tab N (beatIt N rs a 0))) ∧ OutOf g (g + 1) wt wr) (fun i _ => N - (intOf i).toNat)
    case atStart => exact ⟨0, by omega, rfl, hown, OutOf.refl _ _ _⟩
    case round =>
      rename World => wa
      clear hown
      obtain ⟨a, ha, rfl, hown, hba⟩ := hrel
      by_cases hat : a < N
      · go_wp2_with fail
        go_loopw [19] (fun i wr => ∃ b : Nat, b ≤ N ∧ i = .int .i64 b ∧ wr.ownsRow w.heap.size 3 1 (.slice (some ⟨g, 0, none⟩) N N) N (ints (tab N (beatIt N rs a b))) ∧ OutOf g (g + 1) wt wr) (fun i _ => N - (intOf i).toNat)
        case atStart => exact ⟨0, by omega, rfl, hown, hba⟩
        case round =>
          rename World => wc
          clear hown hba
          obtain ⟨b, hb, rfl, hown, hbc⟩ := hrel
          by_cases hbt : b < N
          · have hoc := HTT.out.keep hbc
            obtain ⟨g0, gu, uc, hpo, n1, n2, l1, l2, c0, c1⟩ := hoc a b hat hbt
            obtain ⟨g1, gv, vc, hpo', n3, n4, l3, l4, c2, c3⟩ := hoc b a hbt hat
            subst hpo
            simp only [Option.some.injEq, Addr.mk.injEq, and_true] at hpo'
            subst hpo'
            have ha0 : (0 : Int) ≤ (a : Int) := by omega
            have ha1 : (a : Int) < (N : Int) := by omega
            have hb0 : (0 : Int) ≤ (b : Int) := by omega
            have hb1' : (b : Int) < (N : Int) := by omega
            have hcb := cnt_bd rs a b
            have hget := beatIt_get (N := N) (rs := rs) (a := a) (b := b) hat
            have hon := beatIt_on (N := N) (rs := rs) (a := a) (b := b) hat
            have hoff := beatIt_off (N := N) (rs := rs) (a := a) (b := b)
            unfold wins at hon hoff
            generalize partP rs (a : Int) (b : Int) rs.length = x at *
            generalize partP rs (b : Int) (a : Int) rs.length = y at *
            by_cases hxy : y < x
            · have hst := hon (decide_eq_true hxy)
              have q1 : wc.cell? ⟨g, a, none⟩ = some (.int .i64 (cnt rs a b)) := by rw [hown.cellAt a (by omega), ints_gety (by simpa using hat), hget]
              have q2 := hown.frozenAt a
              have q3 : (wc.setCell ⟨g, a, none⟩ (.int .i64 (cnt rs a b + 1))).ownsRow w.heap.size 3 1 (.slice (some ⟨g, 0, none⟩) N N) N (ints (tab N (beatIt N rs a (b + 1)))) := by rw [hst, ← ints_sety]; exact (hown.stored a _).1
              have q4 : OutOf g (g + 1) wt (wc.setCell ⟨g, a, none⟩ (.int .i64 (cnt rs a b + 1))) := hbc.set _
              have q6 := (hown.lt g rfl).2
              clear hown hoc hst hon hoff hget hbc
              generalize cnt rs a b = z at *
              go_wp2_with fail
              go_region
              all_goals go_wp2_with fail
              all_goals go_roundw
              all_goals first | (case rel => exact ⟨b + 1, by omega, by go_num, q3, q4.drew'⟩) | (case measure => simp [intOf]; omega)
            · have hst := hoff (decide_eq_false hxy)
              rw [← hst] at hown
              have hyx : x ≤ y := by omega
              clear hoc hst hon hoff hget
              go_wp2_with fail
              go_region
              all_goals go_wp2_with fail
              all_goals go_roundw
              all_goals first | (case rel => exact ⟨b + 1, by omega, by go_num, hown, hbc.drew'⟩) | (case measure => simp [intOf]; omega)
          · obtain rfl : N = b := by omega
            rw [beatIt_next] at hown
            go_wp2_with fail
            go_roundw
            case rel => exact ⟨a + 1, by omega, by go_num, hown, hbc⟩
            case measure => simp [intOf]; omega
      · obtain rfl : N = a := by omega
        rw [beatIt_done] at hown
        have hown' : OwnInts wa w.heap.size (.slice (some ⟨g, 0, none⟩) N N) (beatsL N rs) := by
          unfold OwnInts OwnI
          have : (beatsL N rs).length = N := by simp [beatsL]
          rw [this]; exact hown
        go_wp2_with fail
        go_ret
        exact ⟨_, rfl, hown', hbW.trans (hba.below hg0.1 hbW.size)⟩

end Go.Proofs.Ytfonpkegaeebaaa
