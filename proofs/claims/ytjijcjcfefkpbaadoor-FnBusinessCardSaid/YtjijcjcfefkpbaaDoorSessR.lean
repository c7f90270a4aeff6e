/- Contracts on sessions that are changed: recess, minutes, coming and going; marks. -/
import Derived.Test.YtjijcjcfefkpbaaDoorSess
import Derived.Test.YtjijcjcfefkpbaaDoorInts2
import Derived.Deep.RegionWith
namespace Go.Proofs.YtjijcjcfefkpbaaDoor
open Go.RowKit
set_option linter.unusedVariables false
set_option linter.unusedSimpArgs false

structure DSess where
  en : Int
  nu : Int
  de : Int
  pr : List Int
  re : Int

def zeroSess : DSess := ⟨0, 0, 0, [], 0⟩
theorem own_zero (w : World) (B : Nat) : OwnInts w B (.slice none 0 0) zeroSess.pr := World.ownsRow_nil w B 3 1

theorem s_l16With (en nu de : Int) (v0 : Value) (re : Int) (ao : Option Addr) (n cap : Nat) (re' : Int) (w : World) (h0 : ∃ a k c, v0 = .slice a k c) :
    Calls Tryd.prog 52 #[vSess en nu de v0 re, .slice ao n cap, .int .i64 re'] w fun e w' => e = .returned (vSess en nu de (.slice ao n cap) re') ∧ Below w.heap.size w w' := by
  obtain ⟨a, k, c, rfl⟩ := h0
  go_enter Tryd.func52, Tryd.ntmps52
  go_wp2
  go_returns
  exact ⟨rfl, by go_grown⟩

/-- BeginRecess. -/
def beginRecess (s : DSess) (x : Int) : DSess × Bool := if sessOk s.en s.nu s.de s.pr s.re && (s.re == 0) && inB x 1 1439 then ({ s with re := x }, true) else (zeroSess, false)
abbrev vSessOk (R : DSess × Bool) (u : Value) : Value := .tuple #[vSess R.1.en R.1.nu R.1.de u R.1.re, .bool R.2]

theorem beginRecess_len (s : DSess) (x : Int) (h : s.pr.length ≤ 1048576) : (beginRecess s x).1.pr.length ≤ 4000000 := by
  unfold beginRecess; split <;> simp [zeroSess] <;> omega

set_option maxHeartbeats 1000000 in
theorem i_newSession (en nu de : Int) (v : Value) (pr : List Int) (re : Int) (w : World) (h : IntsAt w v pr) (hn : pr.length ≤ 1048576) :
    Calls Tryd.prog 41 #[vSess en nu de v re] w fun e w' => ∃ u, e = .returned (vSess en nu de u re) ∧ OwnInts w' w.heap.size u pr ∧ Below w.heap.size w w' := by
  obtain ⟨ao, cap, rfl⟩ := h.form
  obtain ⟨W, hW⟩ : ∃ W, W = (w.alloc (.cells #[.int .i64 en, .int .i64 nu, .int .i64 de, .slice ao pr.length cap, .int .i64 re] 28)).alloc (.cells #[.int .i64 0, .int .i64 0, .int .i64 0, .slice none 0 0, .int .i64 0] 28) := ⟨_, rfl⟩
  have bP : BoxAt W w.heap.size #[.int .i64 en, .int .i64 nu, .int .i64 de, .slice ao pr.length cap, .int .i64 re] := by rw [hW]; exact (BoxAt.new _ _ _).alloc _
  have bR : BoxAt W (w.heap.size + 1) #[.int .i64 0, .int .i64 0, .int .i64 0, .slice none 0 0, .int .i64 0] := by rw [hW]; exact BoxAt.new_at _ _ _ _ (by simp)
  have hWb : Below w.heap.size w W := by rw [hW]; go_grown
  have hI : IntsAt W (.slice ao pr.length cap) pr := h.below hWb
  have HW := Lib.hid hW; clear hW
  have p0 := bP.cells
  go_enter Tryd.func41, Tryd.ntmps41
  go_wp2_with fail
  rw [← HW.out]
  go_wp2_with fail
  refine (i_copyInts _ pr _ hI (by omega)).mono ?_
  rintro e w1 ⟨u, rfl, ho, hb1⟩
  obtain ⟨a1, k1, rfl⟩ := ho.at_.form
  have B1 := bR.below hb1; have P1 := bP.below hb1
  have p1 := P1.cells; have n1 := B1.cells; have f1 := B1.free; have q1 := P1.free
  clear p0
  go_wp2_with fail
  have hB1 : w.heap.size + 1 < W.heap.size := bR.1
  refine bodyPost_ret (v := vSess en nu de (.slice a1 pr.length k1) re) (by simp [results, Tryd.results41, go_sem, n1]) rfl ⟨_, rfl, ?_, ?_⟩
  · exact own_base (fin_own2 (lo := w.heap.size) (b := w.heap.size + 1) ho (Below.refl _ _) (by repeat (first | with_reducible exact OutOf.refl _ _ _ | with_reducible refine OutOf.setIn ?_ ?_ ?_ _ | (simp; done) | omega)) hB1) hWb.size
  · exact fin_below2 (lo := w.heap.size) (hi := w.heap.size + 2) (hWb.trans (hb1.mono hWb.size)) (by repeat (first | with_reducible exact OutOf.refl _ _ _ | with_reducible refine OutOf.setIn ?_ ?_ ?_ _ | (simp; done) | omega)) (Nat.le_refl _)

end Go.Proofs.YtjijcjcfefkpbaaDoor
