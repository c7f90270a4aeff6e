/- How the laws' arguments read: from the form's readings to the words of Base. No conditions. -/
import Derived.Test.YtjijcjcfefkpbaaDoorRows
import Derived.Test.YtjijcjcfefkpbaaDoorBase
import Derived.Deep.Slices
import Derived.Deep.Fields
import Derived.ChangeSame
import Derived.ChangeOld
import Derived.Lib.SmallJoins
namespace Go.Proofs.YtjijcjcfefkpbaaDoor
open Go.RowKit Go.ChangeShapes Go.WideShapes Go.Deep Go.Joins
set_option linter.unusedVariables false
set_option linter.unusedSimpArgs false

section
variable {H : Type} {enc : TypeId × Value → H} {P : Program} {w : World} {base : Nat} {spare : Nat → Bool} {held : Bool}

theorem addr_form {w : World} {a : Addr} {u : Value} (h : w.cell? a = some u) : ∃ b off, a = ⟨b, off, none⟩ ∧ b < w.heap.size := by
  have hb := World.block_lt_of_cell? w a h
  obtain ⟨b, off, sp⟩ := a
  cases sp with
  | none => exact ⟨b, off, rfl, hb⟩
  | some s =>
    simp only [World.cell?] at h
    split at h <;> simp at h

theorem rd_ints {t e : TypeId} {fuel : Nat} {cs : List Value} {x : DataW H × List MemPlace} (ht : P.underlying t = some (.slice e)) (he : P.underlying e = some (.int .i64)) (hc : P.cellsOf e = 1)
    (h : DataW.trod enc P w base spare held fuel t cs = some x) : ∃ v xs, cs = [v] ∧ IntsAt w v xs := by
  rcases open_ints ht he hc h with ⟨hcs, _⟩ | ⟨a, l, c, zs, hcs, _, hl, hm, hz, _, hcell, hwz⟩
  · exact ⟨_, [], hcs, RowAt.nil w 1⟩
  · have hlz : l ≤ zs.length := by rw [hz]; split <;> omega
    have hlen : (zs.take l).length = l := by simp; omega
    refine ⟨_, zs.take l, hcs, by simp, some a, c, by rw [hlen], by omega, hm, fun hn => ?_⟩
    rw [hlen] at hn
    obtain ⟨b', off', he', hb'⟩ : ∃ b' off', a = ⟨b', off', none⟩ ∧ b' < w.heap.size := by
      have := hcell 0 (by omega)
      simp only [Addr.add, if_true] at this
      exact addr_form this
    subst he'
    refine ⟨b', off', rfl, hb', fun k hk => ?_⟩
    have hk' : k < l := by simpa [hlen] using hk
    have := hcell k (by omega)
    rw [Addr.add_lit] at this
    rw [this]
    simp [ints, List.getD, show k < zs.length by omega]
/-- A struct of one-cell fields, its cells given: each field's cell and its reading. -/
theorem rd_fields {t : TypeId} {fs : Array Field} {fuel : Nat} {cs : List Value} {x : DataW H × List MemPlace} (hs : P.underlying t = some (.struct fs)) (hone : oneCellFields P fs = true) (hC : P.cellsOf t = fs.size)
    (h : DataW.trod enc P w base spare held fuel t cs = some x) :
    cs.length = fs.size ∧ ∀ (i : Nat) (f : Field), fs[i]? = some f → ∃ (c : Value) (y : DataW H × List MemPlace) (m : Nat), cs[i]? = some c ∧ DataW.trod enc P w base spare held m f.type [c] = some y := by
  obtain ⟨xs, n, _, _, hl, hlen, hf⟩ := DataW.trod_struct hs h
  refine ⟨hl.trans hC, fun i f hi => ?_⟩
  obtain ⟨ho, hk⟩ := hone_of hone i f hi
  have hil : i < fs.size := (Array.getElem?_eq_some_iff.1 hi).1
  have h1 := hf i f hi
  rw [ho, hk] at h1
  have hcs : i < cs.length := by omega
  rw [List.drop_eq_getElem_cons hcs] at h1
  have hys : xs[i]? = some (xs[i]'(by omega)) := List.getElem?_eq_getElem (by omega)
  exact ⟨cs[i], xs[i]'(by omega), n, List.getElem?_eq_getElem hcs, by rw [← hys]; exact h1⟩

/-- The same of a struct by value. -/
theorem rd_agg {r : Reach} {b0 : Nat} {t : TypeId} {fs : Array Field} {v : Value} {d : DataW H} {p : List MemPlace} (hs : P.underlying t = some (.struct fs)) (hone : oneCellFields P fs = true) (hC : P.cellsOf t = fs.size)
    (hv : Value.okWide P w r b0 t v) (h : DataW.Trod enc P w base spare held t v d p) :
    ∃ cs : List Value, v = .agg cs.toArray ∧ cs.length = fs.size ∧ ∀ (i : Nat) (f : Field), fs[i]? = some f → ∃ (c : Value) (y : DataW H × List MemPlace) (m : Nat), cs[i]? = some c ∧ DataW.trod enc P w base spare held m f.type [c] = some y := by
  obtain ⟨cs, rfl, hsz⟩ := okWide_struct hs hv
  obtain ⟨fuel, hf⟩ := h
  have := rd_fields hs hone hC (cs := cs.toList) (by simpa [Value.cells] using hf)
  exact ⟨cs.toList, rfl, this⟩

theorem rd_int {t : TypeId} {fuel : Nat} {c : Value} {x : DataW H × List MemPlace} (ht : P.underlying t = some (.int .i64)) (h : DataW.trod enc P w base spare held fuel t [c] = some x) :
    ∃ n : Int, c = .int .i64 n ∧ -9223372036854775808 ≤ n ∧ n ≤ 9223372036854775807 := by
  obtain ⟨n, hc, _, hw⟩ := DataW.trod_int ht h
  simp only [List.cons.injEq, and_true] at hc
  refine ⟨n, hc, ?_⟩
  simpa [Lit.wf, IntKind.min, IntKind.max, IntKind.signed, IntKind.bits] using hw

theorem list3 {α : Type} {l : List α} (h : l.length = 3) : ∃ a b c, l = [a, b, c] := by
  match l, h with
  | [a, b, c], _ => exact ⟨a, b, c, rfl⟩
theorem list2 {α : Type} {l : List α} (h : l.length = 2) : ∃ a b, l = [a, b] := by
  match l, h with
  | [a, b], _ => exact ⟨a, b, rfl⟩
theorem list5 {α : Type} {l : List α} (h : l.length = 5) : ∃ a b c d e, l = [a, b, c, d, e] := by
  match l, h with
  | [a, b, c, d, e], _ => exact ⟨a, b, c, d, e, rfl⟩

end

section
variable {H : Type} {enc : TypeId × Value → H} {w : World} {base : Nat} {spare : Nat → Bool} {held : Bool}

set_option maxRecDepth 100000 in
theorem open_session {r : Reach} {b0 : Nat} {v : Value} {d : DataW H} {p : List MemPlace} (hv : Value.okWide Tryd.prog w r b0 24 v) (h : DataW.Trod enc Tryd.prog w base spare held 24 v d p) :
    ∃ (en nu de : Int) (u : Value) (pr : List Int) (re : Int), v = .agg #[.int .i64 en, .int .i64 nu, .int .i64 de, u, .int .i64 re] ∧ IntsAt w u pr := by
  obtain ⟨cs, rfl, hl, hf⟩ := rd_agg Tryd.underlying24 (by kernel_rfl) (by kernel_rfl) hv h
  obtain ⟨c0, c1, c2, c3, c4, rfl⟩ := list5 hl
  obtain ⟨_, _, _, e0, h0⟩ := hf 0 _ rfl
  obtain ⟨_, _, _, e1, h1⟩ := hf 1 _ rfl
  obtain ⟨_, _, _, e2, h2⟩ := hf 2 _ rfl
  obtain ⟨_, _, _, e3, h3⟩ := hf 3 _ rfl
  obtain ⟨_, _, _, e4, h4⟩ := hf 4 _ rfl
  simp only [List.getElem?_cons_zero, List.getElem?_cons_succ, Option.some.injEq] at e0 e1 e2 e3 e4
  subst e0 e1 e2 e3 e4
  obtain ⟨en, rfl, _⟩ := rd_int Tryd.underlying3 h0
  obtain ⟨nu, rfl, _⟩ := rd_int Tryd.underlying3 h1
  obtain ⟨de, rfl, _⟩ := rd_int Tryd.underlying3 h2
  obtain ⟨u, pr, e, hi⟩ := rd_ints Tryd.underlying22 Tryd.underlying3 (by kernel_rfl) h3
  obtain ⟨re, rfl, _⟩ := rd_int Tryd.underlying3 h4
  simp only [List.cons.injEq, and_true] at e
  subst e
  exact ⟨en, nu, de, _, pr, re, rfl, hi⟩

set_option maxRecDepth 100000 in
theorem open_intS {r : Reach} {b0 : Nat} {v : Value} {d : DataW H} {p : List MemPlace} (hv : Value.okWide Tryd.prog w r b0 22 v) (h : DataW.Trod enc Tryd.prog w base spare held 22 v d p) :
    ∃ xs : List Int, IntsAt w v xs := by
  obtain ⟨a, l, c, rfl⟩ := okWide_slice Tryd.underlying22 hv
  obtain ⟨fuel, hf⟩ := h
  obtain ⟨v', xs, e, hi⟩ := rd_ints Tryd.underlying22 Tryd.underlying3 (by kernel_rfl) hf
  simp only [Value.cells, List.cons.injEq, and_true] at e
  subst e
  exact ⟨xs, hi⟩

set_option maxRecDepth 100000 in
theorem open_int1 {r : Reach} {b0 : Nat} {v : Value} {d : DataW H} {p : List MemPlace} (hv : Value.okWide Tryd.prog w r b0 3 v) (h : DataW.Trod enc Tryd.prog w base spare held 3 v d p) :
    ∃ x : Int, v = .int .i64 x ∧ -9223372036854775808 ≤ x ∧ x ≤ 9223372036854775807 := by
  obtain ⟨x, rfl, _, _, hw⟩ := open_int Tryd.underlying3 hv h
  exact ⟨x, rfl, by simpa [Lit.wf, IntKind.min, IntKind.max, IntKind.signed, IntKind.bits] using hw⟩
end
end Go.Proofs.YtjijcjcfefkpbaaDoor
