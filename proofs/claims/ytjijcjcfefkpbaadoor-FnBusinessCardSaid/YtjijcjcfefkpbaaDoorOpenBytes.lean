/- How an argument of bytes reads. No conditions. -/
import Derived.Test.YtjijcjcfefkpbaaDoorOpen
import Derived.Test.YtjijcjcfefkpbaaDoorCur
namespace Go.Proofs.YtjijcjcfefkpbaaDoor
open Go.RowKit Go.ChangeShapes Go.WideShapes Go.Deep Go.Joins
set_option linter.unusedVariables false
set_option linter.unusedSimpArgs false

section
variable {H : Type} {enc : TypeId × Value → H} {P : Program} {w : World} {base : Nat} {spare : Nat → Bool} {held : Bool}
theorem rd_bytes {t e : TypeId} {fuel : Nat} {cs : List Value} {x : DataW H × List MemPlace} (ht : P.underlying t = some (.slice e)) (he : P.underlying e = some (.int .u8)) (hc : P.cellsOf e = 1)
    (h : DataW.trod enc P w base spare held fuel t cs = some x) : ∃ v xs, cs = [v] ∧ BytesAt w v xs := by
  rcases open_ints ht he hc h with ⟨hcs, _⟩ | ⟨a, l, c, zs, hcs, _, hl, hm, hz, _, hcell, hwz⟩
  · exact ⟨_, [], hcs, RowAt.nil w 1, fun x hx => by cases hx⟩
  · have hlz : l ≤ zs.length := by rw [hz]; split <;> omega
    have hlen : (zs.take l).length = l := by simp; omega
    refine ⟨_, zs.take l, hcs, ⟨by simp [bytesL], some a, c, by rw [hlen], by omega, hm, fun hn => ?_⟩, fun x hx => ?_⟩
    · rw [hlen] at hn
      obtain ⟨b', off', he', hb'⟩ : ∃ b' off', a = ⟨b', off', none⟩ ∧ b' < w.heap.size := by
        have := hcell 0 (by omega)
        simp only [Addr.add, if_true] at this
        exact addr_form this
      subst he'
      refine ⟨b', off', rfl, hb', fun k hk => ?_⟩
      have hbl : (bytesL (zs.take l)).length = l := by unfold bytesL; rw [List.length_map, hlen]
      have hk' : k < l := by rw [hbl] at hk; exact hk
      have := hcell k (by omega)
      rw [Addr.add_lit] at this
      rw [this]
      simp [bytesL, List.getD, show k < zs.length by omega]
    · have := hwz x (List.mem_of_mem_take hx)
      simpa [Lit.wf, IntKind.min, IntKind.max, IntKind.signed, IntKind.bits] using this
end

section
variable {H : Type} {enc : TypeId × Value → H} {w : World} {base : Nat} {spare : Nat → Bool} {held : Bool}
set_option maxRecDepth 100000 in
theorem open_bytes {r : Reach} {b0 : Nat} {v : Value} {d : DataW H} {p : List MemPlace} (hv : Value.okWide Tryd.prog w r b0 32 v) (h : DataW.Trod enc Tryd.prog w base spare held 32 v d p) :
    ∃ xs : List Int, BytesAt w v xs := by
  obtain ⟨a, l, c, rfl⟩ := okWide_slice Tryd.underlying32 hv
  obtain ⟨fuel, hf⟩ := h
  obtain ⟨v', xs, e, hi⟩ := rd_bytes Tryd.underlying32 Tryd.underlying5 (by kernel_rfl) hf
  simp only [Value.cells, List.cons.injEq, and_true] at e
  subst e
  exact ⟨xs, hi⟩
end
end Go.Proofs.YtjijcjcfefkpbaaDoor
