/- Rankings that an argument holds read as a list. No conditions. -/
import Derived.Test.YtoaknedogpnmhaaOpenRow
import Derived.Test.YtoaknedogpnmhaaRankS
namespace Go.Proofs.Ytoaknedogpnmhaa
open Go.RowKit Go.ChangeShapes Go.WideShapes Go.Deep Go.Joins
set_option linter.unusedVariables false
set_option linter.unusedSimpArgs false

section
variable {H : Type} {enc : TypeId × Value → H} {P : Program} {w : World} {base : Nat} {spare : Nat → Bool} {held : Bool}

theorem rd_nest {α : Type} [Inhabited α] (f : α → List Value) (R : α → Prop) (size : Nat) (hsz : ∀ x, (f x).length = size) (h0 : 0 < size) {t e : TypeId} {fuel : Nat} {cs : List Value} {x : DataW H × List MemPlace}
    (ht : P.underlying t = some (.slice e)) (hc : P.cellsOf e = size)
    (helem : ∀ (n : Nat) (cs' : List Value) (y : DataW H × List MemPlace), DataW.trod enc P w base spare held n e cs' = some y → ∃ x, cs' = f x ∧ R x)
    (h : DataW.trod enc P w base spare held fuel t cs = some x) : ∃ (v : Value) (xs : List α), cs = [v] ∧ RowAt w v xs.length size (xs.flatMap f) ∧ ∀ x ∈ xs, R x := by
  rcases open_slice ht h with ⟨rfl, _⟩ | ⟨a, len, cap, m, n, D, Pl, rfl, hb, hl, hm, hmm, _, hx⟩
  · exact ⟨_, [], rfl, RowAt.nil w size, by simp⟩
  · have hlm : len ≤ m := by rw [hmm]; split <;> omega
    rw [hc] at hx
    obtain ⟨X, hX⟩ := choose_lt (α := α) (n := len) (p := fun i x => (∀ j, j < size → w.cell? ((a.add (i * size)).add j) = (f x)[j]?) ∧ R x) (fun i hi => by
      obtain ⟨cs', h1, h2⟩ := hx i (by omega)
      obtain ⟨_, _, h3⟩ := World.cells?_some h1
      obtain ⟨x, rfl, hR⟩ := helem _ _ _ h2
      exact ⟨x, h3, hR⟩)
    refine ⟨_, (List.range len).map X, rfl, ⟨by rw [flat_length f size hsz], some a, cap, by simp, by simpa using hl, hm, fun hn => ?_⟩, ?_⟩
    · have hn' : 0 < len := by simpa using hn
      have hf0 : ∃ u, (f (X 0))[0]? = some u := ⟨_, List.getElem?_eq_getElem (by rw [hsz]; exact h0)⟩
      obtain ⟨u0, hu0⟩ := hf0
      have hc0 := (hX 0 hn').1 0 h0
      rw [hu0] at hc0
      obtain ⟨b', off', he', hb'⟩ : ∃ b' off', a = ⟨b', off', none⟩ ∧ b' < w.heap.size := by
        refine addr_form (u := u0) ?_
        simpa [Addr.add] using hc0
      subst he'
      refine ⟨b', off', rfl, hb', fun k hk => ?_⟩
      have hk' : k < len * size := by rw [flat_length f size hsz] at hk; simpa using hk
      have hi : k / size < len := Nat.div_lt_of_lt_mul (by rw [Nat.mul_comm]; exact hk')
      have hj : k % size < size := Nat.mod_lt _ h0
      have hkk : k / size * size + k % size = k := Nat.div_add_mod' k size
      have h4 := (hX _ hi).1 _ hj
      have h5 := flat_get f size hsz ((List.range len).map X) (k / size) (k % size) (by simpa using hi) hj
      rw [hkk] at h5
      simp only [List.getElem_map, List.getElem_range] at h5
      rw [← h5, List.getElem?_eq_getElem hk, add_add, hkk, Addr.add_lit] at h4
      exact h4
    · intro x hx
      simp only [List.mem_map, List.mem_range] at hx
      obtain ⟨i, hi, rfl⟩ := hx
      exact (hX i hi).2
end

instance : Inhabited DRanking := ⟨⟨[], 0⟩⟩
instance : Inhabited (Value × DRanking) := ⟨(.bool false, ⟨[], 0⟩)⟩

section
variable {H : Type} {enc : TypeId × Value → H} {w : World} {base : Nat} {spare : Nat → Bool} {held : Bool}

theorem rd_ranking (n : Nat) (cs : List Value) (y : DataW H × List MemPlace) (h : DataW.trod enc Try.prog w base spare held n 76 cs = some y) : ∃ x : Value × DRanking, cs = rcell x.1 x.2 ∧ IntsAt w x.1 x.2.order := by
  obtain ⟨hl, hf⟩ := rd_fields Try.underlying76 (by kernel_rfl) (by kernel_rfl) h
  obtain ⟨c0, c1, rfl⟩ := list2 hl
  obtain ⟨_, _, _, e0, h0⟩ := hf 0 _ rfl
  obtain ⟨_, _, _, e1, h1⟩ := hf 1 _ rfl
  simp only [List.getElem?_cons_zero, List.getElem?_cons_succ, Option.some.injEq] at e0 e1
  subst e0 e1
  obtain ⟨u, xs, e, hi⟩ := rd_ints Try.underlying27 Try.underlying3 (by kernel_rfl) h0
  obtain ⟨b, rfl, _⟩ := rd_int Try.underlying3 h1
  simp only [List.cons.injEq, and_true] at e
  subst e
  exact ⟨(_, ⟨xs, b⟩), rfl, hi⟩

theorem open_rankings {r : Reach} {b0 : Nat} {v : Value} {d : DataW H} {p : List MemPlace} (hv : Value.okWide Try.prog w r b0 46 v) (h : DataW.Trod enc Try.prog w base spare held 46 v d p) :
    ∃ xs : List DRanking, RanksAt w v xs := by
  obtain ⟨a, l, c, rfl⟩ := okWide_slice Try.underlying46 hv
  obtain ⟨fuel, hf⟩ := h
  obtain ⟨v', es, e, hi, hR⟩ := rd_nest (fun p : Value × DRanking => rcell p.1 p.2) (fun p => IntsAt w p.1 p.2.order) 2 (fun _ => rfl) (by omega) Try.underlying46 (by kernel_rfl) rd_ranking hf
  simp only [Value.cells, List.cons.injEq, and_true] at e
  subst e
  exact ⟨es.map Prod.snd, es, rfl, hi, hR⟩

end
end Go.Proofs.Ytoaknedogpnmhaa
