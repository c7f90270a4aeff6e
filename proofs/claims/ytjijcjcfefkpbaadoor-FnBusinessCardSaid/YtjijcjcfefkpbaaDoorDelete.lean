/- Contracts: slices.DeleteFunc at ints, removal of a number. No conditions beyond sizes. -/
import Derived.Test.YtjijcjcfefkpbaaDoorInts2
import Derived.Test.YtjijcjcfefkpbaaDoorIdxF
import Derived.Lib.SliceRun
namespace Go.Proofs.YtjijcjcfefkpbaaDoor
open Go.RowKit
set_option linter.unusedVariables false
set_option linter.unusedSimpArgs false

theorem ints_put (xs : List Int) (k : Nat) (x : Int) : (ints xs).set k (.int .i64 x) = ints (xs.set k x) := by simp [ints, List.map_set]

theorem own_setCells {e base g cap N : Nat} (news : List Value) : ∀ (w : World) (i : Nat) (cs : List Value), w.ownsRow base e 1 (.slice (some ⟨g, 0, none⟩) N cap) N cs → i + news.length ≤ N →
    (w.setCells g i news).ownsRow base e 1 (.slice (some ⟨g, 0, none⟩) N cap) N (cs.take i ++ news ++ cs.drop (i + news.length)) ∧ w.grownBy (w.setCells g i news) (some g) := by
  induction news with
  | nil => intro w i cs h hi; exact ⟨by simpa [World.setCells] using h, World.grownBy.refl _ _⟩
  | cons v r ih =>
    intro w i cs h hi
    simp only [List.length_cons] at hi
    have h1 := h.stored i v
    have h2 := ih _ (i + 1) _ h1.1 (by omega)
    have hl : cs.length = N := by simpa using h.1
    refine ⟨?_, h1.2.trans h2.2⟩
    have e1 : (cs.set i v).take (i + 1) ++ r ++ (cs.set i v).drop (i + 1 + r.length) = cs.take i ++ v :: r ++ cs.drop (i + (r.length + 1)) := by
      have hd : (cs.set i v).drop (i + 1 + r.length) = cs.drop (i + (r.length + 1)) := by
        rw [List.drop_set, if_pos (by omega)]
        congr 1; omega
      have ht : (cs.set i v).take (i + 1) = cs.take i ++ [v] := by
        rw [List.take_set, take_at (by omega : i < cs.length), set_mid _ _ _ [] _ (by simp; omega)]
      rw [hd, ht]
      simp
    have e2 : i + (v :: r).length = i + (r.length + 1) := by simp
    rw [e2, ← e1]
    exact h2.1

theorem own_cut {w : World} {base e size n m cap : Nat} {ao : Option Addr} {cs : List Value} (h : w.ownsRow base e size (.slice ao n cap) n cs) (hm : m ≤ n) : ao ≠ none → w.ownsRow base e size (.slice ao m cap) m (cs.take (m * size)) := by
  intro hne
  obtain ⟨hl, h2⟩ := h
  rcases h2 with ⟨hv, _⟩ | ⟨g, cap', cur, hv, hg, hh, h1, h3, h4, h5⟩
  · injection hv with h6; exact absurd h6 hne
  · injection hv with h6 h7 h8
    subst h6 h8
    have hms : m * size ≤ n * size := Nat.mul_le_mul_right _ hm
    refine ⟨by rw [List.length_take, hl]; omega, .inr ⟨g, _, cur, rfl, hg, hh, by omega, h3, h4, ?_⟩⟩
    rw [← h5, List.take_take, Nat.min_eq_left hms]

section
variable {P : Program}
theorem wpList_clear {w : World} {ops : Array Oper} {rest : List Oper} {o : Oper} {a : Act} {Q : Exit → Act → World → Prop} (hgd : o.guard = none) (x : Operand) (t : TypeId)
    (ho : o.op = .call { callee := .builtin .clear, args := #[x], argTypes := #[t] }) (e : TypeId) (z : Value) (ht : P.underlying t = some (.slice e)) (hv : ∀ w, (zeroValue e).run P w = .ok z w) (hz : z.cells = #[z]) (h1 : z.oneCell' = true)
    (b off n c : Nat) (hx : a.eval x = .slice (some ⟨b, off, none⟩) n c) (hn : 0 < n)
    (hc : ∀ j, j < n → (w.cell? ⟨b, off + j, none⟩).isSome = true) (hf : ∀ j, j < n → w.frozen? ⟨b, off + j, none⟩ = false)
    (h : wpList P ops Q rest (a.put o.dst (.tuple #[])) (w.setCells b off (List.replicate n z))) : wpList P ops Q (o :: rest) a w := by
  refine wpList_plain hgd fun _ hK => ?_
  have hr := Lib.run_clear_slice (P := P) w t e o.type z ht hv hz h1 b off n c hn hc hf
  unfold Oper.wp execOp
  simp only [ho, resolve, invoke, builtin, Sem.run_bind, Sem.run_pure, Result.andThen_ok, List.map_toArray, List.map_cons, List.map_nil, hx, hr]
  exact hK _ _ h
end

/-- What is kept of a list. -/
def keepF {α : Type} (p : α → Bool) (xs : List α) : List α := xs.filter fun x => !p x

theorem keep_idx {α : Type} (p : α → Bool) (xs : List α) (i : Nat) (h : idxFrom p 0 xs = i) : i < xs.length ∧ keepF p (xs.take (i + 1)) = xs.take i := by
  have H : ∀ (i : Nat) (xs : List α) (k : Nat), idxFrom p k xs = ((k + i : Nat) : Int) → i < xs.length ∧ keepF p (xs.take (i + 1)) = xs.take i := by
    clear h xs i
    intro i
    induction i with
    | zero =>
      intro xs k h
      cases xs with
      | nil => simp [idxFrom] at h
      | cons a r =>
        simp only [idxFrom] at h
        cases hp : p a with
        | true => simp [keepF, hp]
        | false =>
          rw [hp] at h
          simp only [Bool.false_eq_true, if_false] at h
          have hb : ∀ (l : List α) (k m : Nat), idxFrom p k l = (m : Int) → k ≤ m := by
            intro l
            induction l with
            | nil => intro k m h; simp [idxFrom] at h
            | cons b l ih =>
              intro k m h
              simp only [idxFrom] at h
              split at h
              · omega
              · have := ih _ _ h; omega
          have := hb _ _ _ h
          omega
    | succ i ih =>
      intro xs k h
      cases xs with
      | nil => simp [idxFrom] at h; omega
      | cons a r =>
        simp only [idxFrom] at h
        cases hp : p a with
        | true => rw [hp] at h; simp at h; omega
        | false =>
          rw [hp] at h
          simp only [Bool.false_eq_true, if_false] at h
          obtain ⟨h1, h2⟩ := ih r (k + 1) (by rw [h]; congr 1; omega)
          refine ⟨by simp; omega, ?_⟩
          simp only [List.take_succ_cons]
          simp only [keepF] at h2 ⊢
          rw [List.filter_cons, hp]
          simp [h2]
  exact H i xs 0 (by simpa using h)

theorem keep_none {α : Type} (p : α → Bool) (xs : List α) (h : idxFrom p 0 xs = -1) : keepF p xs = xs := by
  have := idxBy_neg p xs
  rw [← idxFrom_eq, h] at this
  unfold keepF
  rw [List.filter_eq_self]
  intro x hx
  have hn : ¬ p x = true := fun hp => by
    have : xs.any p = true := List.any_eq_true.2 ⟨x, hx, hp⟩
    simp_all
  simpa using hn

/-- One more number is looked at. -/
theorem keep_out {α : Type} (p : α → Bool) {xs : List α} {j : Nat} (hj : j < xs.length) (h : p xs[j] = true) : keepF p (xs.take (j + 1)) = keepF p (xs.take j) := by
  rw [take_at hj]; simp only [keepF, List.filter_append]; simp [h]
theorem keep_in {α : Type} (p : α → Bool) {xs : List α} {j : Nat} (hj : j < xs.length) (h : p xs[j] = false) : keepF p (xs.take (j + 1)) = keepF p (xs.take j) ++ [xs[j]] := by
  rw [take_at hj]; simp only [keepF, List.filter_append]; simp [h]

/-- Where a removal stands: cs is what lies there, i are kept of the first j of xs. -/
def Kept (p : Int → Bool) (xs cs : List Int) (i j : Nat) : Prop := cs.length = xs.length ∧ i < j ∧ j ≤ xs.length ∧ cs.take i = keepF p (xs.take j) ∧ cs.drop j = xs.drop j
theorem Kept.get {p : Int → Bool} {xs cs : List Int} {i j : Nat} (h : Kept p xs cs i j) (hj : j < xs.length) : cs[j]'(by rw [h.1]; exact hj) = xs[j] := by
  obtain ⟨h1, h2, h3, h4, h5⟩ := h
  rw [drop_at hj, drop_at (by omega)] at h5
  exact (List.cons.inj h5).1
theorem Kept.out {p : Int → Bool} {xs cs : List Int} {i j : Nat} (h : Kept p xs cs i j) (hj : j < xs.length) (hp : p xs[j] = true) : Kept p xs cs i (j + 1) := by
  obtain ⟨h1, h2, h3, h4, h5⟩ := h
  refine ⟨h1, by omega, by omega, by rw [keep_out p hj hp]; exact h4, ?_⟩
  rw [drop_at hj, drop_at (by omega)] at h5
  exact (List.cons.inj h5).2
theorem Kept.into {p : Int → Bool} {xs cs : List Int} {i j : Nat} (h : Kept p xs cs i j) (hj : j < xs.length) (hp : p xs[j] = false) : Kept p xs (cs.set i xs[j]) (i + 1) (j + 1) := by
  obtain ⟨h1, h2, h3, h4, h5⟩ := h
  refine ⟨by simpa using h1, by omega, by omega, ?_, ?_⟩
  · rw [keep_in p hj hp, ← h4, List.take_set, take_at (by omega : i < cs.length), set_mid _ _ _ [] _ (by simp; omega)]
  · rw [drop_at hj, drop_at (by omega)] at h5
    rw [List.drop_set, if_pos (by omega)]
    exact (List.cons.inj h5).2
theorem Kept.done {p : Int → Bool} {xs cs : List Int} {i : Nat} (h : Kept p xs cs i xs.length) : cs.take i = keepF p xs ∧ (keepF p xs).length = i := by
  obtain ⟨h1, h2, h3, h4, h5⟩ := h
  rw [List.take_length] at h4
  exact ⟨h4, by rw [← h4]; simp; omega⟩

set_option maxHeartbeats 2000000 in
theorem DeleteFunc_intM (cf : Nat) (hcf : Enters Tryd.prog cf) (cap : List Value) (p : Int → Bool) (B : Nat) (v : Value) (xs : List Int) (w : World) (h : OwnInts w B v xs) (hB : B ≤ w.heap.size)
    (hp : ∀ x w', x ∈ xs → Below B w w' → Calls Tryd.prog cf (.int .i64 x :: cap).toArray w' fun e w'' => e = .returned (.bool (p x)) ∧ Below w'.heap.size w' w'') :
    Calls Tryd.prog 57 #[v, .func (.func cf) #[] cap.toArray] w fun e w' => ∃ u, e = .returned u ∧ OwnInts w' B u (keepF p xs) ∧ Below B w w' := by
  have hI := h.at_
  have hq := IndexFunc_intM cf hcf cap p v xs w hI (fun x w' hm hb => hp x w' hm (hb.mono hB))
  have HQ := Lib.hid hq; clear hq
  have HP := Lib.hid hp; clear hp
  have hcf := hcf.out
  cases hid : idxBy p xs with
  | negSucc m =>
    have hk : keepF p xs = xs := by
      have h1 := idxBy_neg p xs
      rw [hid] at h1
      have h2 : xs.any p = false := by rw [← h1]; simp
      unfold keepF
      rw [List.filter_eq_self]
      intro x hx
      have := List.any_eq_false.1 h2 x hx
      simpa using this
    have hm : m = 0 := by
      unfold idxBy at hid
      split at hid
      · cases hid
      · injection hid with h1; omega
    subst hm
    have hid' : idxBy p xs = -1 := hid
    have HI := Lib.hid hid'; clear hid hid'
    have HK := Lib.hid hk; clear hk
    rw [HK.out]
    obtain ⟨ao, n, rfl⟩ := hI.form
    go_enter Tryd.func57, Tryd.ntmps57
    go_wp2_with fail
    refine HQ.out.mono ?_
    rw [HI.out]
    rintro e w1 ⟨rfl, hb1⟩
    go_wp2_with fail
    go_ret
    exact ⟨_, rfl, OwnI.below h hb1, hb1.mono hB⟩
  | ofNat i0 =>
    have hid' : idxFrom p 0 xs = i0 := by rw [idxFrom_eq]; exact hid
    obtain ⟨hi0, hk0⟩ := keep_idx p xs i0 hid'
    have hid2 : idxBy p xs = (i0 : Int) := hid
    have HI := Lib.hid hid2; clear hid hid' hid2
    have HK : Hid (Kept p xs xs i0 (i0 + 1)) := ⟨rfl, by omega, by omega, hk0.symm, rfl⟩
    clear hk0
    have hmx := h
    rcases hmx.2 with ⟨rfl, hnil⟩ | ⟨g, cp, cur, rfl, hgB, hh, hc1, hc2, hc3, hc4⟩
    · exfalso
      have : xs = [] := by simpa [ints] using hnil
      subst this
      simp at hi0
    · unfold maxLen at hc2
      clear hh hc3 hc4
      have hne : (((i0 : Nat) : Int) == -1) = false := by simp
      go_enter Tryd.func57, Tryd.ntmps57
      go_wp2_with fail
      refine HQ.out.mono ?_
      rw [HI.out]
      rintro e w1 ⟨rfl, hb1⟩
      have h1 := OwnI.below h hb1
      have hb1' := hb1.mono hB
      go_wp2_with fail
      go_loopw [5, 6] (fun i j wr => ∃ (cs : List Int) (a b : Nat), i = .int .i64 a ∧ j = .int .i64 b ∧ a < b ∧ b ≤ xs.length ∧ Hid (Kept p xs cs a b) ∧ wr.ownsRow B 3 1 (.slice (some ⟨g, 0, none⟩) xs.length cp) xs.length (ints cs) ∧ Below B w wr) (fun _ j _ => xs.length - (intOf j).toNat)
      case atStart => exact ⟨xs, i0, i0 + 1, rfl, by go_num, by omega, by omega, HK, h1, hb1'⟩
      case round =>
        obtain ⟨cs, a, b, rfl, rfl, hab, hbn, hK, hown, hb⟩ := hrel
        clear h1 hb1' hb1
        have hcl : cs.length = xs.length := hK.out.1
        by_cases hlt : b < xs.length
        · have hget := hK.out.get hlt
          have hmem := List.getElem_mem hlt
          have hc : wr.cell? ⟨g, b, none⟩ = some (.int .i64 xs[b]) := by rw [hown.cellAt b (by omega), List.getElem?_eq_getElem (by simp; omega), ints_get _ _ (by omega), hget]
          have HCL := Lib.hid hcl
          clear hget hcl
          cases hpx : p xs[b] with
          | true =>
            have HK' : Hid (Kept p xs cs a (b + 1)) := hK.out.out hlt hpx
            have HPX := Lib.hid hpx; clear hpx hK
            generalize xs[b] = x at *
            have HME := Lib.hid hmem; clear hmem
            go_wp2_with fail
            refine (HP.out x _ HME.out hb).mono ?_
            rw [HPX.out]
            rintro e w2 ⟨rfl, hb2⟩
            have hown2 := own_below hown hb2
            have hb' : Below B w w2 := hb.trans (hb2.mono (by have := hb.size; omega))
            go_wp2_with fail
            go_roundw
            case rel => exact ⟨cs, a, b + 1, rfl, by go_num, by omega, by omega, HK', hown2, hb'⟩
            case measure => simp [intOf]; omega
          | false =>
            have HK' : Hid (Kept p xs (cs.set a xs[b]) (a + 1) (b + 1)) := hK.out.into hlt hpx
            have HPX := Lib.hid hpx; clear hpx hK
            generalize xs[b] = x at *
            have HME := Lib.hid hmem; clear hmem
            go_wp2_with fail
            refine (HP.out x _ HME.out hb).mono ?_
            rw [HPX.out]
            rintro e w2 ⟨rfl, hb2⟩
            have hown2 := own_below hown hb2
            have hb' : Below B w w2 := hb.trans (hb2.mono (by have := hb.size; omega))
            obtain ⟨y, hy⟩ : ∃ y, w2.cell? ⟨g, a, none⟩ = some y := by
              rw [hown2.cellAt a (by omega)]; exact ⟨_, List.getElem?_eq_getElem (by have := HCL.out; simp; omega)⟩
            have hf2 := hown2.frozenAt a
            have hst := (hown2.stored a (.int .i64 x)).1
            rw [ints_put] at hst
            clear hc
            go_wp2_with fail
            go_roundw
            case rel => exact ⟨cs.set a x, a + 1, b + 1, by go_num, by go_num, by omega, by omega, HK', hst, hb'.setCell (p := ⟨g, a, none⟩) hgB _⟩
            case measure => simp [intOf]; omega
        · have hbx : b = xs.length := by omega
          have HK' : Hid (Kept p xs cs a xs.length) := by rw [← hbx]; exact hK
          have hax : a < xs.length := by omega
          clear hK hlt
          obtain ⟨ii, hii, hz0, hz1, hz2⟩ := info_parts int_info
          have hzv : ∀ w, (zeroValue 3).run Tryd.prog w = .ok (Value.int .i64 0) w := by intro w; simp [zeroValue, typeInfo, hii, hz0]
          have hset := own_setCells (List.replicate (xs.length - a) (Value.int .i64 0)) wr a (ints cs) hown (by simp; omega)
          have hcut := own_cut hset.1 (m := a) (by omega) (by simp)
          have hbe : Below B w (wr.setCells g a (List.replicate (xs.length - a) (Value.int .i64 0))) := hb.grown hset.2 (by have := hb.size; omega) (by simpa using hgB)
          have hres : OwnInts (wr.setCells g a (List.replicate (xs.length - a) (Value.int .i64 0))) B (.slice (some ⟨g, 0, none⟩) a cp) (keepF p xs) := by
            unfold OwnInts OwnI
            rw [HK'.out.done.2]
            have e1 : ((ints cs).take a ++ List.replicate (xs.length - a) (Value.int .i64 0) ++ (ints cs).drop (a + (List.replicate (xs.length - a) (Value.int .i64 0)).length)).take (a * 1) = ints (keepF p xs) := by
              rw [← HK'.out.done.1, Nat.mul_one, List.append_assoc, List.take_append_of_le_length (by simp; omega)]
              simp [ints, List.map_take, List.take_take]
            rw [← e1]
            exact hcut
          clear hcut
          have hcc : ∀ j, j < xs.length - a → (wr.cell? ⟨g, a + j, none⟩).isSome = true := by
            intro j hj
            rw [hown.cellAt (a + j) (by omega), List.getElem?_eq_getElem (by simp; omega)]; rfl
          have hff : ∀ j, j < xs.length - a → wr.frozen? ⟨g, a + j, none⟩ = false := fun j hj => hown.frozenAt (a + j)
          have HC := Lib.hid hcc; clear hcc
          have HF := Lib.hid hff; clear hff
          have HR := Lib.hid hres; clear hres hset
          have HZ := Lib.hid hzv; clear hzv
          go_wp2_with ((with_reducible change Go.wpList _ _ _ (Oper.mk _ (Op.call _) _ _ _ _ :: _) _ _); refine wpList_clear rfl (.tmp 38) _ rfl 3 (.int .i64 0) Tryd.underlying22 HZ.out rfl rfl g a (xs.length - a) (cp - a) rfl (by omega) HC.out HF.out ?_)
          go_ret
          exact ⟨_, rfl, HR.out, hbe⟩

theorem DeleteFunc_int (cf : Nat) (hcf : Enters Tryd.prog cf) (cap : List Value) (p : Int → Bool) (B : Nat) (v : Value) (xs : List Int) (w : World) (h : OwnInts w B v xs) (hB : B ≤ w.heap.size)
    (hp : ∀ x w', Below B w w' → Calls Tryd.prog cf (.int .i64 x :: cap).toArray w' fun e w'' => e = .returned (.bool (p x)) ∧ Below w'.heap.size w' w'') :
    Calls Tryd.prog 57 #[v, .func (.func cf) #[] cap.toArray] w fun e w' => ∃ u, e = .returned u ∧ OwnInts w' B u (keepF p xs) ∧ Below B w w' :=
  DeleteFunc_intM cf hcf cap p B v xs w h hB fun x w' _ hb => hp x w' hb

end Go.Proofs.YtjijcjcfefkpbaaDoor
