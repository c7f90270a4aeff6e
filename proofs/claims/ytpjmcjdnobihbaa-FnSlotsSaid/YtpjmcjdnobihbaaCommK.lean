/- Plain facts on a committee put into a list in the order of names. Of no program. No conditions. -/
import Derived.Test.YtpjmcjdnobihbaaCommJ
namespace Go.Proofs.Ytpjmcjdnobihbaa
open Go.RowKit
set_option linter.unusedVariables false
set_option linter.unusedSimpArgs false

theorem bl_irrefl (x : List UInt8) : Op.bytesLess x x = false := by
  induction x with
  | nil => rfl
  | cons a x ih => simp [Op.bytesLess, ih]
theorem bl_trans : ∀ (x y z : List UInt8), Op.bytesLess x y = true → Op.bytesLess y z = true → Op.bytesLess x z = true
  | x, [], _, h, _ => by cases x <;> simp [Op.bytesLess] at h
  | x, b :: y, [], _, h => by simp [Op.bytesLess] at h
  | [], b :: y, c :: z, _, _ => by simp [Op.bytesLess]
  | a :: x, b :: y, c :: z, h, g => by
    simp only [Op.bytesLess, Bool.or_eq_true, Bool.and_eq_true, decide_eq_true_eq, beq_iff_eq] at *
    rcases h with h | ⟨rfl, h⟩
    · rcases g with g | ⟨rfl, g⟩
      · exact .inl (UInt8.lt_trans h g)
      · exact .inl h
    · rcases g with g | ⟨rfl, g⟩
      · exact .inl g
      · exact .inr ⟨rfl, bl_trans x y z h g⟩
theorem bl_total : ∀ (x y : List UInt8), Op.bytesLess x y = false → Op.bytesLess y x = false → x = y
  | [], [], _, _ => rfl
  | [], b :: y, h, _ => by simp [Op.bytesLess] at h
  | a :: x, [], _, h => by simp [Op.bytesLess] at h
  | a :: x, b :: y, h, g => by
    simp only [Op.bytesLess, Bool.or_eq_false_iff, Bool.and_eq_false_iff, decide_eq_false_iff_not, beq_eq_false_iff_ne] at *
    obtain ⟨h1, h2⟩ := h
    obtain ⟨g1, g2⟩ := g
    have hab : a = b := UInt8.le_antisymm (UInt8.not_lt.1 g1) (UInt8.not_lt.1 h1)
    subst hab
    rcases h2 with h2 | h2
    · exact absurd rfl h2
    · rcases g2 with g2 | g2
      · exact absurd rfl g2
      · rw [bl_total x y h2 g2]
theorem ltN_irrefl (a : ByteArray) : ltN a a = false := bl_irrefl _
theorem ltN_trans {a b c : ByteArray} (h : ltN a b = true) (g : ltN b c = true) : ltN a c = true := bl_trans _ _ _ h g
theorem ltN_asymm {a b : ByteArray} (h : ltN a b = true) : ltN b a = false := by
  cases g : ltN b a with
  | false => rfl
  | true => have := ltN_trans h g; rw [ltN_irrefl] at this; cases this
theorem ltN_ne {a b : ByteArray} (h : ltN a b = true) : a ≠ b := fun e => by rw [e, ltN_irrefl] at h; cases h
theorem ltN_total {a b : ByteArray} (h : ltN a b = false) (hne : b ≠ a) : ltN b a = true := by
  cases g : ltN b a with
  | true => rfl
  | false =>
    refine absurd ?_ hne
    have hl := bl_total _ _ g h
    by_cases he : b = a
    · exact he
    · have := (Lib.bytes_beq_false_iff b a).2 he
      rw [hl] at this
      simp at this

theorem commsF_up : ∀ (xs : List DCommittee) (p : Option ByteArray), commsF p xs = true → xs.Pairwise (fun a b => ltN a.name b.name = true) ∧ ∀ q, p = some q → ∀ c ∈ xs, ltN q c.name = true
  | [], p, _ => ⟨List.Pairwise.nil, fun _ _ _ h => by cases h⟩
  | c :: r, p, h => by
    simp only [commsF, Bool.and_eq_true] at h
    obtain ⟨⟨_, h2⟩, h3⟩ := h
    obtain ⟨i1, i2⟩ := commsF_up r (some c.name) h3
    refine ⟨List.pairwise_cons.2 ⟨fun b hb => i2 _ rfl b hb, i1⟩, fun q hq x hx => ?_⟩
    subst hq
    simp only at h2
    rcases List.mem_cons.1 hx with rfl | hx
    · exact h2
    · exact ltN_trans h2 (i2 _ rfl x hx)
theorem comms_up {xs : List DCommittee} (h : commsOk xs = true) : xs.Pairwise (fun a b => ltN a.name b.name = true) := by
  simp only [commsOk, Bool.and_eq_true] at h
  exact (commsF_up xs none h.1).1

theorem putF_pre {c : DCommittee} {d : Bool} : ∀ (pre rest : List DCommittee), (∀ y ∈ pre, ltN y.name c.name = true) → putF c d (pre ++ rest) = pre ++ putF c d rest
  | [], rest, _ => rfl
  | x :: pre, rest, h => by
    have h1 := h x (by simp)
    have h2 := putF_pre pre rest (c := c) (d := d) (fun y hy => h y (by simp [hy]))
    simp only [List.cons_append, putF, h1, Bool.not_true, Bool.and_false, Bool.false_eq_true, if_false, Bool.or_false, List.nil_append]
    rw [if_neg (ltN_ne h1), h2]
    rfl
theorem putF_done {c : DCommittee} : ∀ (post : List DCommittee), (∀ y ∈ post, y.name ≠ c.name) → putF c true post = post
  | [], _ => rfl
  | x :: post, h => by
    have h1 := h x (by simp)
    have h2 := putF_done post (c := c) (fun y hy => h y (by simp [hy]))
    simp only [putF, Bool.not_true, Bool.false_and, Bool.false_eq_true, if_false, Bool.true_or, List.nil_append]
    rw [if_neg h1, h2]
    rfl
/-- A committee in the place of the one with its name. -/
theorem putF_at {c x : DCommittee} {pre post : List DCommittee} (h1 : ∀ y ∈ pre, ltN y.name c.name = true) (hx : x.name = c.name) (h2 : ∀ y ∈ post, ltN c.name y.name = true) (d : Bool) :
    putF c d (pre ++ x :: post) = pre ++ ((if d then [] else [c]) ++ post) := by
  rw [putF_pre pre _ h1]
  have hd := putF_done (c := c) post (fun y hy => (ltN_ne (h2 y hy)).symm)
  have hxl : ltN x.name c.name = false := by rw [hx]; exact ltN_irrefl _
  simp only [putF, hxl, Bool.not_false, Bool.and_true, Bool.or_true, if_pos hx, List.nil_append, hd]
  cases d <;> rfl
/-- A new committee. -/
theorem putF_new {c : DCommittee} {pre post : List DCommittee} (h1 : ∀ y ∈ pre, ltN y.name c.name = true) (h2 : ∀ y ∈ post, ltN c.name y.name = true) :
    putF c false (pre ++ post) = pre ++ c :: post := by
  rw [putF_pre pre _ h1]
  cases post with
  | nil => rfl
  | cons y post =>
    have hy := h2 y (by simp)
    have hd := putF_done (c := c) post (fun z hz => (ltN_ne (h2 z (by simp [hz]))).symm)
    simp only [putF, ltN_asymm hy, Bool.not_false, Bool.and_true, Bool.or_true, if_true, if_neg (ltN_ne hy).symm, hd]
    rfl
theorem up_split {xs : List DCommittee} (h : xs.Pairwise (fun a b => ltN a.name b.name = true)) {i : Nat} (hi : i < xs.length) :
    (∀ y ∈ xs.take i, ltN y.name xs[i].name = true) ∧ ∀ y ∈ xs.drop (i + 1), ltN xs[i].name y.name = true := by
  rw [List.pairwise_iff_getElem] at h
  refine ⟨fun y hy => ?_, fun y hy => ?_⟩
  · obtain ⟨j, hj, rfl⟩ := List.mem_iff_getElem.1 hy
    rw [List.length_take] at hj
    rw [List.getElem_take]
    exact h j i (by omega) hi (by omega)
  · obtain ⟨j, hj, rfl⟩ := List.mem_iff_getElem.1 hy
    rw [List.length_drop] at hj
    rw [List.getElem_drop]
    exact h i (i + 1 + j) hi (by omega) (by omega)
/-- spec.l15Put with a committee of the list, some members left: it is changed in its place. -/
theorem putV_set {xs : List DCommittee} (h : commsOk xs = true) {i : Nat} (hi : i < xs.length) {c : DCommittee} (hn : c.name = xs[i].name) (hm : c.members ≠ []) : putV xs c = xs.set i c := by
  obtain ⟨h1, h2⟩ := up_split (comms_up h) hi
  rw [← hn] at h1 h2
  have e : xs = xs.take i ++ xs[i] :: xs.drop (i + 1) := by rw [← drop_at hi, List.take_append_drop]
  have hz : (c.members.length == 0) = false := by
    rw [beq_eq_false_iff_ne]; intro h0; exact hm (List.eq_nil_of_length_eq_zero h0)
  unfold putV
  rw [hz]
  conv => lhs; rw [e]
  rw [putF_at h1 hn.symm h2]
  conv => rhs; rw [e]
  rw [set_mid _ _ _ _ _ (by simp; omega)]
  rfl
/-- spec.l15Put with no member left: the committee goes. -/
theorem putV_out {xs : List DCommittee} (h : commsOk xs = true) {i : Nat} (hi : i < xs.length) {c : DCommittee} (hn : c.name = xs[i].name) (hm : c.members = []) : putV xs c = xs.eraseIdx i := by
  obtain ⟨h1, h2⟩ := up_split (comms_up h) hi
  rw [← hn] at h1 h2
  have e : xs = xs.take i ++ xs[i] :: xs.drop (i + 1) := by rw [← drop_at hi, List.take_append_drop]
  unfold putV
  rw [show (c.members.length == 0) = true by rw [hm]; rfl]
  conv => lhs; rw [e]
  rw [putF_at h1 hn.symm h2, List.eraseIdx_eq_take_drop_succ]
  rfl
/-- spec.l15Put with a new name: the committee goes to its place. -/
theorem putV_new {xs : List DCommittee} {c : DCommittee} {m : Nat} (h1 : ∀ y ∈ xs.take m, ltN y.name c.name = true) (h2 : ∀ y ∈ xs.drop m, ltN c.name y.name = true) (hm : c.members ≠ []) : putV xs c = xs.take m ++ c :: xs.drop m := by
  have hz : (c.members.length == 0) = false := by
    rw [beq_eq_false_iff_ne]; intro h0; exact hm (List.eq_nil_of_length_eq_zero h0)
  unfold putV
  rw [hz]
  conv => lhs; rw [← List.take_append_drop m xs]
  exact putF_new h1 h2

end Go.Proofs.Ytpjmcjdnobihbaa
