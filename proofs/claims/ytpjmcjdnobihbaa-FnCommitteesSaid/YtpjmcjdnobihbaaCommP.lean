/- Plain: when a list of committees is valid; what AppointMember and FormCommittee return. Of no program. No conditions. -/
import Derived.Test.YtpjmcjdnobihbaaCommD
import Derived.Test.YtpjmcjdnobihbaaPutL
import Derived.Test.YtpjmcjdnobihbaaSortI
import Derived.Test.YtpjmcjdnobihbaaSortL
namespace Go.Proofs.Ytpjmcjdnobihbaa
open Go.RowKit
set_option linter.unusedVariables false
set_option linter.unusedSimpArgs false

theorem commsF_iff : ∀ (xs : List DCommittee) (p : Option ByteArray), commsF p xs = true ↔ (∀ c ∈ xs, commOk c = true) ∧ xs.Pairwise (fun a b => ltN a.name b.name = true) ∧ ∀ q, p = some q → ∀ c ∈ xs, ltN q c.name = true
  | [], p => by simp [commsF]
  | c :: r, p => by
    simp only [commsF, Bool.and_eq_true]
    rw [commsF_iff r (some c.name)]
    constructor
    · rintro ⟨⟨h1, h2⟩, h3, h4, h5⟩
      refine ⟨fun x hx => ?_, List.pairwise_cons.2 ⟨fun b hb => h5 _ rfl b hb, h4⟩, fun q hq x hx => ?_⟩
      · rcases List.mem_cons.1 hx with rfl | hx
        · exact h1
        · exact h3 x hx
      · subst hq
        simp only at h2
        rcases List.mem_cons.1 hx with rfl | hx
        · exact h2
        · exact ltN_trans h2 (h5 _ rfl x hx)
    · rintro ⟨h1, h2, h3⟩
      obtain ⟨h4, h5⟩ := List.pairwise_cons.1 h2
      refine ⟨⟨h1 c (by simp), ?_⟩, fun x hx => h1 x (by simp [hx]), h5, fun q hq x hx => ?_⟩
      · cases p with
        | none => rfl
        | some q => exact h3 q rfl c (by simp)
      · cases hq
        exact h4 x hx
theorem commsOk_iff {xs : List DCommittee} : commsOk xs = true ↔ (∀ c ∈ xs, commOk c = true) ∧ xs.Pairwise (fun a b => ltN a.name b.name = true) ∧ xs.length ≤ 8 := by
  unfold commsOk
  rw [Bool.and_eq_true, commsF_iff, decide_eq_true_eq]
  constructor
  · rintro ⟨⟨h1, h2, _⟩, h3⟩; exact ⟨h1, h2, h3⟩
  · rintro ⟨h1, h2, h3⟩; exact ⟨⟨h1, h2, fun q hq => by cases hq⟩, h3⟩
theorem commOk_parts {c : DCommittee} (h : commOk c = true) : wordB c.name = true ∧ 1 ≤ c.members.length ∧ c.members.length ≤ 12 ∧ rising 1 99 c.members = true ∧ hasB c.members c.head = true := by
  simp only [commOk, Bool.and_eq_true, inB, decide_eq_true_eq] at h
  obtain ⟨⟨⟨h1, h2, h3⟩, h4⟩, h5⟩ := h
  exact ⟨h1, by omega, by omega, h4, h5⟩
theorem comms_m12 {xs : List DCommittee} (h : commsOk xs = true) : ∀ c ∈ xs, c.members.length ≤ 12 := fun c hc => (commOk_parts ((commsOk_iff.1 h).1 c hc)).2.2.1
theorem comms_sum {xs : List DCommittee} (h : commsOk xs = true) : sumG (fun c : DCommittee => c.members.length + 2) xs ≤ 1000 := by
  have h8 := (commsOk_iff.1 h).2.2
  have h3 := sumG_le (cnt := fun c : DCommittee => c.members.length + 2) (m := 14) (xs := xs) (fun x hx => by have := comms_m12 h x hx; omega)
  omega
theorem ris_in {lo hi : Int} {xs : List Int} : ∀ {p : Option Int}, risB lo hi p xs = true → ∀ x ∈ xs, inB x lo hi = true := by
  induction xs with
  | nil => intro p _ x hx; cases hx
  | cons a r ih =>
    intro p h x hx
    simp only [risB, Bool.and_eq_true] at h
    rcases List.mem_cons.1 hx with rfl | hx
    · exact h.1.1
    · exact ih h.2 x hx

/-! ### AppointMember -/
def appC (p : Int) (c : DCommittee) : DCommittee := ⟨c.name, putL p c.members, c.head⟩
/-- May the person be taken in. -/
def appOk (xs : List DCommittee) (n : ByteArray) (p : Int) : Bool := commsOk xs && (decide (0 ≤ idxBy (isN n) xs) && (inB p 1 99 && !hasB (xs.getD (idxBy (isN n) xs).toNat commZ).members p))
def checkV (xs : List DCommittee) : List DCommittee × Bool := if commsOk xs then (xs, true) else ([], false)
def appV (xs : List DCommittee) (n : ByteArray) (p : Int) : List DCommittee × Bool :=
  if appOk xs n p then checkV (putV xs (appC p (xs.getD (idxBy (isN n) xs).toNat commZ))) else ([], false)
theorem appV_no {xs : List DCommittee} {n : ByteArray} {p : Int} (h : appOk xs n p = false) : appV xs n p = ([], false) := by
  unfold appV; rw [if_neg (by rw [h]; simp)]
theorem appV_at {xs : List DCommittee} {n : ByteArray} {p : Int} (h : appOk xs n p = true) {i : Nat} (hi : i < xs.length) (h4 : idxBy (isN n) xs = (i : Int)) : appV xs n p = checkV (putV xs (appC p xs[i])) := by
  unfold appV
  rw [if_pos h, h4, Int.toNat_natCast, getD_c hi]
theorem checkV_sum (xs : List DCommittee) : sumG (fun c : DCommittee => c.members.length + 2) (checkV xs).1 ≤ 4000000 := by
  unfold checkV
  split
  · rename_i h
    exact Nat.le_trans (comms_sum h) (by omega)
  · simp [sumG]
theorem appV_len (xs : List DCommittee) (n : ByteArray) (p : Int) : sumG (fun c : DCommittee => c.members.length + 2) (appV xs n p).1 ≤ 4000000 := by
  unfold appV
  split
  · exact checkV_sum _
  · simp [sumG]
/-- As the program has it. -/
theorem appV_prog {xs : List DCommittee} {n : ByteArray} {p : Int} (h : commsOk xs = true) {i : Nat} (hi : i < xs.length) (h4 : idxBy (isN n) xs = (i : Int)) :
    appV xs n p = checkV (xs.set i ⟨xs[i].name, sortL (xs[i].members ++ [p]), xs[i].head⟩) := by
  have hr := (commOk_parts ((commsOk_iff.1 h).1 _ (List.getElem_mem hi))).2.2.2.1
  have hpw := rising_pair hr
  have hs : sortL (xs[i].members ++ [p]) = putL p xs[i].members := merge_put hpw
  rw [hs]
  cases ha : appOk xs n p with
  | true =>
    rw [appV_at ha hi h4, putV_set h hi (c := appC p xs[i]) rfl (fun h0 => by have h1 := putL_len p xs[i].members; have h2 : putL p xs[i].members = [] := h0; rw [h2] at h1; simp at h1)]
    rfl
  | false =>
    rw [appV_no ha]
    have hb : commsOk (xs.set i ⟨xs[i].name, putL p xs[i].members, xs[i].head⟩) = false := by
      rw [Bool.eq_false_iff]
      intro hc
      have h5 := (commOk_parts ((commsOk_iff.1 hc).1 _ (List.mem_set hi _))).2.2.2.1
      have h6 : inB p 1 99 = true := ris_in h5 p (mem_putL.2 (.inl rfl))
      have h7 : hasB xs[i].members p = false := by
        rw [Bool.eq_false_iff]
        intro hh
        have hm := hasB_iff.1 hh
        have hnd : (putL p xs[i].members).Nodup := (rising_pair h5).imp (fun h e => by omega)
        have := (putL_perm p xs[i].members).nodup_iff.1 hnd
        rw [List.nodup_append] at this
        exact this.2.2 p hm p (by simp) rfl
      have : appOk xs n p = true := by
        unfold appOk
        rw [h, h4, Int.toNat_natCast, getD_c hi, h6, h7]
        simp
      rw [this] at ha
      cases ha
    unfold checkV
    rw [hb]
    rfl

/-! ### FormCommittee -/
def ltC (a b : DCommittee) : Bool := ltN a.name b.name
def formC (n : ByteArray) (ms : List Int) : DCommittee := ⟨n, ms, ms.getD 0 0⟩
def formOk (xs : List DCommittee) (n : ByteArray) (ms : List Int) : Bool := commsOk xs && (!decide (0 ≤ idxBy (isN n) xs) && decide (0 < ms.length))
def formV (xs : List DCommittee) (n : ByteArray) (ms : List Int) : List DCommittee × Bool := if formOk xs n ms then checkV (putV xs (formC n ms)) else ([], false)
theorem formV_len (xs : List DCommittee) (n : ByteArray) (ms : List Int) : sumG (fun c : DCommittee => c.members.length + 2) (formV xs n ms).1 ≤ 4000000 := by
  unfold formV
  split
  · exact checkV_sum _
  · simp [sumG]
theorem sortS_id {xs : List DCommittee} (h : xs.Pairwise (fun a b => ltN a.name b.name = true)) : sortS ltC xs = xs := by
  have H : ∀ k, k ≤ xs.length → sortS ltC (xs.take k) = xs.take k := by
    intro k
    induction k with
    | zero => intro _; rfl
    | succ k ih =>
      intro hk
      rw [sortS_take ltC hk, ih (by omega), insEnd_at ltC xs[k] (j := k) (by simp; omega) (fun y hy => by rw [List.drop_of_length_le (by simp; omega)] at hy; cases hy) (fun h0 => ?_)]
      · rw [List.take_of_length_le (by simp; omega), List.drop_of_length_le (by simp; omega), take_at hk]
      · rw [List.getElem_take]
        exact ltN_asymm (List.pairwise_iff_getElem.1 h (k - 1) k (by omega) hk (by omega))
  have := H xs.length (Nat.le_refl _)
  rwa [List.take_length] at this
theorem split_at {xs : List DCommittee} {c : DCommittee} (h : xs.Pairwise (fun a b => ltN a.name b.name = true)) : ∃ j, j ≤ xs.length ∧ (∀ y ∈ xs.take j, ltC c y = false) ∧ ∀ y ∈ xs.drop j, ltC c y = true := by
  induction xs with
  | nil => exact ⟨0, by simp, by simp, by simp⟩
  | cons a r ih =>
    obtain ⟨h1, h2⟩ := List.pairwise_cons.1 h
    cases ha : ltC c a with
    | true =>
      refine ⟨0, by simp, by simp, fun y hy => ?_⟩
      rcases List.mem_cons.1 hy with rfl | hy
      · exact ha
      · exact ltN_trans ha (h1 y hy)
    | false =>
      obtain ⟨j, h3, h4, h5⟩ := ih h2
      refine ⟨j + 1, by simpa using h3, fun y hy => ?_, fun y hy => h5 y (by simpa using hy)⟩
      rw [List.take_succ_cons] at hy
      rcases List.mem_cons.1 hy with rfl | hy
      · exact ha
      · exact h4 y hy
/-- As the program has it. -/
theorem formV_prog {xs : List DCommittee} {n : ByteArray} {ms : List Int} (h : commsOk xs = true) (hm : 0 < ms.length) : formV xs n ms = checkV (sortS ltC (xs ++ [formC n ms])) := by
  have hup := (commsOk_iff.1 h).2.1
  obtain ⟨j, h1, h2, h3⟩ := split_at (c := formC n ms) hup
  have hs : sortS ltC (xs ++ [formC n ms]) = xs.take j ++ formC n ms :: xs.drop j := by
    rw [sortS_push, sortS_id hup, insEnd_at ltC _ h1 h3 (fun h0 => ?_)]
    exact h2 _ (by rw [List.mem_iff_getElem]; exact ⟨j - 1, by simp; omega, by rw [List.getElem_take]⟩)
  rw [hs]
  cases hx : decide (0 ≤ idxBy (isN n) xs) with
  | false =>
    have hno : ∀ y ∈ xs, y.name ≠ n := by
      rw [idxBy_neg] at hx
      intro y hy he
      have := List.any_eq_false.1 hx y hy
      simp [isN, he] at this
    unfold formV formOk
    rw [h, hx, decide_eq_true hm, if_pos (by rfl), putV_new (c := formC n ms) (m := j) (fun y hy => ltN_total (h2 y hy) (hno y (List.mem_of_mem_take hy))) h3 (by unfold formC; intro h0; simp only at h0; rw [h0] at hm; simp at hm)]
  | true =>
    have hf : formV xs n ms = ([], false) := by
      unfold formV formOk
      rw [hx, if_neg (by simp)]
    rw [hf]
    rw [idxBy_neg, List.any_eq_true] at hx
    obtain ⟨y, hy, he⟩ := hx
    have he : y.name = n := of_decide_eq_true he
    have hb : commsOk (xs.take j ++ formC n ms :: xs.drop j) = false := by
      rw [Bool.eq_false_iff]
      intro hc
      have hp := (commsOk_iff.1 hc).2.1
      rw [← List.take_append_drop j xs] at hy
      rcases List.mem_append.1 hy with hy | hy
      · have := (List.pairwise_append.1 hp).2.2 y hy (formC n ms) (by simp)
        simp only [formC] at this
        rw [he, ltN_irrefl] at this
        cases this
      · have := h3 y hy
        simp only [ltC, formC] at this
        rw [he, ltN_irrefl] at this
        cases this
    unfold checkV
    rw [hb]
    rfl

end Go.Proofs.Ytpjmcjdnobihbaa
