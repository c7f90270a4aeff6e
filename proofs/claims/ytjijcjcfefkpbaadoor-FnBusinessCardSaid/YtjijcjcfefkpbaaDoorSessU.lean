/- Contract: the laws' comparison of two sessions that are the same; plain facts on sessions that come and go. No conditions beyond sizes. -/
import Derived.Test.YtjijcjcfefkpbaaDoorLawU
import Derived.Test.YtjijcjcfefkpbaaDoorSessCome
import Derived.Test.YtjijcjcfefkpbaaDoorSessGo
import Derived.Test.YtjijcjcfefkpbaaDoorSessBegin
import Derived.Test.YtjijcjcfefkpbaaDoorSessPass
import Derived.Test.YtjijcjcfefkpbaaDoorSessMiss
namespace Go.Proofs.YtjijcjcfefkpbaaDoor
open Go.RowKit
set_option linter.unusedVariables false
set_option linter.unusedSimpArgs false


theorem risQ_iff {lo hi : Int} : ∀ (xs : List Int) (p : Option Int), risB lo hi p xs = true ↔ (∀ x ∈ xs, inB x lo hi = true) ∧ xs.Pairwise (· < ·) ∧ ∀ y, p = some y → ∀ x ∈ xs, y < x
  | [], p => by simp [risB]
  | a :: r, p => by
    simp only [risB, Bool.and_eq_true]
    rw [risQ_iff r (some a)]
    constructor
    · rintro ⟨⟨h1, h2⟩, h3, h4, h5⟩
      refine ⟨fun x hx => ?_, List.pairwise_cons.2 ⟨fun b hb => h5 _ rfl b hb, h4⟩, fun q hq x hx => ?_⟩
      · rcases List.mem_cons.1 hx with rfl | hx
        · exact h1
        · exact h3 x hx
      · subst hq
        have h2' : q < a := by simpa using h2
        rcases List.mem_cons.1 hx with rfl | hx
        · exact h2'
        · have := h5 _ rfl x hx; omega
    · rintro ⟨h1, h2, h3⟩
      obtain ⟨h4, h5⟩ := List.pairwise_cons.1 h2
      refine ⟨⟨h1 a (by simp), ?_⟩, fun x hx => h1 x (by simp [hx]), h5, fun q hq x hx => ?_⟩
      · cases p with
        | none => rfl
        | some q => simpa using h3 q rfl a (by simp)
      · cases hq
        exact h4 x hx
theorem rise_put {lo hi x : Int} {pr : List Int} (h : rising lo hi pr = true) (hx : inB x lo hi = true) (hno : hasB pr x = false) : rising lo hi (putL x pr) = true := by
  obtain ⟨h1, h2, _⟩ := (risQ_iff pr none).1 h
  refine (risQ_iff _ none).2 ⟨fun y hy => ?_, ?_, fun y hy => by cases hy⟩
  · rcases mem_putL.1 hy with rfl | hy
    · exact hx
    · exact h1 y hy
  · have hne : x ∉ pr := fun hm => by rw [hasB_iff.2 hm] at hno; cases hno
    have hnd : (putL x pr).Nodup := by
      refine (putL_perm x pr).nodup_iff.2 ?_
      rw [List.nodup_append]
      exact ⟨h2.imp (fun h e => by omega), by simp, fun a ha b hb => by rw [List.mem_singleton.1 hb]; exact fun e => hne (e ▸ ha)⟩
    exact ((putL_sorted h2).and hnd).imp (fun h => by have := h.1; have := h.2; omega)
theorem out_put {x : Int} {pr : List Int} (hno : hasB pr x = false) : outB x (putL x pr) = pr := by
  have hne : x ∉ pr := fun hm => by rw [hasB_iff.2 hm] at hno; cases hno
  have hf : ∀ l : List Int, (∀ y ∈ l, y ∈ pr) → outB x l = l := fun l hl => by
    unfold outB keepF
    refine List.filter_eq_self.2 fun y hy => ?_
    have : y ≠ x := fun e => hne (e ▸ hl y hy)
    simp [this]
  have e : outB x (putL x pr) = outB x (pr.take (putAt x pr)) ++ outB x (pr.drop (putAt x pr)) := by
    unfold putL outB keepF
    rw [List.filter_append, List.filter_cons]
    simp
  rw [e, hf _ (fun y hy => List.mem_of_mem_take hy), hf _ (fun y hy => List.mem_of_mem_drop hy), List.take_append_drop]
theorem come_back {s m : DSess} {x : Int} (h : (m, true) = comeIn s x) : goOut m x = (s, true) ∧ sessOk m.en m.nu m.de m.pr m.re = true := by
  unfold comeIn at h
  split at h
  · rename_i hc
    simp only [Bool.and_eq_true, Bool.not_eq_true'] at hc
    obtain ⟨⟨h1, h2⟩, h3⟩ := hc
    injection h with hm _
    subst hm
    obtain ⟨a1, a2, a3, a4, a5⟩ := sessOk_iff.1 h1
    have hok : sessOk s.en s.nu s.de (putL x s.pr) s.re = true := sessOk_iff.2 ⟨a1, a2, a3, rise_put a4 h2 h3, a5⟩
    refine ⟨?_, hok⟩
    have hh : hasB (putL x s.pr) x = true := hasB_iff.2 (mem_putL.2 (.inl rfl))
    unfold goOut
    rw [if_pos (by simp only [hok, hh, Bool.and_self]), out_put h3]
  · cases h
theorem recess_back {s m : DSess} {x : Int} (h : (m, true) = beginRecess s x) : passMinutes m x = (s, true) ∧ passMinutes m (x - 1) = (m, true) ∧ 1 ≤ x ∧ x ≤ 1439 := by
  unfold beginRecess at h
  split at h
  · rename_i hc
    simp only [Bool.and_eq_true, beq_iff_eq] at hc
    obtain ⟨⟨h1, h2⟩, h3⟩ := hc
    injection h with hm _
    subst hm
    obtain ⟨a1, a2, a3, a4, a5⟩ := sessOk_iff.1 h1
    have hx : 1 ≤ x ∧ x ≤ 1439 := by simpa [inB] using h3
    have hok : sessOk s.en s.nu s.de s.pr x = true := sessOk_iff.2 ⟨a1, a2, a3, a4, by omega⟩
    have i1 : inB x 0 1439 = true := by simp [inB]; omega
    have i2 : inB (x - 1) 0 1439 = true := by simp [inB]; omega
    refine ⟨?_, ?_, hx⟩
    · unfold passMinutes
      rw [if_pos (by simp only [hok, i1, Bool.and_self]), if_pos (Int.le_refl x), ← h2]
    · unfold passMinutes
      rw [if_pos (by simp only [hok, i2, Bool.and_self]), if_neg (by show ¬ x ≤ x - 1; omega)]
  · cases h
theorem come_len {s m : DSess} {x : Int} {b : Bool} (h : (m, b) = comeIn s x) : m.pr.length ≤ s.pr.length + 1 := by
  unfold comeIn at h
  split at h
  · injection h with hm _
    subst hm
    exact Nat.le_of_eq (putL_len x s.pr)
  · injection h with hm _
    subst hm
    simp [zeroSess]
theorem recess_len {s m : DSess} {x : Int} {b : Bool} (h : (m, b) = beginRecess s x) : m.pr.length ≤ s.pr.length := by
  unfold beginRecess at h
  split at h
  · injection h with hm _
    subst hm
    exact Nat.le_refl _
  · injection h with hm _
    subst hm
    simp [zeroSess]
theorem quorum_mul {en nu de : Int} {pr : List Int} (hd : 1 ≤ de) : quorumB en nu de pr = decide (en * nu ≤ (pr.length : Int) * de) := by
  have h1 := @Int.ediv_lt_iff_lt_mul (en * nu + de - 1) ((pr.length : Int) + 1) de (by omega)
  have h2 : ((pr.length : Int) + 1) * de = (pr.length : Int) * de + de := by rw [Int.add_mul, Int.one_mul]
  unfold quorumB leastQ
  rw [h2] at h1
  by_cases hq : en * nu ≤ (pr.length : Int) * de
  · rw [decide_eq_true hq]
    have := h1.2 (by omega)
    exact decide_eq_true (by omega)
  · rw [decide_eq_false hq]
    exact decide_eq_false (fun hc => hq (by have := h1.1 (by omega); omega))
end Go.Proofs.YtjijcjcfefkpbaaDoor
