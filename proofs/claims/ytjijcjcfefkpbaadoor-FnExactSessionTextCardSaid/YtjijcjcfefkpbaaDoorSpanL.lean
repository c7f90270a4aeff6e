/- Plain: the spans of business that BusinessSpans returns. Of no program. No conditions. -/
import Derived.Test.YtjijcjcfefkpbaaDoorSessCome
import Derived.Test.YtjijcjcfefkpbaaDoorSessGo
import Derived.Test.YtjijcjcfefkpbaaDoorRankM
namespace Go.Proofs.YtjijcjcfefkpbaaDoor
open Go.RowKit
set_option linter.unusedVariables false
set_option linter.unusedSimpArgs false

/-- A member comes in (m > 0) or goes out. -/
def moveS (s : DSess) (m : Int) : DSess × Bool := if 0 < m then comeIn s m else goOut s (IntKind.i64.wrap (-m))
def rowEnd (t : List (List Int)) : Int := (t.getD (t.length - 1) []).getD 1 0
def rowBeg (t : List (List Int)) : Int := (t.getD (t.length - 1) []).getD 0 0
/-- One more count with a quorum. -/
def spanPut (t : List (List Int)) (i : Int) : List (List Int) := if 0 < t.length ∧ rowEnd t = i - 1 then t.set (t.length - 1) [rowBeg t, i] else t ++ [[i, i]]
def spanQ (s : DSess) (t : List (List Int)) (i : Int) : List (List Int) := if quorumB s.en s.nu s.de s.pr then spanPut t i else t
/-- From a count on, the session as it is at this count. -/
def spanF : List Int → Int → DSess → List (List Int) → List (List Int) × Bool
  | [], i, s, t => (spanQ s t i, true)
  | m :: r, i, s, t => if (moveS s m).2 then spanF r (i + 1) (moveS s m).1 (spanQ s t i) else ([], false)
def spanOk (s : DSess) (ms : List Int) : Bool := sessOk s.en s.nu s.de s.pr s.re && ((s.re == 0) && decide (ms.length ≤ 20))
def spansV (s : DSess) (ms : List Int) : List (List Int) × Bool := if spanOk s ms then spanF ms 0 s [] else ([], false)
/-- Ahead of a move: as the spec has it (k counts: the session before the k-th move). -/
def spanH (ms : List Int) (k : Nat) (s : DSess) (t : List (List Int)) : List (List Int) × Bool :=
  if k = 0 then spanF ms 0 s t else
    match ms.drop (k - 1) with
    | [] => (t, true)
    | m :: r => if (moveS s m).2 then spanF r k (moveS s m).1 t else ([], false)
def Rows2 (t : List (List Int)) : Prop := ∀ r ∈ t, r.length = 2
theorem Rows2.put {t : List (List Int)} (h : Rows2 t) (i : Int) : Rows2 (spanPut t i) := by
  unfold spanPut
  split
  · intro r hr
    rcases List.mem_or_eq_of_mem_set hr with hr | rfl
    · exact h r hr
    · rfl
  · intro r hr
    rcases List.mem_append.1 hr with hr | hr
    · exact h r hr
    · rw [List.mem_singleton.1 hr]; rfl
theorem Rows2.q {t : List (List Int)} (h : Rows2 t) (s : DSess) (i : Int) : Rows2 (spanQ s t i) := by
  unfold spanQ
  split
  · exact h.put i
  · exact h
theorem spanPut_len (t : List (List Int)) (i : Int) : t.length ≤ (spanPut t i).length ∧ (spanPut t i).length ≤ t.length + 1 := by
  unfold spanPut
  split <;> simp
theorem spanQ_len (s : DSess) (t : List (List Int)) (i : Int) : (spanQ s t i).length ≤ t.length + 1 := by
  unfold spanQ
  split
  · exact (spanPut_len t i).2
  · omega
theorem spanF_ok : ∀ (ms : List Int) (i : Int) (s : DSess) (t : List (List Int)), Rows2 t → Rows2 (spanF ms i s t).1 ∧ (spanF ms i s t).1.length ≤ t.length + ms.length + 1
  | [], i, s, t, h => ⟨h.q s i, by have := spanQ_len s t i; simp only [spanF, List.length_nil]; omega⟩
  | m :: r, i, s, t, h => by
    simp only [spanF]
    split
    · have h1 := spanF_ok r (i + 1) (moveS s m).1 (spanQ s t i) (h.q s i)
      have h2 := spanQ_len s t i
      exact ⟨h1.1, by simp only [List.length_cons]; omega⟩
    · exact ⟨fun r hr => (by cases hr), by simp⟩
theorem spansV_len (s : DSess) (ms : List Int) : lenSum (spansV s ms).1 ≤ 4000000 := by
  unfold spansV
  split
  · rename_i h
    simp only [spanOk, Bool.and_eq_true, decide_eq_true_eq] at h
    obtain ⟨h1, h2⟩ := spanF_ok ms 0 s [] (fun r hr => by cases hr)
    have h3 := sumG_le (cnt := List.length) (m := 2) (xs := (spanF ms 0 s []).1) (fun x hx => by rw [h1 x hx]; exact Nat.le_refl _)
    have h4 := h.2.2
    simp only [List.length_nil] at h2
    exact Nat.le_trans h3 (by omega)
  · simp [sumG]
/-- A move that goes well turns the members alone. -/
theorem moveS_ok {s m : DSess} {x : Int} (h : (m, true) = moveS s x) : m.en = s.en ∧ m.nu = s.nu ∧ m.de = s.de ∧ m.re = s.re ∧ m.pr.length ≤ s.pr.length + 1 := by
  unfold moveS at h
  split at h
  · unfold comeIn at h
    split at h
    · injection h with hm _
      subst hm
      exact ⟨rfl, rfl, rfl, rfl, Nat.le_of_eq (putL_len x s.pr)⟩
    · cases h
  · unfold goOut at h
    split at h
    · injection h with hm _
      subst hm
      exact ⟨rfl, rfl, rfl, rfl, Nat.le_succ_of_le (outB_len _ s.pr)⟩
    · cases h
/-- As the spec has it: ahead of the first count, of a move, behind the last. -/
theorem spanH_zero (ms : List Int) (s : DSess) (t : List (List Int)) : spanH ms 0 s t = spanF ms 0 s t := rfl
theorem spanH_end {ms : List Int} {k : Nat} (hk : ms.length < k) (s : DSess) (t : List (List Int)) : spanH ms k s t = (t, true) := by
  unfold spanH
  rw [if_neg (by omega), List.drop_of_length_le (by omega)]
theorem spanH_move {ms : List Int} {j : Nat} (hj : j < ms.length) (s : DSess) (t : List (List Int)) : spanH ms (j + 1) s t = if (moveS s ms[j]).2 then spanF (ms.drop (j + 1)) ((j : Int) + 1) (moveS s ms[j]).1 t else ([], false) := by
  unfold spanH
  rw [if_neg (by omega), show j + 1 - 1 = j by omega, drop_at hj]
  simp only [Int.natCast_add, Int.cast_ofNat_Int]
/-- A count: what is left to do stands behind the next move. -/
theorem spanF_next {ms : List Int} {k : Nat} (hk : k ≤ ms.length) (s : DSess) (t : List (List Int)) : spanF (ms.drop k) (k : Int) s t = spanH ms (k + 1) s (spanQ s t (k : Int)) := by
  rcases Nat.lt_or_ge k ms.length with h | h
  · rw [spanH_move h, drop_at h]
    rfl
  · rw [spanH_end (by omega), List.drop_of_length_le (by omega)]
    rfl

theorem ris_len {lo hi : Int} : ∀ (xs : List Int) (p : Option Int) (q : Int), risB lo hi p xs = true → (∀ y, p = some y → q ≤ y) → (p = none → q = lo - 1) → q ≤ hi → (xs.length : Int) ≤ hi - q
  | [], p, q, _, _, _, hq => by simp; omega
  | a :: r, p, q, h, h1, h2, hq => by
    simp only [risB, Bool.and_eq_true, inB, decide_eq_true_eq] at h
    obtain ⟨⟨⟨h3, h4⟩, h5⟩, h6⟩ := h
    have h7 : q + 1 ≤ a := by
      cases p with
      | none => have := h2 rfl; omega
      | some y => have := h1 y rfl; have h8 : y < a := by simpa using h5
                  omega
    have h9 := ris_len r (some a) a h6 (fun y hy => by cases hy; exact Int.le_refl _) (fun hn => by cases hn) h4
    simp only [List.length_cons]
    omega
theorem sess_len {en nu de : Int} {pr : List Int} {re : Int} (h : sessOk en nu de pr re = true) : pr.length ≤ 30 := by
  obtain ⟨a1, _, _, a4, _⟩ := sessOk_iff.1 h
  have := ris_len pr none 0 a4 (fun y hy => by cases hy) (fun _ => by omega) (by omega)
  omega

end Go.Proofs.YtjijcjcfefkpbaaDoor
