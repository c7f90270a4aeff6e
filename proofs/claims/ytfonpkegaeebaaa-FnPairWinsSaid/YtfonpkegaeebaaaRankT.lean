/- Plain facts on how many others a candidate beats; one cell of the table of pairs. No conditions. -/
import Derived.Test.YtfonpkegaeebaaaRankQ
namespace Go.Proofs.Ytfonpkegaeebaaa
open Go.RowKit
set_option linter.unusedVariables false
set_option linter.unusedSimpArgs false

/-- Whether a beats b: more weight has a before b than b before a. -/
def wins (rs : List DRanking) (a b : Nat) : Bool := decide (partP rs b a rs.length < partP rs a b rs.length)
/-- How many of the first k candidates a beats. -/
def cnt (rs : List DRanking) (a : Nat) : Nat → Int
  | 0 => 0
  | k + 1 => cnt rs a k + (if wins rs a k then 1 else 0)
theorem cnt_on {rs : List DRanking} {a k : Nat} (h : wins rs a k = true) : cnt rs a (k + 1) = cnt rs a k + 1 := by simp [cnt, h]
theorem cnt_off {rs : List DRanking} {a k : Nat} (h : wins rs a k = false) : cnt rs a (k + 1) = cnt rs a k := by simp [cnt, h]
theorem cnt_bd (rs : List DRanking) (a k : Nat) : 0 ≤ cnt rs a k ∧ cnt rs a k ≤ k := by
  induction k with
  | zero => simp [cnt]
  | succ k ih => simp only [cnt]; split <;> omega
def beatIt (N : Nat) (rs : List DRanking) (a b c : Nat) : Int := if c < a then cnt rs c N else if c = a then cnt rs a b else 0
def beatsL (N : Nat) (rs : List DRanking) : List Int := tab N (fun a => cnt rs a N)
theorem beatIt_zero (N : Nat) (rs : List DRanking) : tab N (beatIt N rs 0 0) = List.replicate N 0 := by
  rw [← tab_zero]
  exact tab_congr fun c hc => by unfold beatIt; rw [if_neg (by omega)]; split <;> simp [cnt]
theorem beatIt_next {N : Nat} {rs : List DRanking} {a : Nat} : tab N (beatIt N rs a N) = tab N (beatIt N rs (a + 1) 0) := tab_congr fun c hc => by
  unfold beatIt
  by_cases h1 : c < a
  · rw [if_pos h1, if_pos (by omega)]
  · by_cases h2 : c = a
    · subst h2; rw [if_neg h1, if_pos rfl, if_pos (by omega)]
    · rw [if_neg h1, if_neg h2, if_neg (by omega)]
      split <;> simp [cnt]
theorem beatIt_done (N : Nat) (rs : List DRanking) : tab N (beatIt N rs N 0) = beatsL N rs := tab_congr fun c hc => by unfold beatIt; rw [if_pos hc]
theorem beatIt_off {N : Nat} {rs : List DRanking} {a b : Nat} (h : wins rs a b = false) : tab N (beatIt N rs a (b + 1)) = tab N (beatIt N rs a b) := tab_congr fun c hc => by
  unfold beatIt; rw [cnt_off h]
theorem beatIt_on {N : Nat} {rs : List DRanking} {a b : Nat} (ha : a < N) (h : wins rs a b = true) : tab N (beatIt N rs a (b + 1)) = (tab N (beatIt N rs a b)).set a (cnt rs a b + 1) := by
  rw [tab_set ha]
  exact tab_congr fun c hc => by
    unfold beatIt
    by_cases h2 : c = a
    · subst h2; simp [cnt_on h]
    · simp [h2]
theorem beatIt_get {N : Nat} {rs : List DRanking} {a b : Nat} (ha : a < N) : (tab N (beatIt N rs a b)).getD a 0 = cnt rs a b := by
  rw [tab_getD ha]; simp [beatIt]

theorem pairT_at (N : Nat) (rs : List DRanking) : ∀ (n a : Nat) (h : a < (pairT N rs n).length), (pairT N rs n)[a] = pairRow N rs a := by
  intro n
  induction n with
  | zero => intro a h; simp at h
  | succ n ih =>
    intro a h
    simp only [pairT]
    rw [List.getElem_append]
    split
    · rename_i h1; exact ih a h1
    · rename_i h1
      have : a = n := by simp at h h1; omega
      subst this
      simp
/-- One cell of the table: the row's value, and the number in the row. -/
theorem OwnTab.cell {w : World} {B : Nat} {ao : Option Addr} {cap N : Nat} {rs : List DRanking} (h : OwnTab w B (.slice ao N cap) (pairT N rs N)) {a b : Nat} (ha : a < N) (hb : b < N) :
    ∃ g off gu ou uc, ao = some ⟨g, off, none⟩ ∧ w.cell? ⟨g, off + a, none⟩ = some (.slice (some ⟨gu, ou, none⟩) N uc) ∧ w.cell? ⟨gu, ou + b, none⟩ = some (.int .i64 (partP rs a b rs.length)) := by
  have hat : NestAt tcell id 1 w (.slice ao (pairT N rs N).length cap) (pairT N rs N) := by rw [pairT_len]; exact h.at_
  have hal : a < (pairT N rs N).length := by simpa using ha
  obtain ⟨g, off, u, h1, h2, h3, h4⟩ := NestAt.get (f := tcell) (ord := id) (size := 1) (fun _ _ => rfl) hat hal
  rw [pairT_at] at h3
  simp only [id] at h3
  obtain ⟨_, uo, uc, rfl, p1, p2, p3⟩ := h3
  have hpl : (pairRow N rs a).length = N := by simp [pairRow]
  rw [hpl] at h4 p1 p3
  obtain ⟨gu, ou, rfl, q1, q2⟩ := p3 (by omega)
  have hc := q2.int (show b < (pairRow N rs a).length by rw [hpl]; exact hb)
  refine ⟨g, off, gu, ou, uc, h1, by simpa [tcell] using h4 0 (by omega), ?_⟩
  rw [hc]
  simp [pairRow, tab]

end Go.Proofs.Ytfonpkegaeebaaa
