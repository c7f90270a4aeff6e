/- Plain: what DismissMember returns. Of no program. No conditions. -/
import Derived.Test.YtpjmcjdnobihbaaCommK
import Derived.Test.YtpjmcjdnobihbaaWithout
namespace Go.Proofs.Ytpjmcjdnobihbaa
open Go.RowKit
set_option linter.unusedVariables false
set_option linter.unusedSimpArgs false

theorem idxFrom_hit {α : Type} (p : α → Bool) : ∀ (xs : List α) (k : Nat), idxFrom p k xs = -1 ∨ ∃ j, ∃ h : j < xs.length, idxFrom p k xs = ((k + j : Nat) : Int) ∧ p xs[j] = true
  | [], k => .inl rfl
  | x :: r, k => by
    cases hp : p x with
    | true => exact .inr ⟨0, by simp, by simp [idxFrom, hp], by simpa using hp⟩
    | false =>
      rcases idxFrom_hit p r (k + 1) with h | ⟨j, hj, h1, h2⟩
      · exact .inl (by simpa [idxFrom, hp] using h)
      · exact .inr ⟨j + 1, by simpa using hj, by simp only [idxFrom, hp]; rw [if_neg (by simp), h1]; congr 1; omega, by simpa using h2⟩
theorem idxBy_hit {α : Type} (p : α → Bool) (xs : List α) : idxBy p xs = -1 ∨ ∃ j, ∃ h : j < xs.length, idxBy p xs = (j : Int) ∧ p xs[j] = true := by
  rw [← idxFrom_eq]
  rcases idxFrom_hit p xs 0 with h | ⟨j, hj, h1, h2⟩
  · exact .inl h
  · exact .inr ⟨j, hj, by rw [h1, Nat.zero_add], h2⟩

def headM (p : Int) (l : List Int) (hd : Int) : Int := if 0 < l.length ∧ hd = p then l.getD 0 0 else hd
/-- A committee without a member. -/
def lessM (p : Int) (c : DCommittee) : DCommittee := ⟨c.name, outB p c.members, headM p (outB p c.members) c.head⟩
def memOk (xs : List DCommittee) (n : ByteArray) (p : Int) : Bool := commsOk xs && (decide (0 ≤ idxBy (isN n) xs) && hasB (xs.getD (idxBy (isN n) xs).toNat commZ).members p)
def dismV (xs : List DCommittee) (n : ByteArray) (p : Int) : List DCommittee × Bool :=
  if memOk xs n p then (putV xs (lessM p (xs.getD (idxBy (isN n) xs).toNat commZ)), true) else ([], false)
theorem memOk_parts {xs : List DCommittee} {n : ByteArray} {p : Int} (h : memOk xs n p = true) : commsOk xs = true ∧ ∃ i, ∃ hi : i < xs.length, idxBy (isN n) xs = (i : Int) ∧ xs[i].name = n ∧ hasB xs[i].members p = true := by
  simp only [memOk, Bool.and_eq_true, decide_eq_true_eq] at h
  obtain ⟨h1, h2, h3⟩ := h
  refine ⟨h1, ?_⟩
  rcases idxBy_hit (isN n) xs with h4 | ⟨i, hi, h4, h5⟩
  · omega
  · rw [h4, Int.toNat_natCast, getD_c hi] at h3
    exact ⟨i, hi, h4, of_decide_eq_true h5, h3⟩
theorem dismV_at {xs : List DCommittee} {n : ByteArray} {p : Int} (h : memOk xs n p = true) {i : Nat} (hi : i < xs.length) (h4 : idxBy (isN n) xs = (i : Int)) : dismV xs n p = (putV xs (lessM p xs[i]), true) := by
  unfold dismV
  rw [if_pos h, h4, Int.toNat_natCast, getD_c hi]
/-- As the program has it. -/
theorem dismV_out {xs : List DCommittee} {n : ByteArray} {p : Int} (h : memOk xs n p = true) {i : Nat} (hi : i < xs.length) (h4 : idxBy (isN n) xs = (i : Int)) (hz : outB p xs[i].members = []) : dismV xs n p = (xs.eraseIdx i, true) := by
  rw [dismV_at h hi h4, putV_out (c := lessM p xs[i]) (memOk_parts h).1 hi rfl hz]
theorem dismV_set {xs : List DCommittee} {n : ByteArray} {p : Int} (h : memOk xs n p = true) {i : Nat} (hi : i < xs.length) (h4 : idxBy (isN n) xs = (i : Int)) (hz : outB p xs[i].members ≠ []) : dismV xs n p = (xs.set i (lessM p xs[i]), true) := by
  rw [dismV_at h hi h4, putV_set (c := lessM p xs[i]) (memOk_parts h).1 hi rfl hz]
theorem dismV_no {xs : List DCommittee} {n : ByteArray} {p : Int} (h : memOk xs n p = false) : dismV xs n p = ([], false) := by
  unfold dismV; rw [if_neg (by rw [h]; simp)]
/-- The members that stay, of the first k. -/
theorem outB_on {p : Int} {xs : List Int} {k : Nat} (hk : k < xs.length) (h : xs[k] ≠ p) : outB p (xs.take (k + 1)) = outB p (xs.take k) ++ [xs[k]] := by
  rw [take_at hk]; unfold outB keepF; rw [List.filter_append]; simp [h]
theorem outB_off {p : Int} {xs : List Int} {k : Nat} (hk : k < xs.length) (h : xs[k] = p) : outB p (xs.take (k + 1)) = outB p (xs.take k) := by
  rw [take_at hk]; unfold outB keepF; rw [List.filter_append]; simp [h]
theorem commSum_set {xs : List DCommittee} (h8 : xs.length ≤ 8) (hm : ∀ c ∈ xs, c.members.length ≤ 12) (c : DCommittee) (hc : c.members.length ≤ 12) (d : Bool) : sumG (fun c : DCommittee => c.members.length + 2) (putF c d xs) ≤ 1000 := by
  have h1 := putF_len c d xs
  have h2 : ∀ x ∈ putF c d xs, x.members.length ≤ 12 := by
    clear h1 h8
    induction xs generalizing d with
    | nil => cases d <;> simp [putF, hc]
    | cons y r ih =>
      intro x hx
      simp only [putF] at hx
      rcases List.mem_append.1 hx with hx | hx
      · split at hx
        · rw [List.mem_singleton.1 hx]; exact hc
        · cases hx
      · rcases List.mem_append.1 hx with hx | hx
        · split at hx
          · cases hx
          · rw [List.mem_singleton.1 hx]; exact hm y (by simp)
        · exact ih (fun c hc => hm c (by simp [hc])) _ x hx
  have h3 := sumG_le (cnt := fun c : DCommittee => c.members.length + 2) (m := 14) (xs := putF c d xs) (fun x hx => by have := h2 x hx; omega)
  omega

end Go.Proofs.Ytpjmcjdnobihbaa
