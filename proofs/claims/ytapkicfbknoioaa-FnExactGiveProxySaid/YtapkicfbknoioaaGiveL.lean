/- Plain: a proxy that is given. Of no program. No conditions. -/
import Derived.Test.YtapkicfbknoioaaVoteP
namespace Go.Proofs.Ytapkicfbknoioaa
open Go.RowKit
set_option linter.unusedVariables false
set_option linter.unusedSimpArgs false

/-- How many proxies come ahead of a voter's. -/
def atQ (f : Int) : List DProxy → Nat
  | [] => 0
  | p :: r => if p.fr < f then atQ f r + 1 else 0
theorem atQ_le (f : Int) : ∀ ps : List DProxy, atQ f ps ≤ ps.length
  | [] => Nat.le_refl _
  | p :: r => by
    have := atQ_le f r
    simp only [atQ]
    split <;> simp <;> omega
theorem atQ_on {f : Int} {ps : List DProxy} {k : Nat} (h : k < ps.length) (hp : ps[k].fr < f) : atQ f (ps.drop k) = atQ f (ps.drop (k + 1)) + 1 := by rw [drop_at h]; simp [atQ, hp]
theorem atQ_off {f : Int} {ps : List DProxy} {k : Nat} (h : k < ps.length) (hp : ¬ ps[k].fr < f) : atQ f (ps.drop k) = 0 := by rw [drop_at h]; simp [atQ, hp]
def putQ (f t : Int) (ps : List DProxy) : List DProxy := ps.take (atQ f ps) ++ ⟨f, t⟩ :: ps.drop (atQ f ps)
theorem putQ_len (f t : Int) (ps : List DProxy) : (putQ f t ps).length = ps.length + 1 := by
  have := atQ_le f ps
  simp [putQ]; omega
def givD (d : DVoters) (f t : Int) : DVoters := ⟨d.weights, putQ f t (outQ f d.proxies)⟩
/-- GiveProxy. -/
def giveV (d : DVoters) (f t : Int) : DVoters × Bool := if votersOk d && votersOk (givD d f t) then (givD d f t, true) else (⟨[], []⟩, false)
theorem giveV_len (d : DVoters) (f t : Int) (h : d.weights.length ≤ 1048576 ∧ d.proxies.length ≤ 1048576) : (giveV d f t).1.weights.length ≤ 4000000 ∧ (giveV d f t).1.proxies.length ≤ 4000000 := by
  have := outQ_len f d.proxies
  have := putQ_len f t (outQ f d.proxies)
  unfold giveV
  split <;> simp [givD] <;> omega
theorem give_in {d : DVoters} {f t : Int} (h : votersOk (givD d f t) = true) : inB f 0 ((d.weights.length : Int) - 1) = true :=
  (proxOk_mem (votersOk_parts h).2.2 ⟨f, t⟩ (by simp [givD, putQ])).1
theorem giveV_spec (d : DVoters) (f t : Int) : giveV d f t = if votersOk d && inB f 0 ((d.weights.length : Int) - 1) then (if votersOk (givD d f t) then (givD d f t, true) else (⟨[], []⟩, false)) else (⟨[], []⟩, false) := by
  unfold giveV
  cases h1 : votersOk d with
  | false => simp
  | true =>
    cases h2 : votersOk (givD d f t) with
    | false => simp
    | true => simp [give_in h2]
/-- A proxy that has been given is followed, and can be revoked. -/
theorem give_ok {d : DVoters} {f t : Int} (h : (giveV d f t).2 = true) :
    votersOk (giveV d f t).1 = true ∧ (∃ x, holdV (giveV d f t).1 f = (x, true) ∧ holdV (giveV d f t).1 t = (x, true)) ∧ (revV (giveV d f t).1 f).2 = true ∧ holdV (revV (giveV d f t).1 f).1 f = (f, true) := by
  unfold giveV at h
  split at h
  · rename_i hc
    obtain ⟨h1, h2⟩ := Bool.and_eq_true_iff.1 hc
    have hg : (giveV d f t).1 = givD d f t := by unfold giveV; rw [if_pos hc]
    rw [hg]
    obtain ⟨D, hD⟩ : ∃ D, D = givD d f t := ⟨_, rfl⟩
    have hm : (⟨f, t⟩ : DProxy) ∈ D.proxies := by rw [hD]; simp [givD, putQ]
    rw [← hD] at h2 ⊢
    have hp := (votersOk_parts h2).2.2
    obtain ⟨m1, m2, _⟩ := proxOk_mem hp _ hm
    have hn : nextQ D.proxies f = t := proxOk_next hp _ hm
    have ht := inB_iff.1 m2
    have hf := inB_iff.1 m1
    dsimp only at hf ht m1 m2
    have hn0 : ¬ nextQ D.proxies f < 0 := by rw [hn]; omega
    have hs := votersOk_steps h2
    have hfl := follow_le hs f
    have e1 : followQ D.proxies f = ((walkQ D.proxies D.proxies.length t).1, (walkQ D.proxies D.proxies.length t).2 + 1) := by unfold followQ; rw [walkQ_go hn0, hn]
    rw [e1] at hfl
    have e2 : followQ D.proxies t = walkQ D.proxies D.proxies.length t := walk_more (by dsimp only at hfl; omega) _ (by dsimp only at hfl; omega)
    have hr : revV D f = (⟨D.weights, outQ f D.proxies⟩, true) := by
      rw [revV_spec, if_pos (by simp [h2, m1, hn0])]
    refine ⟨h2, ⟨_, by rw [holdV, if_pos (by simp [h2, m1])], by rw [holdV, if_pos (by simp [h2, m2]), e2, e1]⟩, by rw [hr], ?_⟩
    rw [hr]
    have h3 := votersOk_out f h2
    have h4 : nextQ (outQ f D.proxies) f < 0 := by rw [nextQ_out, if_pos rfl]; omega
    have h5 := (follow_self (votersOk_steps h3) (x := f)).2 h4
    rw [holdV, if_pos (by simp only [h3, Bool.true_and]; exact m1)]
    rw [h5]
  · cases h

end Go.Proofs.Ytapkicfbknoioaa
