/- Plain: sums of held weights; holders hold themselves; a proxy given, followed, revoked. Of no program. No conditions. -/
import Derived.Test.YtapkicfbknoioaaVoteD
import Derived.Test.YtapkicfbknoioaaVoteR
namespace Go.Proofs.Ytapkicfbknoioaa
open Go.RowKit
set_option linter.unusedVariables false
set_option linter.unusedSimpArgs false

theorem sum_set_add : ∀ {L : List Int} {m : Nat} (h : m < L.length) (x : Int), (L.set m (L.getD m 0 + x)).sum = L.sum + x
  | [], m, h, x => by simp at h
  | a :: r, 0, h, x => by simp; omega
  | a :: r, m + 1, h, x => by
    have := sum_set_add (L := r) (m := m) (by simpa using h) x
    simp only [List.set_cons_succ, List.sum_cons, List.getD_cons_succ, this]
    omega
theorem sum_take_succ (xs : List Int) (k : Nat) : (xs.take (k + 1)).sum = (xs.take k).sum + xs.getD k 0 := by
  rcases Nat.lt_or_ge k xs.length with h | h
  · rw [take_at h, List.sum_append, getD_eqx h]; simp
  · rw [List.take_of_length_le (by omega), List.take_of_length_le (by omega), List.getD_eq_getElem?_getD, List.getElem?_eq_none (by omega)]; simp
theorem heldQ_sum {d : DVoters} (hok : votersOk d = true) : ∀ k, k ≤ d.weights.length → (heldQ d k).sum = (d.weights.take k).sum
  | 0, _ => by
    have : ∀ n : Nat, (List.replicate n (0 : Int)).sum = 0 := fun n => by induction n with
      | zero => rfl
      | succ n ih => simp [List.replicate_succ, ih]
    simp [heldQ, this]
  | k + 1, hk => by
    obtain ⟨m, hm, hml⟩ := followQ_in hok (show k < d.weights.length by omega)
    rw [heldQ_succ hm (by omega), sum_set_add (by simpa using hml), heldQ_sum hok k (by omega), sum_take_succ, getD_eqx (by omega)]
theorem held_sum {d : DVoters} (hok : votersOk d = true) : (heldQ d d.weights.length).sum = d.weights.sum := by
  rw [heldQ_sum hok _ (Nat.le_refl _), List.take_length]
theorem castK_sum {L vs : List Int} (hv : ∀ x ∈ vs, 0 ≤ x ∧ x ≤ 3) (hl : vs.length = L.length) : ∀ k, k ≤ L.length → (castK L vs k).sum = (L.take k).sum
  | 0, _ => by simp [castK]
  | k + 1, hk => by
    have hx := hv _ (List.getElem_mem (show k < vs.length by omega))
    obtain ⟨m, hm⟩ : ∃ m : Nat, vs[k]'(by omega) = (m : Int) := ⟨(vs[k]'(by omega)).toNat, by omega⟩
    rw [castK_succ (by omega) hm (by omega), sum_set_add (by rw [castK_len]; omega), castK_sum hv hl k (by omega), sum_take_succ, getD_eqx (by omega)]
/-- All votes together are all weights. -/
theorem castV_ok {d : DVoters} {vs : List Int} (h : (castV d vs).2 = true) : (castV d vs).1.sum = d.weights.sum ∧ (castV d vs).1.length = 4 ∧ votersOk d = true ∧ ∀ x ∈ (castV d vs).1, 0 ≤ x ∧ x ≤ 1000000 := by
  unfold castV at h ⊢
  split at h
  · rename_i hc
    rw [if_pos hc]
    simp only [Bool.and_eq_true, beq_iff_eq] at hc
    obtain ⟨⟨hok, hl⟩, h3⟩ := hc
    have hlen : vs.length = (heldQ d d.weights.length).length := by rw [heldQ_len]; exact hl
    have h12 := (votersOk_parts hok).1
    refine ⟨?_, by simp, hok, ?_⟩
    · show (castK _ vs vs.length).sum = _
      rw [castK_sum (okC_mem h3) hlen _ (by omega), hlen, List.take_length, held_sum hok]
    · intro x hx
      have := castK_bd (vs := vs) (heldQ_1200 hok) vs.length (by omega) x hx
      omega
  · cases h

/-! ### walks that end -/
theorem walk_end {ps : List DProxy} : ∀ {k : Nat} {x : Int}, (walkQ ps k x).2 < k → nextQ ps (walkQ ps k x).1 < 0
  | 0, x, h => by simp at h
  | k + 1, x, h => by
    by_cases hx : nextQ ps x < 0
    · rw [walkQ_stop hx]; exact hx
    · rw [walkQ_go hx] at h ⊢
      exact walk_end (k := k) (by simpa using h)
theorem walk_more {ps : List DProxy} : ∀ {k : Nat} {x : Int}, (walkQ ps k x).2 < k → ∀ K, (walkQ ps k x).2 < K → walkQ ps K x = walkQ ps k x
  | 0, x, h, K, hK => by simp at h
  | k + 1, x, h, K, hK => by
    by_cases hx : nextQ ps x < 0
    · rw [walkQ_stop hx, walkQ_stop hx]
    · rw [walkQ_go hx] at h hK ⊢
      obtain ⟨K', rfl⟩ : ∃ K', K = K' + 1 := ⟨K - 1, by simp at hK; omega⟩
      rw [walkQ_go hx, walk_more (k := k) (by simpa using h) K' (by simpa using hK)]
/-- The voters on a walk that ends are apart. -/
theorem walk_path {ps : List DProxy} : ∀ {k : Nat} {x : Int}, (walkQ ps k x).2 < k → ∃ l : List Int, l.length = (walkQ ps k x).2 ∧ l.Nodup ∧ ∀ y ∈ l, ¬ nextQ ps y < 0 ∧ (walkQ ps k y).2 < k ∧ (walkQ ps k y).2 ≤ (walkQ ps k x).2
  | 0, x, h => by simp at h
  | k + 1, x, h => by
    by_cases hx : nextQ ps x < 0
    · exact ⟨[], by rw [walkQ_stop hx]; rfl, List.nodup_nil, by simp⟩
    · have h' := h
      rw [walkQ_go hx] at h'
      have h1 : (walkQ ps k (nextQ ps x)).2 < k := by simpa using h'
      obtain ⟨l, hl, hn, hy⟩ := walk_path h1
      have hs : (walkQ ps (k + 1) x).2 = (walkQ ps k (nextQ ps x)).2 + 1 := by rw [walkQ_go hx]
      refine ⟨x :: l, by rw [hs, List.length_cons, hl], List.nodup_cons.2 ⟨fun hm => ?_, hn⟩, ?_⟩
      · have h2 := (hy x hm).2.1
        have h3 := (hy x hm).2.2
        have h4 := walk_more h2 (k + 1) (by omega)
        rw [← h4] at h3
        omega
      · intro y hm
        rcases List.mem_cons.1 hm with rfl | hm
        · exact ⟨hx, h, Nat.le_refl _⟩
        · obtain ⟨a, b, c⟩ := hy y hm
          have h4 := walk_more b (k + 1) (by omega)
          rw [h4, hs]
          exact ⟨a, by omega, by omega⟩
theorem nodup_len : ∀ {l m : List Int}, l.Nodup → (∀ x ∈ l, x ∈ m) → l.length ≤ m.length
  | [], m, _, _ => Nat.zero_le _
  | a :: r, m, h, hs => by
    obtain ⟨h1, h2⟩ := List.nodup_cons.1 h
    have ha := hs a List.mem_cons_self
    have h3 := nodup_len (l := r) (m := m.erase a) h2 (fun x hx => (List.mem_erase_of_ne (fun e => h1 (by rw [← e]; exact hx))).2 (hs x (List.mem_cons_of_mem _ hx)))
    rw [List.length_erase_of_mem ha] at h3
    have := List.length_pos_of_mem ha
    simp only [List.length_cons]
    omega
theorem nextQ_mem {ps : List DProxy} {x : Int} (h : ¬ nextQ ps x < 0) : x ∈ ps.map DProxy.fr := by
  induction ps with
  | nil => simp [nextQ] at h
  | cons p r ih =>
    simp only [nextQ] at h
    by_cases hp : p.fr = x
    · simp [hp]
    · rw [if_neg (by simpa using hp)] at h
      exact List.mem_cons_of_mem _ (ih h)
/-- A walk that ends is no longer than there are proxies. -/
theorem walk_short {ps : List DProxy} {k : Nat} {x : Int} (h : (walkQ ps k x).2 < k) : (walkQ ps k x).2 ≤ ps.length := by
  obtain ⟨l, hl, hn, hy⟩ := walk_path h
  have := nodup_len hn (fun y hm => nextQ_mem (hy y hm).1)
  rw [List.length_map] at this
  omega
theorem stepsAll_iff {ps qs : List DProxy} : stepsAll ps qs = true ↔ ∀ p ∈ qs, (followQ ps p.fr).2 ≤ ps.length := by
  simp [stepsAll]
/-- All walks end. -/
theorem follow_le {ps : List DProxy} (h : stepsAll ps ps = true) (x : Int) : (followQ ps x).2 ≤ ps.length := by
  by_cases hx : nextQ ps x < 0
  · have : followQ ps x = (x, 0) := walkQ_stop hx
    rw [this]; exact Nat.zero_le _
  · obtain ⟨p, hp, rfl⟩ := List.mem_map.1 (nextQ_mem hx)
    exact stepsAll_iff.1 h p hp
theorem votersOk_steps {d : DVoters} (h : votersOk d = true) : stepsAll d.proxies d.proxies = true := by
  simp only [votersOk, Bool.and_eq_true] at h; exact h.2
theorem follow_end {ps : List DProxy} (h : stepsAll ps ps = true) (x : Int) : nextQ ps (followQ ps x).1 < 0 := walk_end (by have := follow_le h x; unfold followQ at this; omega)
theorem follow_steps0 {ps : List DProxy} {x : Int} : (followQ ps x).2 = 0 ↔ nextQ ps x < 0 := by
  constructor
  · intro h
    by_cases hx : nextQ ps x < 0
    · exact hx
    · unfold followQ at h
      rw [walkQ_go hx] at h
      simp at h
  · intro h
    have : followQ ps x = (x, 0) := walkQ_stop h
    rw [this]
theorem follow_self {ps : List DProxy} (h : stepsAll ps ps = true) {x : Int} : (followQ ps x).1 = x ↔ nextQ ps x < 0 := by
  constructor
  · intro hx
    have := follow_end h x
    rwa [hx] at this
  · intro hx
    have : followQ ps x = (x, 0) := walkQ_stop hx
    rw [this]
/-- Who gives a proxy holds nothing. -/
theorem heldQ_zero {d : DVoters} (hok : votersOk d = true) {i : Nat} (hi : ¬ nextQ d.proxies i < 0) : ∀ k, k ≤ d.weights.length → (heldQ d k).getD i 0 = 0
  | 0, _ => by
    simp only [heldQ, List.getD_eq_getElem?_getD, List.getElem?_replicate]
    split <;> rfl
  | k + 1, hk => by
    obtain ⟨m, hm, hml⟩ := followQ_in hok (show k < d.weights.length by omega)
    have he := follow_end (votersOk_steps hok) (k : Int)
    rw [hm] at he
    have hne : m ≠ i := fun e => hi (e ▸ he)
    rw [heldQ_succ hm (by omega), List.getD_eq_getElem?_getD, List.getElem?_set_ne hne, ← List.getD_eq_getElem?_getD]
    exact heldQ_zero hok hi k (by omega)
theorem mem_dirK {ps : List DProxy} {x : Int} : ∀ {n : Nat}, x ∈ dirK ps n ↔ ∃ k : Nat, k < n ∧ x = (k : Int) ∧ nextQ ps k < 0
  | 0 => by simp [dirK]
  | n + 1 => by
    simp only [dirK, List.mem_append, mem_dirK (n := n)]
    constructor
    · rintro (⟨k, h1, h2, h3⟩ | h)
      · exact ⟨k, by omega, h2, h3⟩
      · split at h
        · rename_i hc
          exact ⟨n, by omega, by simpa using h, hc⟩
        · cases h
    · rintro ⟨k, h1, h2, h3⟩
      rcases Nat.lt_or_ge k n with h | h
      · exact .inl ⟨k, h, h2, h3⟩
      · obtain rfl : k = n := by omega
        refine .inr ?_
        rw [if_pos h3]
        simpa using h2

/-! ### weights that are present -/
/-- The first n weights together. -/
def sumTo (L : List Int) (n : Nat) : Int := (L.take n).sum
theorem sumTo_succ (L : List Int) (n : Nat) : sumTo L (n + 1) = sumTo L n + L.getD n 0 := sum_take_succ L n
theorem sumTo_mono {L : List Int} (h : ∀ e ∈ L, 0 ≤ e) {a b : Nat} (hab : a ≤ b) : sumTo L a ≤ sumTo L b := by
  induction b with
  | zero => obtain rfl : a = 0 := by omega
            exact Int.le_refl _
  | succ b ih =>
    rcases Nat.lt_or_ge b a with h1 | h1
    · obtain rfl : a = b + 1 := by omega
      exact Int.le_refl _
    · have h2 := ih h1
      rw [sumTo_succ]
      have h3 : 0 ≤ L.getD b 0 := by
        rcases Nat.lt_or_ge b L.length with h4 | h4
        · exact h _ (getD_mem h4)
        · rw [List.getD_eq_getElem?_getD, List.getElem?_eq_none h4]; exact Int.le_refl _
      omega
theorem sumTo_all (L : List Int) : sumTo L L.length = L.sum := by unfold sumTo; rw [List.take_length]
def sumM (L ps : List Int) : Int := (ps.map (fun p => L.getD p.toNat 0)).sum
theorem sumK_eq (L ps : List Int) : ∀ k, k ≤ ps.length → sumK L ps k = sumM L (ps.take k)
  | 0, _ => by simp [sumK, sumM]
  | k + 1, hk => by
    have h1 := sumK_eq L ps k (by omega)
    rw [take_at (by omega)]
    simp only [sumK, h1, sumM, List.map_append, List.sum_append, getD_eqx (show k < ps.length by omega)]
    simp
theorem sumK_all (L ps : List Int) : sumK L ps ps.length = sumM L ps := by rw [sumK_eq L ps _ (Nat.le_refl _), List.take_length]
/-- Not more than all. -/
theorem sumM_le {L : List Int} (hL : ∀ e ∈ L, 0 ≤ e) {hi : Int} : ∀ {ps : List Int} {p : Option Int} {q : Nat}, risB 0 hi p ps = true → hi < L.length → (∀ y, p = some y → (q : Int) ≤ y + 1) → (p = none → q = 0) → sumM L ps ≤ sumTo L L.length - sumTo L q ∨ L.length < q
  | [], p, q, _, _, _, _ => by
    rcases Nat.lt_or_ge L.length q with h | h
    · exact .inr h
    · refine .inl ?_
      have := sumTo_mono hL h
      simp [sumM]; omega
  | a :: r, p, q, h, hh, h1, h2 => by
    simp only [risB, Bool.and_eq_true] at h
    obtain ⟨⟨h3, h4⟩, h5⟩ := h
    have h3 := inB_iff.1 h3
    obtain ⟨m, rfl⟩ : ∃ m : Nat, a = m := ⟨a.toNat, by omega⟩
    have hqm : q ≤ m := by
      cases p with
      | none => have := h2 rfl; omega
      | some y => have := h1 y rfl
                  have h6 : y < (m : Int) := by simpa using h4
                  omega
    have hml : m < L.length := by omega
    rcases sumM_le hL (q := m + 1) h5 hh (fun y hy => by cases hy; omega) (fun e => by cases e) with h6 | h6
    · refine .inl ?_
      have h7 := sumTo_mono hL hqm
      have h8 := sumTo_succ L m
      simp only [sumM, List.map_cons, List.sum_cons, Int.toNat_natCast] at h6 ⊢
      omega
    · omega
theorem sumM_app (L ps qs : List Int) : sumM L (ps ++ qs) = sumM L ps + sumM L qs := by simp [sumM]
/-- Those who vote themselves hold all. -/
theorem sumM_dir {d : DVoters} (hok : votersOk d = true) : ∀ k, k ≤ d.weights.length → sumM (heldQ d d.weights.length) (dirK d.proxies k) = sumTo (heldQ d d.weights.length) k
  | 0, _ => by simp [dirK, sumM, sumTo]
  | k + 1, hk => by
    rw [sumTo_succ]
    by_cases h : nextQ d.proxies k < 0
    · rw [dirK_on h, sumM_app, sumM_dir hok k (by omega)]
      simp [sumM]
    · rw [dirK_off h, sumM_dir hok k (by omega), heldQ_zero hok h _ (Nat.le_refl _)]
      omega
theorem ris_push {lo hi a : Int} (h1 : lo ≤ a) (h2 : a ≤ hi) : ∀ {xs : List Int} {p : Option Int}, risB lo hi p xs = true → (∀ y ∈ xs, y < a) → (∀ y, p = some y → y < a) → risB lo hi p (xs ++ [a]) = true
  | [], p, _, _, hp => by
    have h3 : inB a lo hi = true := inB_iff.2 ⟨h1, h2⟩
    cases p with
    | none => simp [risB, h3]
    | some y => simp [risB, h3, hp y rfl]
  | b :: r, p, h, hx, hp => by
    simp only [risB, Bool.and_eq_true, List.cons_append] at h ⊢
    exact ⟨h.1, ris_push h1 h2 h.2 (fun y hy => hx y (List.mem_cons_of_mem _ hy)) (fun y hy => by cases hy; exact hx _ List.mem_cons_self)⟩
theorem dirK_rise (ps : List DProxy) (hi : Int) : ∀ n : Nat, (n : Int) ≤ hi + 1 → (risB 0 hi none (dirK ps n) = true)
  | 0, _ => by simp [dirK, risB]
  | n + 1, hn => by
    have ih := dirK_rise ps hi n (by omega)
    by_cases h : nextQ ps n < 0
    · rw [dirK_on h]
      exact ris_push (by omega) (by omega) ih (fun y hy => by obtain ⟨k, hk, rfl, _⟩ := mem_dirK.1 hy; omega) (fun y hy => by cases hy)
    · rw [dirK_off h]; exact ih
/-- With everybody present all weights are present. -/
theorem presV_ok {d : DVoters} {ps : List Int} (h : (presV d ps).2 = true) : dirV d = (dirK d.proxies d.weights.length, true) ∧ presV d (dirK d.proxies d.weights.length) = (d.weights.sum, true) ∧ (presV d ps).1 ≤ d.weights.sum ∧ (∀ x ∈ d.weights, 0 ≤ x ∧ x ≤ 1000000) ∧ d.weights.length ≤ 12 := by
  unfold presV at h
  split at h
  · rename_i hc
    have hc' := hc
    simp only [Bool.and_eq_true] at hc
    obtain ⟨hok, hr⟩ := hc
    have h12 := votersOk_parts hok
    have hH := heldQ_1200 hok
    refine ⟨by rw [dirV, if_pos hok], ?_, ?_, fun x hx => by have := okW_mem h12.2.1 x hx; omega, h12.1⟩
    · have h1 := dirK_rise d.proxies ((d.weights.length : Int) - 1) d.weights.length (by omega)
      unfold presV
      rw [if_pos (by rw [hok]; exact h1), sumK_all, sumM_dir hok _ (Nat.le_refl _)]
      have := sumTo_all (heldQ d d.weights.length)
      rw [heldQ_len] at this
      rw [this, held_sum hok]
    · unfold presV
      rw [if_pos hc']
      show sumK _ ps ps.length ≤ _
      rw [sumK_all]
      rcases sumM_le (L := heldQ d d.weights.length) (fun e he => (hH e he).1) (q := 0) hr (by rw [heldQ_len]; omega) (fun y hy => by cases hy) (fun _ => rfl) with h1 | h1
      · rw [sumTo_all, held_sum hok] at h1
        simp only [sumTo, List.take_zero, List.sum_nil] at h1
        omega
      · omega
  · cases h

/-! ### a proxy is revoked -/
theorem nextQ_out (ps : List DProxy) (f x : Int) : nextQ (outQ f ps) x = if x = f then -1 else nextQ ps x := by
  induction ps with
  | nil => simp [keepF, nextQ]
  | cons p r ih =>
    unfold outQ keepF at ih ⊢
    by_cases hp : p.fr = f
    · rw [List.filter_cons_of_neg (by simp [hp]), ih]
      by_cases hx : x = f
      · rw [if_pos hx, if_pos hx]
      · rw [if_neg hx, if_neg hx]
        simp only [nextQ]
        rw [if_neg (by rw [beq_iff_eq, hp]; exact fun e => hx e.symm)]
    · rw [List.filter_cons_of_pos (by simp [hp])]
      simp only [nextQ]
      by_cases hx : p.fr = x
      · have e1 : (p.fr == x) = true := by simpa using hx
        have e2 : ¬ x = f := by omega
        simp only [e1, if_true, if_neg e2]
      · have e1 : (p.fr == x) = false := by simpa using hx
        simp only [e1, Bool.false_eq_true, if_false, ih]
theorem walk_out {ps : List DProxy} (f : Int) : ∀ {k : Nat} {x : Int}, (walkQ ps k x).2 < k → (walkQ (outQ f ps) k x).2 < k
  | 0, x, h => by simp at h
  | k + 1, x, h => by
    by_cases hx : nextQ (outQ f ps) x < 0
    · rw [walkQ_stop hx]; exact Nat.succ_pos _
    · have h1 := hx
      rw [nextQ_out] at h1
      split at h1
      · omega
      · rename_i hne
        rw [walkQ_go h1] at h
        rw [walkQ_go hx, nextQ_out, if_neg hne]
        have := walk_out f (k := k) (x := nextQ ps x) (by simpa using h)
        simpa using this
theorem proxOk_weak {n : Int} {pv : Option Int} {q : Int} (h : ∀ y, pv = some y → y < q) : ∀ {ps : List DProxy}, proxOk n (some q) ps = true → proxOk n pv ps = true
  | [], _ => by simp [proxOk]
  | p :: r, hp => by
    simp only [proxOk, Bool.and_eq_true] at hp ⊢
    refine ⟨⟨hp.1.1, ?_⟩, hp.2⟩
    cases pv with
    | none => rfl
    | some y =>
      have := h y rfl
      have h1 : q < p.fr := by simpa using hp.1.2
      simp; omega
theorem proxOk_out {n : Int} (f : Int) : ∀ {ps : List DProxy} {pv : Option Int}, proxOk n pv ps = true → proxOk n pv (outQ f ps) = true
  | [], pv, _ => by simp [keepF, proxOk]
  | p :: r, pv, h => by
    have hm := proxOk_mem h p List.mem_cons_self
    simp only [proxOk, Bool.and_eq_true] at h
    have ih := proxOk_out f h.2
    unfold outQ keepF at ih ⊢
    by_cases hp : p.fr = f
    · rw [List.filter_cons_of_neg (by simp [hp])]
      exact proxOk_weak hm.2.2 ih
    · rw [List.filter_cons_of_pos (by simp [hp])]
      simp only [proxOk, Bool.and_eq_true]
      exact ⟨h.1, ih⟩
theorem votersOk_out {d : DVoters} (f : Int) (h : votersOk d = true) : votersOk ⟨d.weights, outQ f d.proxies⟩ = true := by
  obtain ⟨h1, h2, h3⟩ := votersOk_parts h
  have hs : stepsAll (outQ f d.proxies) (outQ f d.proxies) = true := by
    rw [stepsAll_iff]
    intro p hp
    have h4 := follow_le (votersOk_steps h) p.fr
    have h5 : (walkQ (outQ f d.proxies) (d.proxies.length + 1) p.fr).2 < d.proxies.length + 1 := walk_out f (by unfold followQ at h4; omega)
    have h6 := walk_short h5
    have h7 := walk_more h5 ((outQ f d.proxies).length + 1) (by omega)
    unfold followQ
    rw [h7]
    exact h6
  simp only [votersOk, Bool.and_eq_true, decide_eq_true_eq]
  exact ⟨⟨⟨h1, h2⟩, proxOk_out f h3⟩, hs⟩

end Go.Proofs.Ytapkicfbknoioaa
