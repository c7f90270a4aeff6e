/- Plain: slots of committees that share a member, how few they are, the busiest person. Of no program. No conditions. -/
import Derived.Test.YtpjmcjdnobihbaaCommP
import Derived.Test.YtpjmcjdnobihbaaCommH
import Derived.Test.YtpjmcjdnobihbaaPairS
namespace Go.Proofs.Ytpjmcjdnobihbaa
open Go.RowKit
set_option linter.unusedVariables false
set_option linter.unusedSimpArgs false

theorem rowP_mem {xs : List DCommittee} {i : Nat} {r : List ByteArray} : ∀ {m : Nat}, r ∈ rowP xs i m → ∃ j, j < m ∧ shareB (xs.getD i commZ) (xs.getD (i + 1 + j) commZ) = true ∧ r = [(xs.getD i commZ).name, (xs.getD (i + 1 + j) commZ).name]
  | 0, h => by simp [rowP] at h
  | m + 1, h => by
    simp only [rowP] at h
    split at h
    · rename_i hs
      rcases List.mem_append.1 h with h | h
      · obtain ⟨j, h1, h2⟩ := rowP_mem h; exact ⟨j, by omega, h2⟩
      · exact ⟨m, by omega, hs, by simpa using h⟩
    · obtain ⟨j, h1, h2⟩ := rowP_mem h; exact ⟨j, by omega, h2⟩
theorem pairL_mem {xs : List DCommittee} {r : List ByteArray} : ∀ {k : Nat}, r ∈ pairL xs k → ∃ i j, i < k ∧ i < j ∧ j < xs.length ∧ shareB (xs.getD i commZ) (xs.getD j commZ) = true ∧ r = [(xs.getD i commZ).name, (xs.getD j commZ).name]
  | 0, h => by simp [pairL] at h
  | k + 1, h => by
    simp only [pairL] at h
    rcases List.mem_append.1 h with h | h
    · obtain ⟨i, j, h1, h2⟩ := pairL_mem h; exact ⟨i, j, by omega, h2⟩
    · obtain ⟨j, h1, h2, h3⟩ := rowP_mem h
      exact ⟨k, k + 1 + j, by omega, by omega, by omega, h2, h3⟩
theorem names_inj {xs : List DCommittee} (h : commsOk xs = true) {i j : Nat} (hi : i < xs.length) (hj : j < xs.length) (he : xs[i].name = xs[j].name) : i = j := by
  have hp := List.pairwise_iff_getElem.1 (commsOk_iff.1 h).2.1
  rcases Nat.lt_trichotomy i j with h1 | h1 | h1
  · exact absurd he (ltN_ne (hp i j hi hj h1))
  · exact h1
  · exact absurd he.symm (ltN_ne (hp j i hj hi h1))
/-- Whether two names are a pair. -/
def hasP (ps : List (List ByteArray)) (a b : ByteArray) : Bool := ps.any (fun r => decide (r = [a, b]))
theorem pair_share {xs : List DCommittee} (h : commsOk xs = true) {k i : Nat} (hki : k < i) (hi : i < xs.length) (hp : hasP (pairL xs xs.length) (xs[k]'(by omega)).name xs[i].name = true) : shareB (xs.getD k commZ) (xs.getD i commZ) = true := by
  simp only [hasP, List.any_eq_true, decide_eq_true_eq] at hp
  obtain ⟨r, hr, he⟩ := hp
  obtain ⟨a, b, h1, h2, h3, h4, h5⟩ := pairL_mem hr
  rw [he] at h5
  rw [getD_c (by omega), getD_c h3] at h5
  simp only [List.cons.injEq, and_true] at h5
  have e1 := names_inj h (by omega) (by omega) h5.1
  have e2 := names_inj h hi h3 h5.2
  subst e1 e2
  exact h4
theorem meetL_get (xs : List DCommittee) : ∀ (n k : Nat), k < n → (meetL xs n).getD k 0 = slotOf xs (meetL xs k)
  | 0, k, h => by omega
  | n + 1, k, h => by
    simp only [meetL, List.getD_eq_getElem?_getD]
    by_cases hk : k < n
    · rw [List.getElem?_append_left (by rw [meetL_len]; exact hk), ← List.getD_eq_getElem?_getD, meetL_get xs n k hk]
    · obtain rfl : k = n := by omega
      rw [List.getElem?_append_right (by rw [meetL_len]; exact Nat.le_refl _), meetL_len]
      simp
/-- Who shares a member meets in another slot. -/
theorem meet_apart {xs : List DCommittee} {k i n : Nat} (hki : k < i) (hi : i < n) (hs : shareB (xs.getD k commZ) (xs.getD i commZ) = true) : (meetL xs n).getD k 0 ≠ (meetL xs n).getD i 0 := by
  rw [meetL_get xs n k (by omega), meetL_get xs n i hi]
  have h1 := (slotOf_spec (xs := xs) (meetL_bd xs i)).2.2.1
  intro he
  have hb : badB xs (meetL xs i) (slotOf xs (meetL xs i)) k = true := by
    simp only [badB, meetL_len, hs, Bool.and_true, beq_iff_eq]
    rw [meetL_get xs i k hki]; exact he
  rw [freeB_no (by rw [meetL_len]; exact hki) hb] at h1
  cases h1

/-! ### how many slots -/
def mostL (sl : List Int) : Nat → Int
  | 0 => 0
  | k + 1 => if mostL sl k < sl.getD k 0 + 1 then sl.getD k 0 + 1 else mostL sl k
theorem mostL_bd (sl : List Int) : ∀ n, 0 ≤ mostL sl n ∧ ∀ k, k < n → sl.getD k 0 + 1 ≤ mostL sl n
  | 0 => ⟨Int.le_refl _, fun k h => by omega⟩
  | n + 1 => by
    obtain ⟨h1, h2⟩ := mostL_bd sl n
    simp only [mostL]
    split
    · refine ⟨by omega, fun k hk => ?_⟩
      by_cases he : k = n
      · subst he; exact Int.le_refl _
      · have := h2 k (by omega); omega
    · refine ⟨h1, fun k hk => ?_⟩
      by_cases he : k = n
      · subst he; omega
      · exact h2 k (by omega)
theorem mostL_le (sl : List Int) (m : Int) (h0 : 0 ≤ m) (h : ∀ x ∈ sl, x < m) : ∀ n, n ≤ sl.length → mostL sl n ≤ m
  | 0, _ => h0
  | n + 1, hn => by
    have ih := mostL_le sl m h0 h n (by omega)
    simp only [mostL]
    split
    · have := h (sl.getD n 0) (by rw [getD_i (by omega)]; exact List.getElem_mem _); omega
    · exact ih
theorem canM_meet2 {xs : List DCommittee} {M : Nat} (hM : ∀ k, k < xs.length → slotOf xs (meetL xs k) < M) : ∀ d k, k + d = xs.length → canM xs M d (meetL xs k) = true := by
  intro d
  induction d with
  | zero => intro k _; rfl
  | succ d ih =>
    intro k hk
    have hs := slotOf_spec (xs := xs) (meetL_bd xs k)
    have hm := hM k (by omega)
    simp only [canM, List.any_eq_true, List.mem_range, Bool.and_eq_true]
    have hc : (((slotOf xs (meetL xs k)).toNat : Nat) : Int) = slotOf xs (meetL xs k) := by omega
    exact ⟨(slotOf xs (meetL xs k)).toNat, by omega, by rw [hc]; exact hs.2.2.1, by rw [hc]; exact ih (k + 1) (by omega)⟩
theorem few_most (xs : List DCommittee) : (fewN xs : Int) ≤ mostL (meetL xs xs.length) xs.length := by
  obtain ⟨h0, h1⟩ := mostL_bd (meetL xs xs.length) xs.length
  have hc := canM_meet2 (xs := xs) (M := (mostL (meetL xs xs.length) xs.length).toNat) (fun k hk => by
    have := h1 k hk
    rw [meetL_get xs _ k hk] at this
    omega) xs.length 0 (by omega)
  have h2 := (fewN_spec xs).2.2 (mostL (meetL xs xs.length) xs.length).toNat
  rcases Nat.lt_or_ge (mostL (meetL xs xs.length) xs.length).toNat (fewN xs) with h3 | h3
  · have h4 := h2 h3
    rw [show (meetL xs 0) = [] from rfl] at hc
    rw [hc] at h4; cases h4
  · omega

/-! ### the busiest person -/
theorem canM_full {xs : List DCommittee} {m : Nat} : ∀ (d : Nat) (sl : List Int), canM xs m d sl = true → ∃ fl : List Int, fl.length = sl.length + d ∧ fl.take sl.length = sl ∧ ∀ i, sl.length ≤ i → i < fl.length → 0 ≤ fl.getD i 0 ∧ fl.getD i 0 < m ∧ freeB xs (fl.take i) (fl.getD i 0) = true
  | 0, sl, _ => ⟨sl, by omega, by simp, fun i h1 h2 => by omega⟩
  | d + 1, sl, h => by
    simp only [canM, List.any_eq_true, List.mem_range, Bool.and_eq_true] at h
    obtain ⟨s, hs, h1, h2⟩ := h
    obtain ⟨fl, h3, h4, h5⟩ := canM_full d _ h2
    simp only [List.length_append, List.length_singleton] at h3 h4 h5
    have hg : fl.getD sl.length 0 = (s : Int) := by
      have : (fl.take (sl.length + 1))[sl.length]? = (sl ++ [(s : Int)])[sl.length]? := by rw [h4]
      rw [List.getElem?_take_of_lt (by omega), List.getElem?_append_right (Nat.le_refl _)] at this
      rw [List.getD_eq_getElem?_getD, this]
      simp
    have ht : fl.take sl.length = sl := by
      have : (fl.take (sl.length + 1)).take sl.length = (sl ++ [(s : Int)]).take sl.length := by rw [h4]
      rw [List.take_take, Nat.min_eq_left (by omega), List.take_left] at this
      exact this
    refine ⟨fl, by omega, ht, fun i h6 h7 => ?_⟩
    by_cases he : i = sl.length
    · subst he
      rw [hg, ht]
      exact ⟨by omega, by omega, h1⟩
    · exact h5 i (by omega) h7
def idxP (p : Int) (xs : List DCommittee) (k : Nat) : List Nat := (List.range k).filter (fun i => hasB (xs.getD i commZ).members p)
theorem ofK_idx (p : Int) (xs : List DCommittee) : ∀ k, k ≤ xs.length → (ofK p xs k).length = (idxP p xs k).length
  | 0, _ => rfl
  | k + 1, hk => by
    have ih := ofK_idx p xs k (by omega)
    unfold idxP at ih ⊢
    rw [List.range_succ, List.filter_append, List.length_append, ← ih]
    cases h : hasB (xs[k]'(by omega)).members p with
    | true =>
      rw [ofK_on (by omega) h]
      have h' : hasB (xs.getD k commZ).members p = true := by rw [getD_c (by omega)]; exact h
      rw [List.filter_cons_of_pos (p := fun i => hasB (xs.getD i commZ).members p) h', List.filter_nil]
      simp
    | false =>
      rw [ofK_off (by omega) h]
      have h' : ¬ hasB (xs.getD k commZ).members p = true := by rw [getD_c (by omega), h]; simp
      rw [List.filter_cons_of_neg (p := fun i => hasB (xs.getD i commZ).members p) h', List.filter_nil]
      simp
theorem nodup_lenS : ∀ {l m : List Int}, l.Nodup → (∀ x ∈ l, x ∈ m) → l.length ≤ m.length
  | [], m, _, _ => Nat.zero_le _
  | a :: r, m, h, hs => by
    obtain ⟨h1, h2⟩ := List.nodup_cons.1 h
    have ha := hs a List.mem_cons_self
    have h3 := nodup_lenS (l := r) (m := m.erase a) h2 (fun x hx => (List.mem_erase_of_ne (fun e => h1 (by rw [← e]; exact hx))).2 (hs x (List.mem_cons_of_mem _ hx)))
    rw [List.length_erase_of_mem ha] at h3
    have := List.length_pos_of_mem ha
    simp only [List.length_cons]
    omega
theorem share_of {a b : DCommittee} {p : Int} (h1 : hasB a.members p = true) (h2 : hasB b.members p = true) : shareB a b = true := by
  simp only [shareB, List.any_eq_true]
  exact ⟨p, hasB_iff.1 h1, h2⟩
/-- A person in n committees needs n slots. -/
theorem of_few (xs : List DCommittee) (p : Int) : (ofL p xs).length ≤ fewN xs := by
  obtain ⟨fl, h1, _, h3⟩ := canM_full _ _ (fewN_spec xs).2.1
  simp only [List.length_nil, Nat.zero_add] at h1 h3
  unfold ofL
  rw [ofK_idx p xs _ (Nat.le_refl _)]
  have hn : ((idxP p xs xs.length).map (fun i => fl.getD i 0)).Nodup := by
    unfold idxP
    refine List.pairwise_map.2 ?_
    refine List.Pairwise.imp_of_mem ?_ ((List.pairwise_lt_range (n := xs.length)).filter _)
    intro a b ha hb hab he
    obtain ⟨ha1, ha2⟩ := List.mem_filter.1 ha
    obtain ⟨hb1, hb2⟩ := List.mem_filter.1 hb
    have hbl := List.mem_range.1 hb1
    have hf := (h3 b (Nat.zero_le _) (by omega)).2.2
    have hbad : badB xs (fl.take b) (fl.getD b 0) a = true := by
      have hl : (fl.take b).length = b := by rw [List.length_take]; omega
      simp only [badB, hl, Bool.and_eq_true, beq_iff_eq]
      refine ⟨?_, share_of ha2 hb2⟩
      rw [List.getD_eq_getElem?_getD, List.getElem?_take_of_lt hab, ← List.getD_eq_getElem?_getD]
      exact he
    rw [freeB_no (by rw [List.length_take]; omega) hbad] at hf
    cases hf
  have h4 := nodup_lenS (m := (List.range (fewN xs)).map (fun i : Nat => (i : Int))) hn (fun x hx => by
    obtain ⟨i, hi, rfl⟩ := List.mem_map.1 hx
    have hi2 := List.mem_range.1 (List.mem_filter.1 hi).1
    have h5 := h3 i (Nat.zero_le _) (by omega)
    exact List.mem_map.2 ⟨(fl.getD i 0).toNat, List.mem_range.2 (by omega), by omega⟩)
  simpa using h4
theorem busyK_spec (xs : List DCommittee) : ∀ k : Nat, ((busyK xs k = (0, 0)) ∨ (1 ≤ (busyK xs k).1 ∧ (busyK xs k).1 ≤ k ∧ (busyK xs k).2 = ((ofL (busyK xs k).1 xs).length : Int))) ∧ ∀ j : Nat, 1 ≤ j → j ≤ k → ((ofL (j : Int) xs).length : Int) ≤ (busyK xs k).2
  | 0 => ⟨.inl rfl, fun j h1 h2 => by omega⟩
  | k + 1 => by
    obtain ⟨h1, h2⟩ := busyK_spec xs k
    simp only [busyK]
    split
    · rename_i hlt
      refine ⟨.inr ⟨by dsimp only; omega, by dsimp only; omega, rfl⟩, fun j h3 h4 => ?_⟩
      by_cases he : j = k + 1
      · subst he; exact Int.le_refl _
      · have := h2 j h3 (by omega); dsimp only; omega
    · rename_i hlt
      refine ⟨?_, fun j h3 h4 => ?_⟩
      · rcases h1 with h1 | ⟨a, b, c⟩
        · exact .inl h1
        · exact .inr ⟨a, by omega, c⟩
      · by_cases he : j = k + 1
        · subst he; omega
        · exact h2 j h3 (by omega)
theorem ofK_mono (p : Int) (xs : List DCommittee) : ∀ {a b : Nat}, a ≤ b → (ofK p xs a).length ≤ (ofK p xs b).length := by
  intro a b h
  induction b with
  | zero => obtain rfl : a = 0 := by omega
            exact Nat.le_refl _
  | succ b ih =>
    by_cases he : a = b + 1
    · subst he; exact Nat.le_refl _
    · have := ih (by omega)
      simp only [ofK, List.length_append]; omega
/-- The busiest person is in as many committees, and needs so many slots. -/
theorem busy_ok {xs : List DCommittee} (h : (busyV xs).2.2 = true) : ofV xs (busyV xs).1 = (ofL (busyV xs).1 xs, true) ∧ ((ofL (busyV xs).1 xs).length : Int) = (busyV xs).2.1 ∧ (busyV xs).2.1 ≤ fewN xs := by
  unfold busyV at h ⊢
  split at h
  · rename_i hc
    rw [if_pos hc]
    dsimp only
    obtain ⟨hok, hl⟩ := Bool.and_eq_true_iff.1 hc
    have hl := of_decide_eq_true hl
    obtain ⟨h1, h2⟩ := busyK_spec xs 99
    have hc0 := (commOk_parts ((commsOk_iff.1 hok).1 _ (List.getElem_mem hl)))
    obtain ⟨hw, hm1, hm2, hr, hh⟩ := hc0
    have hin := inB_iff.1 (ris_in (p := none) hr _ (hasB_iff.1 hh))
    obtain ⟨p, hp⟩ : ∃ p : Nat, xs[0].head = (p : Int) := ⟨xs[0].head.toNat, by omega⟩
    rw [hp] at hh hin
    have h3 := h2 p (by omega) (by omega)
    have h4 : 1 ≤ (ofL (p : Int) xs).length := by
      have h5 := ofK_mono (p : Int) xs (show 1 ≤ xs.length from hl)
      have h6 : ofK (p : Int) xs 1 = ofK (p : Int) xs 0 ++ [xs[0].name] := ofK_on hl hh
      rw [h6] at h5
      simp only [List.length_append, List.length_singleton] at h5
      unfold ofL
      omega
    rcases h1 with h1 | ⟨a, b, c⟩
    · rw [h1] at h3; dsimp only at h3; omega
    · refine ⟨?_, c.symm, ?_⟩
      · unfold ofV
        rw [if_pos (by simp only [hok, Bool.true_and]; exact inB_iff.2 ⟨by omega, by omega⟩)]
      · rw [c]
        have := of_few xs (busyK xs 99).1
        omega
  · cases h

end Go.Proofs.Ytpjmcjdnobihbaa
