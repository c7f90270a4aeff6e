/- Plain: a member who comes and goes again; the committees of a person before and after. Of no program. No conditions. -/
import Derived.Test.YtpjmcjdnobihbaaCommP
import Derived.Test.YtpjmcjdnobihbaaCommB
namespace Go.Proofs.Ytpjmcjdnobihbaa
open Go.RowKit
set_option linter.unusedVariables false
set_option linter.unusedSimpArgs false

theorem risC_iff {lo hi : Int} : ∀ (xs : List Int) (p : Option Int), risB lo hi p xs = true ↔ (∀ x ∈ xs, inB x lo hi = true) ∧ xs.Pairwise (· < ·) ∧ ∀ y, p = some y → ∀ x ∈ xs, y < x
  | [], p => by simp [risB]
  | a :: r, p => by
    simp only [risB, Bool.and_eq_true]
    rw [risC_iff r (some a)]
    constructor
    · rintro ⟨⟨h1, h2⟩, h3, h4, h5⟩
      refine ⟨fun x hx => ?_, List.pairwise_cons.2 ⟨fun b hb => h5 _ rfl b hb, h4⟩, fun q hq x hx => ?_⟩
      · rcases List.mem_cons.1 hx with rfl | hx
        · exact h1
        · exact h3 x hx
      · subst hq
        have h2' : q < a := by simpa using h2
        rcases List.mem_cons.1 hx with rfl | hx
        · exact h2'
        · have := h5 _ rfl x hx; omega
    · rintro ⟨h1, h2, h3⟩
      obtain ⟨h4, h5⟩ := List.pairwise_cons.1 h2
      refine ⟨⟨h1 a (by simp), ?_⟩, fun x hx => h1 x (by simp [hx]), h5, fun q hq x hx => ?_⟩
      · cases p with
        | none => rfl
        | some q => simpa using h3 q rfl a (by simp)
      · cases hq
        exact h4 x hx
theorem rise_outC {lo hi x : Int} {pr : List Int} (h : rising lo hi pr = true) : rising lo hi (outB x pr) = true := by
  obtain ⟨h1, h2, _⟩ := (risC_iff pr none).1 h
  unfold outB keepF
  exact (risC_iff _ none).2 ⟨fun y hy => h1 y ((List.mem_filter.1 hy).1), h2.filter _, fun y hy => by cases hy⟩
theorem out_putC {x : Int} {pr : List Int} (hno : hasB pr x = false) : outB x (putL x pr) = pr := by
  have hne : x ∉ pr := fun hm => by rw [hasB_iff.2 hm] at hno; cases hno
  have hf : ∀ l : List Int, (∀ y ∈ l, y ∈ pr) → outB x l = l := fun l hl => by
    unfold outB keepF
    refine List.filter_eq_self.2 fun y hy => ?_
    have : y ≠ x := fun e => hne (e ▸ hl y hy)
    simp [this]
  have e : outB x (putL x pr) = outB x (pr.take (putAt x pr)) ++ outB x (pr.drop (putAt x pr)) := by
    unfold putL outB keepF
    rw [List.filter_append, List.filter_cons]
    simp
  rw [e, hf _ (fun y hy => List.mem_of_mem_take hy), hf _ (fun y hy => List.mem_of_mem_drop hy), List.take_append_drop]
theorem mem_outC {x y : Int} {l : List Int} : y ∈ outB x l ↔ y ∈ l ∧ y ≠ x := by
  unfold outB keepF
  simp [List.mem_filter]

/-! ### names -/
theorem idxBy_names {xs ys : List DCommittee} (n : ByteArray) (h : xs.map DCommittee.name = ys.map DCommittee.name) : idxBy (isN n) xs = idxBy (isN n) ys := by
  have e : ∀ zs : List DCommittee, zs.findIdx? (isN n) = (zs.map DCommittee.name).findIdx? (fun m => decide (m = n)) := fun zs => by
    rw [List.findIdx?_map]; rfl
  unfold idxBy
  rw [e xs, e ys, h]
theorem set_names {xs : List DCommittee} {i : Nat} (hi : i < xs.length) {c : DCommittee} (hn : c.name = xs[i].name) : (xs.set i c).map DCommittee.name = xs.map DCommittee.name := by
  have h := @List.set_getElem_self _ (xs.map DCommittee.name) i (by simpa using hi)
  rw [List.map_set, hn]
  simpa using h
theorem idx_at {xs : List DCommittee} {n : ByteArray} (h0 : 0 ≤ idxBy (isN n) xs) : ∃ i, ∃ hi : i < xs.length, idxBy (isN n) xs = (i : Int) ∧ xs[i].name = n := by
  rcases idxBy_hit (isN n) xs with hm | ⟨j, hj, e, hp⟩
  · omega
  · exact ⟨j, hj, e, by simpa [isN] using hp⟩
theorem set_ok {xs : List DCommittee} (h : commsOk xs = true) {i : Nat} (hi : i < xs.length) {c : DCommittee} (hn : c.name = xs[i].name) (hc : commOk c = true) : commsOk (xs.set i c) = true := by
  obtain ⟨h1, h2, h3⟩ := commsOk_iff.1 h
  refine commsOk_iff.2 ⟨fun y hy => ?_, ?_, by simpa using h3⟩
  · rcases List.mem_or_eq_of_mem_set hy with hy | rfl
    · exact h1 y hy
    · exact hc
  · have h4 : (xs.map DCommittee.name).Pairwise (fun a b => ltN a b = true) := List.pairwise_map.2 h2
    rw [← set_names hi hn] at h4
    exact List.pairwise_map.1 h4
theorem erase_ok {xs : List DCommittee} (h : commsOk xs = true) (i : Nat) : commsOk (xs.eraseIdx i) = true := by
  obtain ⟨h1, h2, h3⟩ := commsOk_iff.1 h
  have hs := List.eraseIdx_sublist xs i
  exact commsOk_iff.2 ⟨fun y hy => h1 y (hs.subset hy), h2.sublist hs, by have := hs.length_le; omega⟩

/-! ### appointed and dismissed -/
theorem app_dism {xs more : List DCommittee} {n : ByteArray} {p : Int} (h : appV xs n p = (more, true)) : commsOk more = true ∧ dismV more n p = (xs, true) := by
  cases hok : appOk xs n p with
  | false => rw [appV_no hok] at h; cases congrArg Prod.snd h
  | true =>
    have h1 := hok
    simp only [appOk, Bool.and_eq_true, Bool.not_eq_true', decide_eq_true_eq] at h1
    obtain ⟨ho, h0, hin, hno⟩ := h1
    obtain ⟨i, hi, hix, hnm⟩ := idx_at h0
    rw [hix, Int.toNat_natCast, getD_c hi] at hno
    rw [appV_at hok hi hix] at h
    have hne : (appC p xs[i]).members ≠ [] := by
      have := putL_len p xs[i].members
      intro e
      simp only [appC] at e
      rw [e] at this; simp at this
    rw [putV_set ho hi (by rfl) hne] at h
    have hpt := commOk_parts ((commsOk_iff.1 ho).1 _ (List.getElem_mem hi))
    cases hc : commsOk (xs.set i (appC p xs[i])) with
    | false =>
      unfold checkV at h
      rw [if_neg (by rw [hc]; simp)] at h
      cases congrArg Prod.snd h
    | true =>
      unfold checkV at h
      rw [if_pos hc] at h
      obtain rfl := congrArg Prod.fst h
      refine ⟨hc, ?_⟩
      have hi2 : i < (xs.set i (appC p xs[i])).length := by simpa using hi
      have hx2 : idxBy (isN n) (xs.set i (appC p xs[i])) = (i : Int) := by rw [idxBy_names n (set_names hi (c := appC p xs[i]) rfl)]; exact hix
      have hg : (xs.set i (appC p xs[i]))[i] = appC p xs[i] := by simp
      have hh2 : hasB (appC p xs[i]).members p = true := hasB_iff.2 (mem_putL.2 (.inl rfl))
      have hm : memOk (xs.set i (appC p xs[i])) n p = true := by
        unfold memOk
        rw [hc, hx2, Int.toNat_natCast, getD_c hi2, hg, hh2]
        simp
      have hl : lessM p (appC p xs[i]) = xs[i] := by
        unfold lessM appC
        dsimp only
        rw [out_putC hno]
        unfold headM
        rw [if_neg]
        rintro ⟨_, e⟩
        have hh := hpt.2.2.2.2
        rw [e, hno] at hh; cases hh
      rw [dismV_at hm hi2 hx2]
      simp only [hg, hl]
      rw [putV_set hc hi2 (by rw [hg]; rfl) (fun e => by have := hpt.2.1; rw [e] at this; simp at this), List.set_set, List.set_getElem_self]

theorem ofK_take {p : Int} {xs : List DCommittee} : ∀ k, k ≤ xs.length → ofK p xs k = ((xs.take k).filter (fun c => hasB c.members p)).map DCommittee.name
  | 0, _ => by simp [ofK]
  | k + 1, hk => by
    have ih := ofK_take (p := p) (xs := xs) k (by omega)
    rw [List.take_succ_eq_append_getElem (by omega), List.filter_append, List.map_append, ← ih]
    cases h : hasB (xs[k]'(by omega)).members p with
    | true => rw [ofK_on (by omega) h, List.filter_cons_of_pos (by exact h)]; simp
    | false => rw [ofK_off (by omega) h, List.filter_cons_of_neg (by simp [h])]; simp
theorem ofL_eq (p : Int) (xs : List DCommittee) : ofL p xs = (xs.filter (fun c => hasB c.members p)).map DCommittee.name := by
  unfold ofL
  rw [ofK_take _ (Nat.le_refl _), List.take_length]
/-- Who is dismissed is in one committee less. -/
theorem dism_less {xs less : List DCommittee} {n : ByteArray} {p : Int} (h : dismV xs n p = (less, true)) :
    commsOk xs = true ∧ commsOk less = true ∧ inB p 1 99 = true ∧ (ofL p less).length + 1 = (ofL p xs).length ∧ n ∈ ofL p xs ∧ n ∉ ofL p less := by
  cases hok : memOk xs n p with
  | false => rw [dismV_no hok] at h; cases congrArg Prod.snd h
  | true =>
    obtain ⟨ho, i, hi, hix, hnm, hhp⟩ := memOk_parts hok
    have hpt := commOk_parts ((commsOk_iff.1 ho).1 _ (List.getElem_mem hi))
    obtain ⟨hw, hl1, hl2, hri, hhd⟩ := hpt
    have hin : inB p 1 99 = true := ris_in hri p (hasB_iff.1 hhp)
    obtain ⟨u1, u2⟩ := up_split (commsOk_iff.1 ho).2.1 hi
    have hxs : xs = xs.take i ++ xs[i] :: xs.drop (i + 1) := by rw [← drop_at hi, List.take_append_drop]
    have hA : ofL p xs = ofL p (xs.take i) ++ n :: ofL p (xs.drop (i + 1)) := by
      simp only [ofL_eq]
      conv => lhs; rw [hxs]
      rw [List.filter_append, List.filter_cons_of_pos (by exact hhp), List.map_append, List.map_cons, hnm]
    have key : commsOk less = true ∧ ofL p less = ofL p (xs.take i) ++ ofL p (xs.drop (i + 1)) := by
      by_cases hz : outB p xs[i].members = []
      · rw [dismV_out hok hi hix hz] at h
        obtain rfl := congrArg Prod.fst h
        refine ⟨erase_ok ho i, ?_⟩
        simp only [ofL_eq]
        rw [List.eraseIdx_eq_take_drop_succ, List.filter_append, List.map_append]
      · rw [dismV_set hok hi hix hz] at h
        obtain rfl := congrArg Prod.fst h
        have hlen : 1 ≤ (outB p xs[i].members).length := by
          rcases hq : outB p xs[i].members with _ | ⟨a, l⟩
          · exact absurd hq hz
          · simp
        have hle := outB_len p xs[i].members
        have hc : commOk (lessM p xs[i]) = true := by
          simp only [commOk, lessM, Bool.and_eq_true]
          refine ⟨⟨⟨hw, inB_iff.2 (by omega)⟩, rise_outC hri⟩, hasB_iff.2 ?_⟩
          unfold headM
          split
          · rw [List.getD_eq_getElem?_getD, List.getElem?_eq_getElem (by omega)]
            exact List.getElem_mem _
          · rename_i hn
            refine mem_outC.2 ⟨hasB_iff.1 hhd, fun e => hn ⟨by omega, e⟩⟩
        refine ⟨set_ok ho hi rfl hc, ?_⟩
        have hno : hasB (lessM p xs[i]).members p = false := by
          cases hq : hasB (lessM p xs[i]).members p with
          | false => rfl
          | true => exact absurd rfl (mem_outC.1 (hasB_iff.1 hq)).2
        simp only [ofL_eq]
        rw [List.set_eq_take_append_cons_drop, if_pos hi, List.filter_append, List.filter_cons_of_neg (by simp [hno]), List.map_append]
    obtain ⟨k1, k2⟩ := key
    refine ⟨ho, k1, hin, ?_, ?_, ?_⟩
    · rw [k2, hA]; simp; omega
    · rw [hA]; simp
    · rw [k2]
      simp only [ofL_eq, List.mem_append, List.mem_map, List.mem_filter]
      rintro (⟨y, ⟨hy, _⟩, e⟩ | ⟨y, ⟨hy, _⟩, e⟩)
      · have := u1 y hy
        rw [hnm, e] at this
        exact absurd rfl (ltN_ne this)
      · have := u2 y hy
        rw [hnm, e] at this
        exact absurd rfl (ltN_ne this)
theorem commsOk_le {xs : List DCommittee} (h : commsOk xs = true) : CommsLe xs := by
  refine ⟨by have := commsOk_len h; omega, fun c hc => ?_⟩
  have h1 := commOk_parts ((commsOk_iff.1 h).1 c hc)
  have h2 := h1.1
  simp only [wordB, Bool.and_eq_true] at h2
  have h3 := inB_iff.1 h2.2
  omega
/-- A committee more. -/
theorem form_one {xs fs : List DCommittee} {n : ByteArray} {ms : List Int} (h : formV xs n ms = (fs, true)) : fs.length = xs.length + 1 := by
  cases hok : formOk xs n ms with
  | false => unfold formV at h; rw [if_neg (by rw [hok]; simp)] at h; cases congrArg Prod.snd h
  | true =>
    have h1 := hok
    simp only [formOk, Bool.and_eq_true, decide_eq_true_eq] at h1
    rw [formV_prog h1.1 h1.2.2] at h
    unfold checkV at h
    split at h
    · obtain rfl := congrArg Prod.fst h
      rw [sortS_len]; simp
    · cases congrArg Prod.snd h

end Go.Proofs.Ytpjmcjdnobihbaa
