/- Contract: a number put into a rising list (spec.l1Put), where the list has it not. No conditions beyond sizes. -/
import Derived.Test.YtpjmcjdnobihbaaPutL
import Derived.Test.YtpjmcjdnobihbaaStep
namespace Go.Proofs.Ytpjmcjdnobihbaa
open Go.RowKit
set_option linter.unusedVariables false
set_option linter.unusedSimpArgs false

theorem RowAt.tail1 {w : World} {ao : Option Addr} {n cap k : Nat} {cs : List Value} (h : RowAt w (.slice ao n cap) n 1 cs) (hk : k ≤ n) : RowAt w (.slice (if cap = k then ao else ao.map (·.add k)) (n - k) (cap - k)) (n - k) 1 (cs.drop (k * 1)) := by
  have := RowAt.tail h hk
  rw [Nat.mul_one] at this ⊢
  exact this

theorem RowAt.tail2 {w : World} {b off n cap k : Nat} {cs : List Value} (h : RowAt w (.slice (some ⟨b, off, none⟩) n cap) n 1 cs) (hk : k ≤ n) : RowAt w (.slice (if cap = k then some ⟨b, off, none⟩ else some ⟨b, off + k, none⟩) (n - k) (cap - k)) (n - k) 1 (cs.drop (k * 1)) := by
  have := RowAt.tail1 h hk
  simpa [Addr.add_lit] using this

set_option maxHeartbeats 2000000 in
theorem s_l1Put (v : Value) (pr : List Int) (x : Int) (w : World) (h : IntsAt w v pr) (hn : pr.length ≤ 1048576) (hno : hasB pr x = false) :
    Calls Try.prog 53 #[v, .int .i64 x] w fun e w' => ∃ u, e = .returned u ∧ OwnInts w' w.heap.size u (putL x pr) ∧ Below w.heap.size w w' := by
  have hI := Lib.hid h
  have hform := h
  obtain ⟨_, ao, cap, rfl, h1, h2, h3⟩ := hform
  unfold maxLen at h2
  obtain ⟨W, hW⟩ : ∃ W, W = w := ⟨_, rfl⟩
  have HN := Lib.hid hno; clear hno
  have HR1 : ∀ u ∈ (#[.int .i64 x] : Array Value).toList, u.oneCell' = true := by simp [Value.oneCell']
  go_enter Try.func53, Try.ntmps53
  go_wp2
  go_loop [5] (fun i => ∃ k : Nat, k ≤ pr.length ∧ i = .int .i64 k ∧ (∀ j (hj : j < pr.length), j < k → pr[j] < x)) (fun i => pr.length - (intOf i).toNat)
  case atStart => exact ⟨0, by omega, rfl, fun j _ h => absurd h (by omega)⟩
  case round =>
    obtain ⟨k, hk, rfl, hd⟩ := hrel
    have HD := Lib.hid hd; clear hd
    by_cases hlt : k < pr.length
    · obtain ⟨b, off, hao, h4, h5⟩ := h3 (by omega)
      have hc : w.cell? ⟨b, off + k, none⟩ = some (.int .i64 pr[k]) := h5.int hlt
      by_cases hx : pr[k] < x
      · have HK : Hid (∀ j (hj : j < pr.length), j < k + 1 → pr[j] < x) := fun j hj hjk => by
          by_cases he : j = k
          · subst he; exact hx
          · exact HD.out j hj (by omega)
        subst hao
        generalize pr[k] = y at *
        go_wp2
        go_round
        case rel => exact ⟨k + 1, by omega, by go_num, HK.out⟩
        case measure => simp [intOf]; omega
      · have HK : Hid (k = putAt x pr) := putAt_eq HD.out hk (fun _ => hx)
        have hne : (pr[k] == x) = false := by
          have := HN.out
          simp only [beq_eq_false_iff_ne]
          intro he
          rw [show hasB pr x = true from hasB_iff.2 (he ▸ List.getElem_mem _)] at this
          cases this
        have hk2 : k ≤ pr.length := hk
        subst hao
        generalize pr[k] = y at *
        have hkc : (k : Int) ≤ (cap : Int) := by omega
        have hk0 : (0 : Int) ≤ (k : Int) := by omega
        have hkn : (k : Int) ≤ (pr.length : Int) := by omega
        have hnc : (pr.length : Int) ≤ (cap : Int) := by omega
        have hkw : IntKind.i64.wrap (k : Int) = (k : Int) := IntWalk.i64_in _ (by omega)
        clear h3
        go_wp2
        have hWb : Below w.heap.size w w := Below.refl _ _
        have HP1 := fun u hu => ints_one pr u (List.mem_of_mem_take (i := k * 1) hu)
        have HP3 := fun u hu => ints_one pr u (List.mem_of_mem_drop (i := k * 1) hu)
        go_region_held3 (fun w' => Below w.heap.size w w') (first | assumption | exact Below.refl _ _ | exact Below.alloc (by assumption) (Below.size (by assumption)) _ | exact Below.drew (Below.alloc (by assumption) (Below.size (by assumption)) _) | go_grown) (first
          | ((refine step_append_row (by rfl) (.tmp 33) (.tmp 36) _ (by rfl) w.heap.size 3 _ 1 8 int_info Try.underlying26 (by rfl) (by omega) (by omega) (.slice (some ⟨w.heap.size, 0, none⟩) 0 0) 0 [] (by rfl) ((own_emptyA w 3 1).drew) _ k ((ints pr).take (k * 1)) (by rfl) (RowAt.head (RowAt.below hI.out (by assumption)) hk2) HP1 (by omega) (by omega) (Below.size (by assumption)) ?_); (intro v1 w1 o1 g1 a1); (have hb1 : Below w.heap.size w w1 := Below.grown (by assumption) g1 (Below.size (by assumption)) (own_ge (by omega) 0 0)); (simp only [Nat.zero_add, List.nil_append] at o1))
          | ((refine step_append_row (by rfl) (.tmp 33) (.tmp 36) _ (by rfl) w.heap.size 3 _ 1 8 int_info Try.underlying26 (by rfl) (by omega) (by omega) (.slice (some ⟨w.heap.size, 0, none⟩) 0 0) 0 [] (by rfl) ((own_emptyB w 3 1 _).drew) _ k ((ints pr).take (k * 1)) (by rfl) (RowAt.head (RowAt.below hI.out (by assumption)) hk2) HP1 (by omega) (by omega) (Below.size (by assumption)) ?_); (intro v1 w1 o1 g1 a1); (have hb1 : Below w.heap.size w w1 := Below.grown (by assumption) g1 (Below.size (by assumption)) (own_ge (by omega) 0 0)); (simp only [Nat.zero_add, List.nil_append] at o1); (have hr1 := RowAt.grown (RowAt.drew (row_oneA w 3 1 #[.int .i64 x] (.cells #[] 3) rfl)) g1 (some_ne_own (by omega) 0 0)))
          | ((refine step_append_row (by rfl) (.tmp 33) (.tmp 36) _ (by rfl) w.heap.size 3 _ 1 8 int_info Try.underlying26 (by rfl) (by omega) (by omega) (.slice (some ⟨w.heap.size + 1, 0, none⟩) 0 0) 0 [] (by rfl) ((own_emptyC w 3 1 _).drew) _ k ((ints pr).take (k * 1)) (by rfl) (RowAt.head (RowAt.below hI.out (by assumption)) hk2) HP1 (by omega) (by omega) (Below.size (by assumption)) ?_); (intro v1 w1 o1 g1 a1); (have hb1 : Below w.heap.size w w1 := Below.grown (by assumption) g1 (Below.size (by assumption)) (own_ge (by omega) 0 0)); (simp only [Nat.zero_add, List.nil_append] at o1); (have hr1 := RowAt.grown (RowAt.drew (row_oneB w 3 1 #[.int .i64 x] (.cells #[] 3) rfl)) g1 (some_ne_own (by omega) 0 0)))
          | ((refine step_append_row (by rfl) (.tmp 37) (.tmp 39) _ (by rfl) w.heap.size 3 _ 1 8 int_info Try.underlying26 (by rfl) (by omega) (by omega) v1 k ((ints pr).take (k * 1)) (by rfl) (o1) _ 1 #[.int .i64 x].toList (by rfl) (hr1) HR1 (by omega) (by omega) (Below.size (by assumption)) ?_); (intro v2 w2 o2 g2 a2); (have hb2 : Below w.heap.size w w2 := Below.grown (by assumption) g2 (Below.size (by assumption)) (fun b hb => (o1.lt b hb).1)))
          | ((refine step_append_row (by rfl) (.tmp 37) (.tmp 39) _ (by rfl) w.heap.size 3 _ 1 8 int_info Try.underlying26 (by rfl) (by omega) (by omega) v1 k ((ints pr).take (k * 1)) (by rfl) (own_below o1 ((Below.refl _ _).alloc (Nat.le_refl _) _)) _ 1 #[.int .i64 x].toList (by rfl) (row_oneN w1 3 1 #[.int .i64 x] rfl) HR1 (by omega) (by omega) (Below.size (by assumption)) ?_); (intro v2 w2 o2 g2 a2); (have hb2 : Below w.heap.size w w2 := Below.grown (by assumption) g2 (Below.size (by assumption)) (fun b hb => (o1.lt b hb).1)))
          | ((refine step_append_row (by rfl) (.tmp 40) (.tmp 43) _ (by rfl) w.heap.size 3 _ 1 8 int_info Try.underlying26 (by rfl) (by omega) (by omega) v2 (k + 1) ((ints pr).take (k * 1) ++ (#[.int .i64 x] : Array Value).toList) (by rfl) (o2) _ (pr.length - k) ((ints pr).drop (k * 1)) (by rfl) (RowAt.tail1 (RowAt.below hI.out (by assumption)) hk2) HP3 (by omega) (by omega) (Below.size (by assumption)) ?_); (intro v3 w3 o3 g3 a3); (have hb3 : Below w.heap.size w w3 := Below.grown (by assumption) g3 (Below.size (by assumption)) (fun b hb => (o2.lt b hb).1)))
          | ((refine step_append_row (by rfl) (.tmp 40) (.tmp 43) _ (by rfl) w.heap.size 3 _ 1 8 int_info Try.underlying26 (by rfl) (by omega) (by omega) v2 (k + 1) ((ints pr).take (k * 1) ++ (#[.int .i64 x] : Array Value).toList) (by rfl) (o2) _ (pr.length - k) ((ints pr).drop (k * 1)) (by rfl) (RowAt.tail2 (RowAt.below hI.out (by assumption)) hk2) HP3 (by omega) (by omega) (Below.size (by assumption)) ?_); (intro v3 w3 o3 g3 a3); (have hb3 : Below w.heap.size w w3 := Below.grown (by assumption) g3 (Below.size (by assumption)) (fun b hb => (o2.lt b hb).1))))
        all_goals go_wp2
        all_goals go_ret
        all_goals (refine ⟨v3, rfl, ?_, hb3⟩)
        all_goals (
          have he : ((ints pr).take (k * 1) ++ (#[.int .i64 x] : Array Value).toList) ++ (ints pr).drop (k * 1) = ints (putL x pr) := by
            rw [putL, ← HK.out]; simp [ints]
          have hl : k + 1 + (pr.length - k) = (putL x pr).length := by rw [putL_len]; omega
          unfold OwnInts OwnI
          rw [← he, ← hl]
          exact o3)
    · have HK : Hid (k = putAt x pr) := putAt_eq HD.out hk (fun h => absurd h hlt)
      have hk2 : k ≤ pr.length := hk
      have hkc : (k : Int) ≤ (cap : Int) := by omega
      have hk0 : (0 : Int) ≤ (k : Int) := by omega
      have hkn : (k : Int) ≤ (pr.length : Int) := by omega
      have hnc : (pr.length : Int) ≤ (cap : Int) := by omega
      have hkw : IntKind.i64.wrap (k : Int) = (k : Int) := IntWalk.i64_in _ (by omega)
      clear h3
      go_wp2
      have hWb : Below w.heap.size w w := Below.refl _ _
      have HP1 := fun u hu => ints_one pr u (List.mem_of_mem_take (i := k * 1) hu)
      have HP3 := fun u hu => ints_one pr u (List.mem_of_mem_drop (i := k * 1) hu)
      go_region_held3 (fun w' => Below w.heap.size w w') (first | assumption | exact Below.refl _ _ | exact Below.alloc (by assumption) (Below.size (by assumption)) _ | exact Below.drew (Below.alloc (by assumption) (Below.size (by assumption)) _) | go_grown) (first
        | ((refine step_append_row (by rfl) (.tmp 33) (.tmp 36) _ (by rfl) w.heap.size 3 _ 1 8 int_info Try.underlying26 (by rfl) (by omega) (by omega) (.slice (some ⟨w.heap.size, 0, none⟩) 0 0) 0 [] (by rfl) ((own_emptyA w 3 1).drew) _ k ((ints pr).take (k * 1)) (by rfl) (RowAt.head (RowAt.below hI.out (by assumption)) hk2) HP1 (by omega) (by omega) (Below.size (by assumption)) ?_); (intro v1 w1 o1 g1 a1); (have hb1 : Below w.heap.size w w1 := Below.grown (by assumption) g1 (Below.size (by assumption)) (own_ge (by omega) 0 0)); (simp only [Nat.zero_add, List.nil_append] at o1))
        | ((refine step_append_row (by rfl) (.tmp 33) (.tmp 36) _ (by rfl) w.heap.size 3 _ 1 8 int_info Try.underlying26 (by rfl) (by omega) (by omega) (.slice (some ⟨w.heap.size, 0, none⟩) 0 0) 0 [] (by rfl) ((own_emptyB w 3 1 _).drew) _ k ((ints pr).take (k * 1)) (by rfl) (RowAt.head (RowAt.below hI.out (by assumption)) hk2) HP1 (by omega) (by omega) (Below.size (by assumption)) ?_); (intro v1 w1 o1 g1 a1); (have hb1 : Below w.heap.size w w1 := Below.grown (by assumption) g1 (Below.size (by assumption)) (own_ge (by omega) 0 0)); (simp only [Nat.zero_add, List.nil_append] at o1); (have hr1 := RowAt.grown (RowAt.drew (row_oneA w 3 1 #[.int .i64 x] (.cells #[] 3) rfl)) g1 (some_ne_own (by omega) 0 0)))
        | ((refine step_append_row (by rfl) (.tmp 33) (.tmp 36) _ (by rfl) w.heap.size 3 _ 1 8 int_info Try.underlying26 (by rfl) (by omega) (by omega) (.slice (some ⟨w.heap.size + 1, 0, none⟩) 0 0) 0 [] (by rfl) ((own_emptyC w 3 1 _).drew) _ k ((ints pr).take (k * 1)) (by rfl) (RowAt.head (RowAt.below hI.out (by assumption)) hk2) HP1 (by omega) (by omega) (Below.size (by assumption)) ?_); (intro v1 w1 o1 g1 a1); (have hb1 : Below w.heap.size w w1 := Below.grown (by assumption) g1 (Below.size (by assumption)) (own_ge (by omega) 0 0)); (simp only [Nat.zero_add, List.nil_append] at o1); (have hr1 := RowAt.grown (RowAt.drew (row_oneB w 3 1 #[.int .i64 x] (.cells #[] 3) rfl)) g1 (some_ne_own (by omega) 0 0)))
        | ((refine step_append_row (by rfl) (.tmp 37) (.tmp 39) _ (by rfl) w.heap.size 3 _ 1 8 int_info Try.underlying26 (by rfl) (by omega) (by omega) v1 k ((ints pr).take (k * 1)) (by rfl) (o1) _ 1 #[.int .i64 x].toList (by rfl) (hr1) HR1 (by omega) (by omega) (Below.size (by assumption)) ?_); (intro v2 w2 o2 g2 a2); (have hb2 : Below w.heap.size w w2 := Below.grown (by assumption) g2 (Below.size (by assumption)) (fun b hb => (o1.lt b hb).1)))
        | ((refine step_append_row (by rfl) (.tmp 37) (.tmp 39) _ (by rfl) w.heap.size 3 _ 1 8 int_info Try.underlying26 (by rfl) (by omega) (by omega) v1 k ((ints pr).take (k * 1)) (by rfl) (own_below o1 ((Below.refl _ _).alloc (Nat.le_refl _) _)) _ 1 #[.int .i64 x].toList (by rfl) (row_oneN w1 3 1 #[.int .i64 x] rfl) HR1 (by omega) (by omega) (Below.size (by assumption)) ?_); (intro v2 w2 o2 g2 a2); (have hb2 : Below w.heap.size w w2 := Below.grown (by assumption) g2 (Below.size (by assumption)) (fun b hb => (o1.lt b hb).1)))
        | ((refine step_append_row (by rfl) (.tmp 40) (.tmp 43) _ (by rfl) w.heap.size 3 _ 1 8 int_info Try.underlying26 (by rfl) (by omega) (by omega) v2 (k + 1) ((ints pr).take (k * 1) ++ (#[.int .i64 x] : Array Value).toList) (by rfl) (o2) _ (pr.length - k) ((ints pr).drop (k * 1)) (by rfl) (RowAt.tail1 (RowAt.below hI.out (by assumption)) hk2) HP3 (by omega) (by omega) (Below.size (by assumption)) ?_); (intro v3 w3 o3 g3 a3); (have hb3 : Below w.heap.size w w3 := Below.grown (by assumption) g3 (Below.size (by assumption)) (fun b hb => (o2.lt b hb).1)))
        | ((refine step_append_row (by rfl) (.tmp 40) (.tmp 43) _ (by rfl) w.heap.size 3 _ 1 8 int_info Try.underlying26 (by rfl) (by omega) (by omega) v2 (k + 1) ((ints pr).take (k * 1) ++ (#[.int .i64 x] : Array Value).toList) (by rfl) (o2) _ (pr.length - k) ((ints pr).drop (k * 1)) (by rfl) (RowAt.tail2 (RowAt.below hI.out (by assumption)) hk2) HP3 (by omega) (by omega) (Below.size (by assumption)) ?_); (intro v3 w3 o3 g3 a3); (have hb3 : Below w.heap.size w w3 := Below.grown (by assumption) g3 (Below.size (by assumption)) (fun b hb => (o2.lt b hb).1))))
      all_goals go_wp2
      all_goals go_ret
      all_goals (refine ⟨v3, rfl, ?_, hb3⟩)
      all_goals (
        have he : ((ints pr).take (k * 1) ++ (#[.int .i64 x] : Array Value).toList) ++ (ints pr).drop (k * 1) = ints (putL x pr) := by
          rw [putL, ← HK.out]; simp [ints]
        have hl : k + 1 + (pr.length - k) = (putL x pr).length := by rw [putL_len]; omega
        unfold OwnInts OwnI
        rw [← he, ← hl]
        exact o3)
end Go.Proofs.Ytpjmcjdnobihbaa
