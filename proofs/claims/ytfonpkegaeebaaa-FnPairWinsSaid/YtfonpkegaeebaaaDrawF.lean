/- Contracts: the draws of chapter 13. Condition: fewer than a thousand million choices. -/
import Derived.Test.YtfonpkegaeebaaaDrawE
namespace Go.Proofs.Ytfonpkegaeebaaa
open Go.RowKit
set_option linter.unusedVariables false
set_option linter.unusedSimpArgs false

theorem draw_election (cv : Value) (bs : List Int) (w : World) (hv : BytesAt w cv bs) (hl : bs.length ≤ 65537) :
    Calls Try.prog 25 #[cv] w fun e w' => ∃ n u rs, e = .returned (.tuple #[.int .i64 n, u]) ∧ RanksAt w' u rs ∧ rs.length ≤ 20 ∧ ShortR 10 rs ∧ 0 ≤ n ∧ n ≤ 10 ∧ Below w.heap.size w w' := by
  have hc := cur_new cv w
  obtain ⟨ao, cap, rfl⟩ := hv.1.form
  have HV := Lib.hid hv; clear hv
  go_enter Try.func25, Try.ntmps25
  go_wp2_with fail
  refine (cur_election w _ bs _ 0 _ HV.out hl hc (by omega)).mono ?_
  rintro e w1 ⟨n, u, rs, rfl, ho, hx, hs, hn0, hn1, k1, t1⟩
  obtain ⟨au, ku, rfl⟩ := ho.form
  go_wp2_with fail
  go_ret2
  exact ⟨_, _, rs, rfl, ho.at_, hx, hs, hn0, hn1, k1.below⟩

theorem draw_DominantSet (cv : Value) (bs : List Int) (w : World) (hv : BytesAt w cv bs) (hl : bs.length ≤ 65537) :
    Calls Try.prog 5 #[cv] w fun e w' => ∃ n u rs, e = .returned (.tuple #[.int .i64 n, u]) ∧ RanksAt w' u rs ∧ rs.length ≤ 20 ∧ ShortR 10 rs ∧ 0 ≤ n ∧ n ≤ 10 ∧ Below w.heap.size w w' := by
  obtain ⟨ao, cap, rfl⟩ := hv.1.form
  have HQ := Lib.hid (draw_election _ bs w hv hl)
  go_enter Try.func5, Try.ntmps5
  go_wp2_with fail
  refine HQ.out.mono ?_
  rintro e w1 ⟨n, u, rs, rfl, ho, hx, hs, hn0, hn1, hb⟩
  obtain ⟨au, ku, rfl⟩ := ho.form
  go_wp2_with fail
  go_ret2
  exact ⟨_, _, rs, rfl, ho, hx, hs, hn0, hn1, hb⟩

theorem draw_BordaScores (cv : Value) (bs : List Int) (w : World) (hv : BytesAt w cv bs) (hl : bs.length ≤ 65537) :
    Calls Try.prog 23 #[cv] w fun e w' => ∃ n u rs, e = .returned (.tuple #[.int .i64 n, u]) ∧ RanksAt w' u rs ∧ rs.length ≤ 20 ∧ ShortR 10 rs ∧ 0 ≤ n ∧ n ≤ 10 ∧ Below w.heap.size w w' := by
  obtain ⟨ao, cap, rfl⟩ := hv.1.form
  have HQ := Lib.hid (draw_election _ bs w hv hl)
  go_enter Try.func23, Try.ntmps23
  go_wp2_with fail
  refine HQ.out.mono ?_
  rintro e w1 ⟨n, u, rs, rfl, ho, hx, hs, hn0, hn1, hb⟩
  obtain ⟨au, ku, rfl⟩ := ho.form
  go_wp2_with fail
  go_ret2
  exact ⟨_, _, rs, rfl, ho, hx, hs, hn0, hn1, hb⟩

theorem draw_MoveUp (cv : Value) (bs : List Int) (w : World) (hv : BytesAt w cv bs) (hl : bs.length ≤ 65537) :
    Calls Try.prog 17 #[cv] w fun e w' => ∃ n u rs v c, e = .returned (.tuple #[.int .i64 n, u, .int .i64 v, .int .i64 c]) ∧ RanksAt w' u rs ∧ rs.length ≤ 20 ∧ ShortR 10 rs ∧ 0 ≤ n ∧ n ≤ 10 ∧ -1 ≤ v ∧ v ≤ 30 ∧ 0 ≤ c ∧ c ≤ 6 ∧ Below w.heap.size w w' := by
  have hc := cur_new cv w
  obtain ⟨ao, cap, rfl⟩ := hv.1.form
  have HV := Lib.hid hv; clear hv
  go_enter Try.func17, Try.ntmps17
  go_wp2_with fail
  refine (cur_election w _ bs _ 0 _ HV.out hl hc (by omega)).mono ?_
  rintro e w1 ⟨n, u, rs, rfl, ho, hx, hs, hn0, hn1, k1, t1⟩
  obtain ⟨au, ku, rfl⟩ := ho.form
  go_wp2_with fail
  refine (cur_pick w _ bs _ _ ((rs.length : Int) + 2) _ HV.out hl k1 (by omega) (by omega)).mono ?_
  rintro e w2 ⟨x, rfl, x0, x1, x2, k2, t2⟩
  have x1' := x1 (by omega)
  go_wp2_with fail
  refine (cur_pick w _ bs _ _ 9 _ HV.out hl k2 (by omega) (by omega)).mono ?_
  rintro e w3 ⟨y, rfl, y0, y1, y2, k3, t3⟩
  have y1' := y1 (by omega)
  go_wp2_with fail
  refine (cur_pick w _ bs _ _ 6 _ HV.out hl k3 (by omega) (by omega)).mono ?_
  rintro e w4 ⟨z, rfl, z0, z1, z2, k4, t4⟩
  have z1' := z1 (by omega)
  have h4 := ((ho.out t2 (by simp)).out t3 (by simp)).out t4 (by simp)
  go_wp2_with fail
  refine bodyPost_ret (v := .tuple #[.int .i64 n, .slice au rs.length ku, .int .i64 (x - y / 8), .int .i64 z]) (by simp [results, Try.results17, go_sem]) rfl ?_
  exact ⟨_, _, rs, x - y / 8, z, rfl, h4.at_, hx, hs, hn0, hn1, by omega, by omega, by omega, by omega, k4.below⟩

end Go.Proofs.Ytfonpkegaeebaaa
