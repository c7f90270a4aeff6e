/-
  No cell of these rows narrows 'for every input' (looked for: loops, veiled, ifaces, maps, wideKeys, modest, calm, conditions, laid).
  DERIVED. THE GIVEN ROWS OF THIS SEAT. 5 by the template 'for every input the law returns true; each argument reads behind the call as it read before'; 0 by the template 'total and deterministic' (their statements: YtbphodmcajlpmaaTotals.lean).
  GIVEN WITH THE SEED: the statements are not yours to turn. If you find one false, say at which input.
  Laid BY PROGRAM, IN A SANDBOX (cutbox-rows.mjs): the forced cells as the released guide's own fill.sh prints them over the translation fa7e1a536b08a0cc… (all of the seat's roots in one cut). By AI agents, Wed Nov 11 2026. No macro, syntax, notation, axiom, sorry.
-/
import Derived.Test.YtbphodmcajlpmaaChecked
import GoSem.Claim
import GoSem.ClaimJoined
import GoSem.ClaimMapViews
import Derived.JoinedTies
import Derived.KernelRfl
namespace Go.Proofs.Ytbphodmcajlpmaa
/- THE CELL 'sum', in the pinned program and in every row, IS THE sha256 OF THE DUMP (.gsa) THAT YtbphodmcajlpmaaProg.lean LOADS. Nothing in Lean hashes anything: it is a label: what it is worth is what the hold of that sum in a sandbox is worth. -/
noncomputable def Try.pinned : Pinned := { name := "ytbphodmcajlpmaa", sum := "fa7e1a536b08a0cc87e76786c2d5ee368f4540b4173cbfd36053abb2794ccbaa", checked := Try.checked }
namespace Rows
def none {H : Type} : Left H := { results := [], args := [] }

/-- 'laws.FnExactDecideAppeal': WHATEVER THE INPUT: true; the input reads as it did. -/
def fnExactDecideAppealSpec : ChangeSpec := { name := "fnExactDecideAppeal", fn := fun _ => fun
  | [d1, d2] => { results := [.lit (.bool true)], args := [d1, d2] }
  | _ => none }
def fnExactDecideAppealRow : OpenClaim := { program := "ytbphodmcajlpmaa", sum := "fa7e1a536b08a0cc87e76786c2d5ee368f4540b4173cbfd36053abb2794ccbaa", func := "loop.example/g00909/laws.FnExactDecideAppeal", spec := "fnExactDecideAppeal", unfollowed := true, recurses := true, apart := false }
def FnExactDecideAppealSaid : Prop := fnExactDecideAppealRow.holds Try.pinned (OpenSpec.ofChange fnExactDecideAppealSpec)

/-- ITS FALSE NEIGHBOUR: 'it returns false'. Refute it at one input. -/
def fnExactDecideAppealWrong : ChangeSpec := { name := "fnExactDecideAppeal", fn := fun _ => fun
  | [d1, d2] => { results := [.lit (.bool false)], args := [d1, d2] }
  | _ => none }
def FnExactDecideAppealWrongFalsely : Prop := fnExactDecideAppealRow.holds Try.pinned (OpenSpec.ofChange fnExactDecideAppealWrong)

/-- 'laws.FnExactRevokeProxy': WHATEVER THE INPUT: true; the input reads as it did. -/
def fnExactRevokeProxySpec : ChangeSpec := { name := "fnExactRevokeProxy", fn := fun _ => fun
  | [d1, d2] => { results := [.lit (.bool true)], args := [d1, d2] }
  | _ => none }
def fnExactRevokeProxyRow : OpenClaim := { program := "ytbphodmcajlpmaa", sum := "fa7e1a536b08a0cc87e76786c2d5ee368f4540b4173cbfd36053abb2794ccbaa", func := "loop.example/g00909/laws.FnExactRevokeProxy", spec := "fnExactRevokeProxy", unfollowed := true, recurses := true, apart := false }
def FnExactRevokeProxySaid : Prop := fnExactRevokeProxyRow.holds Try.pinned (OpenSpec.ofChange fnExactRevokeProxySpec)

/-- ITS FALSE NEIGHBOUR: 'it returns false'. Refute it at one input. -/
def fnExactRevokeProxyWrong : ChangeSpec := { name := "fnExactRevokeProxy", fn := fun _ => fun
  | [d1, d2] => { results := [.lit (.bool false)], args := [d1, d2] }
  | _ => none }
def FnExactRevokeProxyWrongFalsely : Prop := fnExactRevokeProxyRow.holds Try.pinned (OpenSpec.ofChange fnExactRevokeProxyWrong)

/-- 'laws.FnWeights': WHATEVER THE INPUT: true; the input reads as it did. -/
def fnWeightsSpec : ChangeSpec := { name := "fnWeights", fn := fun _ => fun
  | [d] => { results := [.lit (.bool true)], args := [d] }
  | _ => none }
def fnWeightsRow : OpenClaim := { program := "ytbphodmcajlpmaa", sum := "fa7e1a536b08a0cc87e76786c2d5ee368f4540b4173cbfd36053abb2794ccbaa", func := "loop.example/g00909/laws.FnWeights", spec := "fnWeights", unfollowed := true, recurses := true, apart := false }
def FnWeightsSaid : Prop := fnWeightsRow.holds Try.pinned (OpenSpec.ofChange fnWeightsSpec)

/-- ITS FALSE NEIGHBOUR: 'it returns false'. Refute it at one input. -/
def fnWeightsWrong : ChangeSpec := { name := "fnWeights", fn := fun _ => fun
  | [d] => { results := [.lit (.bool false)], args := [d] }
  | _ => none }
def FnWeightsWrongFalsely : Prop := fnWeightsRow.holds Try.pinned (OpenSpec.ofChange fnWeightsWrong)

/-- 'laws.FnExactGiveProxy': WHATEVER THE INPUT: true; the input reads as it did. -/
def fnExactGiveProxySpec : ChangeSpec := { name := "fnExactGiveProxy", fn := fun _ => fun
  | [d1, d2, d3] => { results := [.lit (.bool true)], args := [d1, d2, d3] }
  | _ => none }
def fnExactGiveProxyRow : OpenClaim := { program := "ytbphodmcajlpmaa", sum := "fa7e1a536b08a0cc87e76786c2d5ee368f4540b4173cbfd36053abb2794ccbaa", func := "loop.example/g00909/laws.FnExactGiveProxy", spec := "fnExactGiveProxy", inPlace := ["slices.overlaps[loop.example/g00909/impl.Proxy]"], unfollowed := true, recurses := true, apart := false }
def FnExactGiveProxySaid : Prop := fnExactGiveProxyRow.holds Try.pinned (OpenSpec.ofChange fnExactGiveProxySpec)

/-- ITS FALSE NEIGHBOUR: 'it returns false'. Refute it at one input. -/
def fnExactGiveProxyWrong : ChangeSpec := { name := "fnExactGiveProxy", fn := fun _ => fun
  | [d1, d2, d3] => { results := [.lit (.bool false)], args := [d1, d2, d3] }
  | _ => none }
def FnExactGiveProxyWrongFalsely : Prop := fnExactGiveProxyRow.holds Try.pinned (OpenSpec.ofChange fnExactGiveProxyWrong)

/-- 'laws.FnProxies': WHATEVER THE INPUT: true; the input reads as it did. -/
def fnProxiesSpec : ChangeSpec := { name := "fnProxies", fn := fun _ => fun
  | [d] => { results := [.lit (.bool true)], args := [d] }
  | _ => none }
def fnProxiesRow : OpenClaim := { program := "ytbphodmcajlpmaa", sum := "fa7e1a536b08a0cc87e76786c2d5ee368f4540b4173cbfd36053abb2794ccbaa", func := "loop.example/g00909/laws.FnProxies", spec := "fnProxies", inPlace := ["slices.overlaps[loop.example/g00909/impl.Proxy]"], unfollowed := true, recurses := true, apart := false }
def FnProxiesSaid : Prop := fnProxiesRow.holds Try.pinned (OpenSpec.ofChange fnProxiesSpec)

/-- ITS FALSE NEIGHBOUR: 'it returns false'. Refute it at one input. -/
def fnProxiesWrong : ChangeSpec := { name := "fnProxies", fn := fun _ => fun
  | [d] => { results := [.lit (.bool false)], args := [d] }
  | _ => none }
def FnProxiesWrongFalsely : Prop := fnProxiesRow.holds Try.pinned (OpenSpec.ofChange fnProxiesWrong)

/- THE SECOND FORM. 'bulk': how many values and letters a reading holds, each counted each time it is reached (what is shared counts as often as it is met; a slice's spare places count too). A statement '..UptoSaid' is the law's where the arguments, and the package variables that the reading takes, are together of bulk at most 1048576: NARROWER than '..Said'. Prove '..Said' where nothing that the law and all that it calls make is longer than what came in: it says more and counts as full. Else prove '..UptoSaid'. A law counts once. -/
mutual
def uptoBulk {H : Type} : DataW H → Nat
  | .lit (.string bytes) => bytes.length + 1
  | .lit _ => 1
  | .nil => 1
  | .ptr d => uptoBulk d + 1
  | .slice elems spare => uptoBulkAll elems + uptoBulkAll spare + 1
  | .agg parts => uptoBulkAll parts + 1
  | .iface _ d => uptoBulk d + 1
  | .map entries => uptoBulkEntries entries + 1
  | .held _ => 1
def uptoBulkAll {H : Type} : List (DataW H) → Nat
  | [] => 0
  | d :: r => uptoBulk d + uptoBulkAll r
def uptoBulkEntries {H : Type} : List (Lit × DataW H) → Nat
  | [] => 0
  | x :: r => uptoBulkEntry x + uptoBulkEntries r
def uptoBulkEntry {H : Type} : Lit × DataW H → Nat
  | (.string bytes, d) => bytes.length + uptoBulk d + 1
  | (_, d) => uptoBulk d + 1
 end
def uptoSmall : (H : Type) → List (DataW H) → Bool := fun _ ds => decide (uptoBulkAll ds ≤ 1048576)
def OpenSpec.upto (s : _root_.Go.ChangeSpec) : _root_.Go.OpenSpec := { _root_.Go.OpenSpec.ofChange s with cond := some uptoSmall }

/-- 'laws.FnExactDecideAppeal', WHERE WHAT IT READS IS OF BULK AT MOST 1048576: true; the input reads as it did. -/
def fnExactDecideAppealUptoRow : OpenClaim := { program := "ytbphodmcajlpmaa", sum := "fa7e1a536b08a0cc87e76786c2d5ee368f4540b4173cbfd36053abb2794ccbaa", func := "loop.example/g00909/laws.FnExactDecideAppeal", spec := "fnExactDecideAppeal", unfollowed := true, recurses := true, apart := false, narrowed := true }
def FnExactDecideAppealUptoSaid : Prop := fnExactDecideAppealUptoRow.holds Try.pinned (OpenSpec.upto fnExactDecideAppealSpec)

/-- 'laws.FnExactRevokeProxy', WHERE WHAT IT READS IS OF BULK AT MOST 1048576: true; the input reads as it did. -/
def fnExactRevokeProxyUptoRow : OpenClaim := { program := "ytbphodmcajlpmaa", sum := "fa7e1a536b08a0cc87e76786c2d5ee368f4540b4173cbfd36053abb2794ccbaa", func := "loop.example/g00909/laws.FnExactRevokeProxy", spec := "fnExactRevokeProxy", unfollowed := true, recurses := true, apart := false, narrowed := true }
def FnExactRevokeProxyUptoSaid : Prop := fnExactRevokeProxyUptoRow.holds Try.pinned (OpenSpec.upto fnExactRevokeProxySpec)

/-- 'laws.FnWeights', WHERE WHAT IT READS IS OF BULK AT MOST 1048576: true; the input reads as it did. -/
def fnWeightsUptoRow : OpenClaim := { program := "ytbphodmcajlpmaa", sum := "fa7e1a536b08a0cc87e76786c2d5ee368f4540b4173cbfd36053abb2794ccbaa", func := "loop.example/g00909/laws.FnWeights", spec := "fnWeights", unfollowed := true, recurses := true, apart := false, narrowed := true }
def FnWeightsUptoSaid : Prop := fnWeightsUptoRow.holds Try.pinned (OpenSpec.upto fnWeightsSpec)

/-- 'laws.FnExactGiveProxy', WHERE WHAT IT READS IS OF BULK AT MOST 1048576: true; the input reads as it did. -/
def fnExactGiveProxyUptoRow : OpenClaim := { program := "ytbphodmcajlpmaa", sum := "fa7e1a536b08a0cc87e76786c2d5ee368f4540b4173cbfd36053abb2794ccbaa", func := "loop.example/g00909/laws.FnExactGiveProxy", spec := "fnExactGiveProxy", inPlace := ["slices.overlaps[loop.example/g00909/impl.Proxy]"], unfollowed := true, recurses := true, apart := false, narrowed := true }
def FnExactGiveProxyUptoSaid : Prop := fnExactGiveProxyUptoRow.holds Try.pinned (OpenSpec.upto fnExactGiveProxySpec)

/-- 'laws.FnProxies', WHERE WHAT IT READS IS OF BULK AT MOST 1048576: true; the input reads as it did. -/
def fnProxiesUptoRow : OpenClaim := { program := "ytbphodmcajlpmaa", sum := "fa7e1a536b08a0cc87e76786c2d5ee368f4540b4173cbfd36053abb2794ccbaa", func := "loop.example/g00909/laws.FnProxies", spec := "fnProxies", inPlace := ["slices.overlaps[loop.example/g00909/impl.Proxy]"], unfollowed := true, recurses := true, apart := false, narrowed := true }
def FnProxiesUptoSaid : Prop := fnProxiesUptoRow.holds Try.pinned (OpenSpec.upto fnProxiesSpec)

end Rows
end Go.Proofs.Ytbphodmcajlpmaa
