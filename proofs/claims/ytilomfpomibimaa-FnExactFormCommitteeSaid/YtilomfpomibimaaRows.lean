/-
  No cell of these rows narrows 'for every input' (looked for: loops, veiled, ifaces, maps, wideKeys, modest, calm, conditions, laid).
  DERIVED. THE GIVEN ROWS OF THIS SEAT. 6 by the template 'for every input the law returns true; each argument reads behind the call as it read before'; 0 by the template 'total and deterministic' (their statements: YtilomfpomibimaaTotals.lean).
  GIVEN WITH THE SEED: the statements are not yours to turn. If you find one false, say at which input.
  Laid BY PROGRAM, IN A SANDBOX (cutbox-rows.mjs): the forced cells as the released guide's own fill.sh prints them over the translation 2ecd10237df20970… (all of the seat's roots in one cut). By AI agents, Wed Nov 11 2026. No macro, syntax, notation, axiom, sorry.
-/
import Derived.Test.YtilomfpomibimaaChecked
import GoSem.Claim
import GoSem.ClaimJoined
import GoSem.ClaimMapViews
import Derived.JoinedTies
import Derived.KernelRfl
namespace Go.Proofs.Ytilomfpomibimaa
/- THE CELL 'sum', in the pinned program and in every row, IS THE sha256 OF THE DUMP (.gsa) THAT YtilomfpomibimaaProg.lean LOADS. Nothing in Lean hashes anything: it is a label: what it is worth is what the hold of that sum in a sandbox is worth. -/
noncomputable def Try.pinned : Pinned := { name := "ytilomfpomibimaa", sum := "2ecd10237df209707d43b9371f09190a4289489731063a6ed8890b9c0a05c568", checked := Try.checked }
namespace Rows
def none {H : Type} : Left H := { results := [], args := [] }

/-- 'laws.FnExactSharedPairs': WHATEVER THE INPUT: true; the input reads as it did. -/
def fnExactSharedPairsSpec : ChangeSpec := { name := "fnExactSharedPairs", fn := fun _ => fun
  | [d] => { results := [.lit (.bool true)], args := [d] }
  | _ => none }
def fnExactSharedPairsRow : OpenClaim := { program := "ytilomfpomibimaa", sum := "2ecd10237df209707d43b9371f09190a4289489731063a6ed8890b9c0a05c568", func := "loop.example/g00909/laws.FnExactSharedPairs", spec := "fnExactSharedPairs", unfollowed := true, recurses := true, apart := false }
def FnExactSharedPairsSaid : Prop := fnExactSharedPairsRow.holds Try.pinned (OpenSpec.ofChange fnExactSharedPairsSpec)

/-- ITS FALSE NEIGHBOUR: 'it returns false'. Refute it at one input. -/
def fnExactSharedPairsWrong : ChangeSpec := { name := "fnExactSharedPairs", fn := fun _ => fun
  | [d] => { results := [.lit (.bool false)], args := [d] }
  | _ => none }
def FnExactSharedPairsWrongFalsely : Prop := fnExactSharedPairsRow.holds Try.pinned (OpenSpec.ofChange fnExactSharedPairsWrong)

/-- 'laws.FnExactDismissMember': WHATEVER THE INPUT: true; the input reads as it did. -/
def fnExactDismissMemberSpec : ChangeSpec := { name := "fnExactDismissMember", fn := fun _ => fun
  | [d1, d2, d3] => { results := [.lit (.bool true)], args := [d1, d2, d3] }
  | _ => none }
def fnExactDismissMemberRow : OpenClaim := { program := "ytilomfpomibimaa", sum := "2ecd10237df209707d43b9371f09190a4289489731063a6ed8890b9c0a05c568", func := "loop.example/g00909/laws.FnExactDismissMember", spec := "fnExactDismissMember", unfollowed := true, recurses := true, apart := false }
def FnExactDismissMemberSaid : Prop := fnExactDismissMemberRow.holds Try.pinned (OpenSpec.ofChange fnExactDismissMemberSpec)

/-- ITS FALSE NEIGHBOUR: 'it returns false'. Refute it at one input. -/
def fnExactDismissMemberWrong : ChangeSpec := { name := "fnExactDismissMember", fn := fun _ => fun
  | [d1, d2, d3] => { results := [.lit (.bool false)], args := [d1, d2, d3] }
  | _ => none }
def FnExactDismissMemberWrongFalsely : Prop := fnExactDismissMemberRow.holds Try.pinned (OpenSpec.ofChange fnExactDismissMemberWrong)

/-- 'laws.FnSlots': WHATEVER THE INPUT: true; the input reads as it did. -/
def fnSlotsSpec : ChangeSpec := { name := "fnSlots", fn := fun _ => fun
  | [d] => { results := [.lit (.bool true)], args := [d] }
  | _ => none }
def fnSlotsRow : OpenClaim := { program := "ytilomfpomibimaa", sum := "2ecd10237df209707d43b9371f09190a4289489731063a6ed8890b9c0a05c568", func := "loop.example/g00909/laws.FnSlots", spec := "fnSlots", unfollowed := true, recurses := true, apart := false }
def FnSlotsSaid : Prop := fnSlotsRow.holds Try.pinned (OpenSpec.ofChange fnSlotsSpec)

/-- ITS FALSE NEIGHBOUR: 'it returns false'. Refute it at one input. -/
def fnSlotsWrong : ChangeSpec := { name := "fnSlots", fn := fun _ => fun
  | [d] => { results := [.lit (.bool false)], args := [d] }
  | _ => none }
def FnSlotsWrongFalsely : Prop := fnSlotsRow.holds Try.pinned (OpenSpec.ofChange fnSlotsWrong)

/-- 'laws.FnExactFormCommittee': WHATEVER THE INPUT: true; the input reads as it did. -/
def fnExactFormCommitteeSpec : ChangeSpec := { name := "fnExactFormCommittee", fn := fun _ => fun
  | [d1, d2, d3] => { results := [.lit (.bool true)], args := [d1, d2, d3] }
  | _ => none }
def fnExactFormCommitteeRow : OpenClaim := { program := "ytilomfpomibimaa", sum := "2ecd10237df209707d43b9371f09190a4289489731063a6ed8890b9c0a05c568", func := "loop.example/g00909/laws.FnExactFormCommittee", spec := "fnExactFormCommittee", inPlace := ["internal/bytealg.abigen_runtime_cmpstring"], unfollowed := true, recurses := true, apart := false }
def FnExactFormCommitteeSaid : Prop := fnExactFormCommitteeRow.holds Try.pinned (OpenSpec.ofChange fnExactFormCommitteeSpec)

/-- ITS FALSE NEIGHBOUR: 'it returns false'. Refute it at one input. -/
def fnExactFormCommitteeWrong : ChangeSpec := { name := "fnExactFormCommittee", fn := fun _ => fun
  | [d1, d2, d3] => { results := [.lit (.bool false)], args := [d1, d2, d3] }
  | _ => none }
def FnExactFormCommitteeWrongFalsely : Prop := fnExactFormCommitteeRow.holds Try.pinned (OpenSpec.ofChange fnExactFormCommitteeWrong)

/-- 'laws.FnExactAppointMember': WHATEVER THE INPUT: true; the input reads as it did. -/
def fnExactAppointMemberSpec : ChangeSpec := { name := "fnExactAppointMember", fn := fun _ => fun
  | [d1, d2, d3] => { results := [.lit (.bool true)], args := [d1, d2, d3] }
  | _ => none }
def fnExactAppointMemberRow : OpenClaim := { program := "ytilomfpomibimaa", sum := "2ecd10237df209707d43b9371f09190a4289489731063a6ed8890b9c0a05c568", func := "loop.example/g00909/laws.FnExactAppointMember", spec := "fnExactAppointMember", unfollowed := true, recurses := true, apart := false }
def FnExactAppointMemberSaid : Prop := fnExactAppointMemberRow.holds Try.pinned (OpenSpec.ofChange fnExactAppointMemberSpec)

/-- ITS FALSE NEIGHBOUR: 'it returns false'. Refute it at one input. -/
def fnExactAppointMemberWrong : ChangeSpec := { name := "fnExactAppointMember", fn := fun _ => fun
  | [d1, d2, d3] => { results := [.lit (.bool false)], args := [d1, d2, d3] }
  | _ => none }
def FnExactAppointMemberWrongFalsely : Prop := fnExactAppointMemberRow.holds Try.pinned (OpenSpec.ofChange fnExactAppointMemberWrong)

/-- 'laws.FnCommittees': WHATEVER THE INPUT: true; the input reads as it did. -/
def fnCommitteesSpec : ChangeSpec := { name := "fnCommittees", fn := fun _ => fun
  | [d] => { results := [.lit (.bool true)], args := [d] }
  | _ => none }
def fnCommitteesRow : OpenClaim := { program := "ytilomfpomibimaa", sum := "2ecd10237df209707d43b9371f09190a4289489731063a6ed8890b9c0a05c568", func := "loop.example/g00909/laws.FnCommittees", spec := "fnCommittees", inPlace := ["internal/bytealg.abigen_runtime_cmpstring"], unfollowed := true, recurses := true, apart := false }
def FnCommitteesSaid : Prop := fnCommitteesRow.holds Try.pinned (OpenSpec.ofChange fnCommitteesSpec)

/-- ITS FALSE NEIGHBOUR: 'it returns false'. Refute it at one input. -/
def fnCommitteesWrong : ChangeSpec := { name := "fnCommittees", fn := fun _ => fun
  | [d] => { results := [.lit (.bool false)], args := [d] }
  | _ => none }
def FnCommitteesWrongFalsely : Prop := fnCommitteesRow.holds Try.pinned (OpenSpec.ofChange fnCommitteesWrong)

/- THE SECOND FORM. 'bulk': how many values and letters a reading holds, each counted each time it is reached (what is shared counts as often as it is met; a slice's spare places count too). A statement '..UptoSaid' is the law's where the arguments, and the package variables that the reading takes, are together of bulk at most 1048576: NARROWER than '..Said'. Prove '..Said' where nothing that the law and all that it calls make is longer than what came in: it says more and counts as full. Else prove '..UptoSaid'. A law counts once. -/
mutual
def uptoBulk {H : Type} : DataW H → Nat
  | .lit (.string bytes) => bytes.length + 1
  | .lit _ => 1
  | .nil => 1
  | .ptr d => uptoBulk d + 1
  | .slice elems spare => uptoBulkAll elems + uptoBulkAll spare + 1
  | .agg parts => uptoBulkAll parts + 1
  | .iface _ d => uptoBulk d + 1
  | .map entries => uptoBulkEntries entries + 1
  | .held _ => 1
def uptoBulkAll {H : Type} : List (DataW H) → Nat
  | [] => 0
  | d :: r => uptoBulk d + uptoBulkAll r
def uptoBulkEntries {H : Type} : List (Lit × DataW H) → Nat
  | [] => 0
  | x :: r => uptoBulkEntry x + uptoBulkEntries r
def uptoBulkEntry {H : Type} : Lit × DataW H → Nat
  | (.string bytes, d) => bytes.length + uptoBulk d + 1
  | (_, d) => uptoBulk d + 1
 end
def uptoSmall : (H : Type) → List (DataW H) → Bool := fun _ ds => decide (uptoBulkAll ds ≤ 1048576)
def OpenSpec.upto (s : _root_.Go.ChangeSpec) : _root_.Go.OpenSpec := { _root_.Go.OpenSpec.ofChange s with cond := some uptoSmall }

/-- 'laws.FnExactSharedPairs', WHERE WHAT IT READS IS OF BULK AT MOST 1048576: true; the input reads as it did. -/
def fnExactSharedPairsUptoRow : OpenClaim := { program := "ytilomfpomibimaa", sum := "2ecd10237df209707d43b9371f09190a4289489731063a6ed8890b9c0a05c568", func := "loop.example/g00909/laws.FnExactSharedPairs", spec := "fnExactSharedPairs", unfollowed := true, recurses := true, apart := false, narrowed := true }
def FnExactSharedPairsUptoSaid : Prop := fnExactSharedPairsUptoRow.holds Try.pinned (OpenSpec.upto fnExactSharedPairsSpec)

/-- 'laws.FnExactDismissMember', WHERE WHAT IT READS IS OF BULK AT MOST 1048576: true; the input reads as it did. -/
def fnExactDismissMemberUptoRow : OpenClaim := { program := "ytilomfpomibimaa", sum := "2ecd10237df209707d43b9371f09190a4289489731063a6ed8890b9c0a05c568", func := "loop.example/g00909/laws.FnExactDismissMember", spec := "fnExactDismissMember", unfollowed := true, recurses := true, apart := false, narrowed := true }
def FnExactDismissMemberUptoSaid : Prop := fnExactDismissMemberUptoRow.holds Try.pinned (OpenSpec.upto fnExactDismissMemberSpec)

/-- 'laws.FnSlots', WHERE WHAT IT READS IS OF BULK AT MOST 1048576: true; the input reads as it did. -/
def fnSlotsUptoRow : OpenClaim := { program := "ytilomfpomibimaa", sum := "2ecd10237df209707d43b9371f09190a4289489731063a6ed8890b9c0a05c568", func := "loop.example/g00909/laws.FnSlots", spec := "fnSlots", unfollowed := true, recurses := true, apart := false, narrowed := true }
def FnSlotsUptoSaid : Prop := fnSlotsUptoRow.holds Try.pinned (OpenSpec.upto fnSlotsSpec)

/-- 'laws.FnExactFormCommittee', WHERE WHAT IT READS IS OF BULK AT MOST 1048576: true; the input reads as it did. -/
def fnExactFormCommitteeUptoRow : OpenClaim := { program := "ytilomfpomibimaa", sum := "2ecd10237df209707d43b9371f09190a4289489731063a6ed8890b9c0a05c568", func := "loop.example/g00909/laws.FnExactFormCommittee", spec := "fnExactFormCommittee", inPlace := ["internal/bytealg.abigen_runtime_cmpstring"], unfollowed := true, recurses := true, apart := false, narrowed := true }
def FnExactFormCommitteeUptoSaid : Prop := fnExactFormCommitteeUptoRow.holds Try.pinned (OpenSpec.upto fnExactFormCommitteeSpec)

/-- 'laws.FnExactAppointMember', WHERE WHAT IT READS IS OF BULK AT MOST 1048576: true; the input reads as it did. -/
def fnExactAppointMemberUptoRow : OpenClaim := { program := "ytilomfpomibimaa", sum := "2ecd10237df209707d43b9371f09190a4289489731063a6ed8890b9c0a05c568", func := "loop.example/g00909/laws.FnExactAppointMember", spec := "fnExactAppointMember", unfollowed := true, recurses := true, apart := false, narrowed := true }
def FnExactAppointMemberUptoSaid : Prop := fnExactAppointMemberUptoRow.holds Try.pinned (OpenSpec.upto fnExactAppointMemberSpec)

/-- 'laws.FnCommittees', WHERE WHAT IT READS IS OF BULK AT MOST 1048576: true; the input reads as it did. -/
def fnCommitteesUptoRow : OpenClaim := { program := "ytilomfpomibimaa", sum := "2ecd10237df209707d43b9371f09190a4289489731063a6ed8890b9c0a05c568", func := "loop.example/g00909/laws.FnCommittees", spec := "fnCommittees", inPlace := ["internal/bytealg.abigen_runtime_cmpstring"], unfollowed := true, recurses := true, apart := false, narrowed := true }
def FnCommitteesUptoSaid : Prop := fnCommitteesUptoRow.holds Try.pinned (OpenSpec.upto fnCommitteesSpec)

end Rows
end Go.Proofs.Ytilomfpomibimaa
