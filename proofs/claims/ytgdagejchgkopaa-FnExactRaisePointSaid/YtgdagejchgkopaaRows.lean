/-
  No cell of these rows narrows 'for every input' (looked for: loops, veiled, ifaces, maps, wideKeys, modest, calm, conditions, laid).
  DERIVED. THE GIVEN ROWS OF THIS SEAT. 6 by the template 'for every input the law returns true; each argument reads behind the call as it read before'; 0 by the template 'total and deterministic' (their statements: YtgdagejchgkopaaTotals.lean).
  GIVEN WITH THE SEED: the statements are not yours to turn. If you find one false, say at which input.
  Laid BY PROGRAM, IN A SANDBOX (cutbox-rows.mjs): the forced cells as the released guide's own fill.sh prints them over the translation 2a4935e91b498cd5… (all of the seat's roots in one cut). By AI agents, Wed Nov 11 2026. No macro, syntax, notation, axiom, sorry.
-/
import Derived.Test.YtgdagejchgkopaaChecked
import GoSem.Claim
import GoSem.ClaimJoined
import GoSem.ClaimMapViews
import Derived.JoinedTies
import Derived.KernelRfl
namespace Go.Proofs.Ytgdagejchgkopaa
/- THE CELL 'sum', in the pinned program and in every row, IS THE sha256 OF THE DUMP (.gsa) THAT YtgdagejchgkopaaProg.lean LOADS. Nothing in Lean hashes anything: it is a label: what it is worth is what the hold of that sum in a sandbox is worth. -/
noncomputable def Try.pinned : Pinned := { name := "ytgdagejchgkopaa", sum := "2a4935e91b498cd5af9b4a492c3644e0eb080c4fe6ac457502fac33c36a0b214", checked := Try.checked }
namespace Rows
def none {H : Type} : Left H := { results := [], args := [] }

/-- 'laws.FnExactArePoints': WHATEVER THE INPUT: true; the input reads as it did. -/
def fnExactArePointsSpec : ChangeSpec := { name := "fnExactArePoints", fn := fun _ => fun
  | [d] => { results := [.lit (.bool true)], args := [d] }
  | _ => none }
def fnExactArePointsRow : OpenClaim := { program := "ytgdagejchgkopaa", sum := "2a4935e91b498cd5af9b4a492c3644e0eb080c4fe6ac457502fac33c36a0b214", func := "loop.example/g00909/laws.FnExactArePoints", spec := "fnExactArePoints", apart := false }
def FnExactArePointsSaid : Prop := fnExactArePointsRow.holds Try.pinned (OpenSpec.ofChange fnExactArePointsSpec)

/-- ITS FALSE NEIGHBOUR: 'it returns false'. Refute it at one input. -/
def fnExactArePointsWrong : ChangeSpec := { name := "fnExactArePoints", fn := fun _ => fun
  | [d] => { results := [.lit (.bool false)], args := [d] }
  | _ => none }
def FnExactArePointsWrongFalsely : Prop := fnExactArePointsRow.holds Try.pinned (OpenSpec.ofChange fnExactArePointsWrong)

/-- 'laws.FnExactIsInOrder': WHATEVER THE INPUT: true; the input reads as it did. -/
def fnExactIsInOrderSpec : ChangeSpec := { name := "fnExactIsInOrder", fn := fun _ => fun
  | [d] => { results := [.lit (.bool true)], args := [d] }
  | _ => none }
def fnExactIsInOrderRow : OpenClaim := { program := "ytgdagejchgkopaa", sum := "2a4935e91b498cd5af9b4a492c3644e0eb080c4fe6ac457502fac33c36a0b214", func := "loop.example/g00909/laws.FnExactIsInOrder", spec := "fnExactIsInOrder", apart := false }
def FnExactIsInOrderSaid : Prop := fnExactIsInOrderRow.holds Try.pinned (OpenSpec.ofChange fnExactIsInOrderSpec)

/-- ITS FALSE NEIGHBOUR: 'it returns false'. Refute it at one input. -/
def fnExactIsInOrderWrong : ChangeSpec := { name := "fnExactIsInOrder", fn := fun _ => fun
  | [d] => { results := [.lit (.bool false)], args := [d] }
  | _ => none }
def FnExactIsInOrderWrongFalsely : Prop := fnExactIsInOrderRow.holds Try.pinned (OpenSpec.ofChange fnExactIsInOrderWrong)

/-- 'laws.FnExactOutcomeOf': WHATEVER THE INPUT: true; the input reads as it did. -/
def fnExactOutcomeOfSpec : ChangeSpec := { name := "fnExactOutcomeOf", fn := fun _ => fun
  | [d1, d2] => { results := [.lit (.bool true)], args := [d1, d2] }
  | _ => none }
def fnExactOutcomeOfRow : OpenClaim := { program := "ytgdagejchgkopaa", sum := "2a4935e91b498cd5af9b4a492c3644e0eb080c4fe6ac457502fac33c36a0b214", func := "loop.example/g00909/laws.FnExactOutcomeOf", spec := "fnExactOutcomeOf", apart := false }
def FnExactOutcomeOfSaid : Prop := fnExactOutcomeOfRow.holds Try.pinned (OpenSpec.ofChange fnExactOutcomeOfSpec)

/-- ITS FALSE NEIGHBOUR: 'it returns false'. Refute it at one input. -/
def fnExactOutcomeOfWrong : ChangeSpec := { name := "fnExactOutcomeOf", fn := fun _ => fun
  | [d1, d2] => { results := [.lit (.bool false)], args := [d1, d2] }
  | _ => none }
def FnExactOutcomeOfWrongFalsely : Prop := fnExactOutcomeOfRow.holds Try.pinned (OpenSpec.ofChange fnExactOutcomeOfWrong)

/-- 'laws.FnExactRaisePoint': WHATEVER THE INPUT: true; the input reads as it did. -/
def fnExactRaisePointSpec : ChangeSpec := { name := "fnExactRaisePoint", fn := fun _ => fun
  | [d1, d2] => { results := [.lit (.bool true)], args := [d1, d2] }
  | _ => none }
def fnExactRaisePointRow : OpenClaim := { program := "ytgdagejchgkopaa", sum := "2a4935e91b498cd5af9b4a492c3644e0eb080c4fe6ac457502fac33c36a0b214", func := "loop.example/g00909/laws.FnExactRaisePoint", spec := "fnExactRaisePoint", apart := false }
def FnExactRaisePointSaid : Prop := fnExactRaisePointRow.holds Try.pinned (OpenSpec.ofChange fnExactRaisePointSpec)

/-- ITS FALSE NEIGHBOUR: 'it returns false'. Refute it at one input. -/
def fnExactRaisePointWrong : ChangeSpec := { name := "fnExactRaisePoint", fn := fun _ => fun
  | [d1, d2] => { results := [.lit (.bool false)], args := [d1, d2] }
  | _ => none }
def FnExactRaisePointWrongFalsely : Prop := fnExactRaisePointRow.holds Try.pinned (OpenSpec.ofChange fnExactRaisePointWrong)

/-- 'laws.FnExactReversedPoints': WHATEVER THE INPUT: true; the input reads as it did. -/
def fnExactReversedPointsSpec : ChangeSpec := { name := "fnExactReversedPoints", fn := fun _ => fun
  | [d] => { results := [.lit (.bool true)], args := [d] }
  | _ => none }
def fnExactReversedPointsRow : OpenClaim := { program := "ytgdagejchgkopaa", sum := "2a4935e91b498cd5af9b4a492c3644e0eb080c4fe6ac457502fac33c36a0b214", func := "loop.example/g00909/laws.FnExactReversedPoints", spec := "fnExactReversedPoints", apart := false }
def FnExactReversedPointsSaid : Prop := fnExactReversedPointsRow.holds Try.pinned (OpenSpec.ofChange fnExactReversedPointsSpec)

/-- ITS FALSE NEIGHBOUR: 'it returns false'. Refute it at one input. -/
def fnExactReversedPointsWrong : ChangeSpec := { name := "fnExactReversedPoints", fn := fun _ => fun
  | [d] => { results := [.lit (.bool false)], args := [d] }
  | _ => none }
def FnExactReversedPointsWrongFalsely : Prop := fnExactReversedPointsRow.holds Try.pinned (OpenSpec.ofChange fnExactReversedPointsWrong)

/-- 'laws.FnExactDecideAppeal': WHATEVER THE INPUT: true; the input reads as it did. -/
def fnExactDecideAppealSpec : ChangeSpec := { name := "fnExactDecideAppeal", fn := fun _ => fun
  | [d1, d2] => { results := [.lit (.bool true)], args := [d1, d2] }
  | _ => none }
def fnExactDecideAppealRow : OpenClaim := { program := "ytgdagejchgkopaa", sum := "2a4935e91b498cd5af9b4a492c3644e0eb080c4fe6ac457502fac33c36a0b214", func := "loop.example/g00909/laws.FnExactDecideAppeal", spec := "fnExactDecideAppeal", unfollowed := true, recurses := true, apart := false }
def FnExactDecideAppealSaid : Prop := fnExactDecideAppealRow.holds Try.pinned (OpenSpec.ofChange fnExactDecideAppealSpec)

/-- ITS FALSE NEIGHBOUR: 'it returns false'. Refute it at one input. -/
def fnExactDecideAppealWrong : ChangeSpec := { name := "fnExactDecideAppeal", fn := fun _ => fun
  | [d1, d2] => { results := [.lit (.bool false)], args := [d1, d2] }
  | _ => none }
def FnExactDecideAppealWrongFalsely : Prop := fnExactDecideAppealRow.holds Try.pinned (OpenSpec.ofChange fnExactDecideAppealWrong)

/- THE SECOND FORM. 'bulk': how many values and letters a reading holds, each counted each time it is reached (what is shared counts as often as it is met; a slice's spare places count too). A statement '..UptoSaid' is the law's where the arguments, and the package variables that the reading takes, are together of bulk at most 1048576: NARROWER than '..Said'. Prove '..Said' where nothing that the law and all that it calls make is longer than what came in: it says more and counts as full. Else prove '..UptoSaid'. A law counts once. -/
mutual
def uptoBulk {H : Type} : DataW H → Nat
  | .lit (.string bytes) => bytes.length + 1
  | .lit _ => 1
  | .nil => 1
  | .ptr d => uptoBulk d + 1
  | .slice elems spare => uptoBulkAll elems + uptoBulkAll spare + 1
  | .agg parts => uptoBulkAll parts + 1
  | .iface _ d => uptoBulk d + 1
  | .map entries => uptoBulkEntries entries + 1
  | .held _ => 1
def uptoBulkAll {H : Type} : List (DataW H) → Nat
  | [] => 0
  | d :: r => uptoBulk d + uptoBulkAll r
def uptoBulkEntries {H : Type} : List (Lit × DataW H) → Nat
  | [] => 0
  | x :: r => uptoBulkEntry x + uptoBulkEntries r
def uptoBulkEntry {H : Type} : Lit × DataW H → Nat
  | (.string bytes, d) => bytes.length + uptoBulk d + 1
  | (_, d) => uptoBulk d + 1
 end
def uptoSmall : (H : Type) → List (DataW H) → Bool := fun _ ds => decide (uptoBulkAll ds ≤ 1048576)
def OpenSpec.upto (s : _root_.Go.ChangeSpec) : _root_.Go.OpenSpec := { _root_.Go.OpenSpec.ofChange s with cond := some uptoSmall }

/-- 'laws.FnExactArePoints', WHERE WHAT IT READS IS OF BULK AT MOST 1048576: true; the input reads as it did. -/
def fnExactArePointsUptoRow : OpenClaim := { program := "ytgdagejchgkopaa", sum := "2a4935e91b498cd5af9b4a492c3644e0eb080c4fe6ac457502fac33c36a0b214", func := "loop.example/g00909/laws.FnExactArePoints", spec := "fnExactArePoints", apart := false, narrowed := true }
def FnExactArePointsUptoSaid : Prop := fnExactArePointsUptoRow.holds Try.pinned (OpenSpec.upto fnExactArePointsSpec)

/-- 'laws.FnExactIsInOrder', WHERE WHAT IT READS IS OF BULK AT MOST 1048576: true; the input reads as it did. -/
def fnExactIsInOrderUptoRow : OpenClaim := { program := "ytgdagejchgkopaa", sum := "2a4935e91b498cd5af9b4a492c3644e0eb080c4fe6ac457502fac33c36a0b214", func := "loop.example/g00909/laws.FnExactIsInOrder", spec := "fnExactIsInOrder", apart := false, narrowed := true }
def FnExactIsInOrderUptoSaid : Prop := fnExactIsInOrderUptoRow.holds Try.pinned (OpenSpec.upto fnExactIsInOrderSpec)

/-- 'laws.FnExactOutcomeOf', WHERE WHAT IT READS IS OF BULK AT MOST 1048576: true; the input reads as it did. -/
def fnExactOutcomeOfUptoRow : OpenClaim := { program := "ytgdagejchgkopaa", sum := "2a4935e91b498cd5af9b4a492c3644e0eb080c4fe6ac457502fac33c36a0b214", func := "loop.example/g00909/laws.FnExactOutcomeOf", spec := "fnExactOutcomeOf", apart := false, narrowed := true }
def FnExactOutcomeOfUptoSaid : Prop := fnExactOutcomeOfUptoRow.holds Try.pinned (OpenSpec.upto fnExactOutcomeOfSpec)

/-- 'laws.FnExactRaisePoint', WHERE WHAT IT READS IS OF BULK AT MOST 1048576: true; the input reads as it did. -/
def fnExactRaisePointUptoRow : OpenClaim := { program := "ytgdagejchgkopaa", sum := "2a4935e91b498cd5af9b4a492c3644e0eb080c4fe6ac457502fac33c36a0b214", func := "loop.example/g00909/laws.FnExactRaisePoint", spec := "fnExactRaisePoint", apart := false, narrowed := true }
def FnExactRaisePointUptoSaid : Prop := fnExactRaisePointUptoRow.holds Try.pinned (OpenSpec.upto fnExactRaisePointSpec)

/-- 'laws.FnExactReversedPoints', WHERE WHAT IT READS IS OF BULK AT MOST 1048576: true; the input reads as it did. -/
def fnExactReversedPointsUptoRow : OpenClaim := { program := "ytgdagejchgkopaa", sum := "2a4935e91b498cd5af9b4a492c3644e0eb080c4fe6ac457502fac33c36a0b214", func := "loop.example/g00909/laws.FnExactReversedPoints", spec := "fnExactReversedPoints", apart := false, narrowed := true }
def FnExactReversedPointsUptoSaid : Prop := fnExactReversedPointsUptoRow.holds Try.pinned (OpenSpec.upto fnExactReversedPointsSpec)

/-- 'laws.FnExactDecideAppeal', WHERE WHAT IT READS IS OF BULK AT MOST 1048576: true; the input reads as it did. -/
def fnExactDecideAppealUptoRow : OpenClaim := { program := "ytgdagejchgkopaa", sum := "2a4935e91b498cd5af9b4a492c3644e0eb080c4fe6ac457502fac33c36a0b214", func := "loop.example/g00909/laws.FnExactDecideAppeal", spec := "fnExactDecideAppeal", unfollowed := true, recurses := true, apart := false, narrowed := true }
def FnExactDecideAppealUptoSaid : Prop := fnExactDecideAppealUptoRow.holds Try.pinned (OpenSpec.upto fnExactDecideAppealSpec)

end Rows
end Go.Proofs.Ytgdagejchgkopaa
