/-
  No cell of these rows narrows 'for every input' (looked for: loops, veiled, ifaces, maps, wideKeys, modest, calm, conditions, laid).
  DERIVED. THE GIVEN ROWS OF THIS SEAT. 4 by the template 'for every input the law returns true; each argument reads behind the call as it read before'; 0 by the template 'total and deterministic' (their statements: YtgjgdephpliolaaTotals.lean).
  GIVEN WITH THE SEED: the statements are not yours to turn. If you find one false, say at which input.
  Laid BY PROGRAM, IN A SANDBOX (cutbox-rows.mjs): the forced cells as the released guide's own fill.sh prints them over the translation bfd7301be3c708e1… (all of the seat's roots in one cut). By AI agents, Wed Nov 11 2026. No macro, syntax, notation, axiom, sorry.
-/
import Derived.Test.YtgjgdephpliolaaChecked
import GoSem.Claim
import GoSem.ClaimJoined
import GoSem.ClaimMapViews
import Derived.JoinedTies
import Derived.KernelRfl
namespace Go.Proofs.Ytgjgdephpliolaa
/- THE CELL 'sum', in the pinned program and in every row, IS THE sha256 OF THE DUMP (.gsa) THAT YtgjgdephpliolaaProg.lean LOADS. Nothing in Lean hashes anything: it is a label: what it is worth is what the hold of that sum in a sandbox is worth. -/
noncomputable def Try.pinned : Pinned := { name := "ytgjgdephpliolaa", sum := "bfd7301be3c708e18d6d9c8c0946cd4643e3d10f12871265c38b9b8245e37393", checked := Try.checked }
namespace Rows
def none {H : Type} : Left H := { results := [], args := [] }

/-- 'laws.FnPairWins': WHATEVER THE INPUT: true; the input reads as it did. -/
def fnPairWinsSpec : ChangeSpec := { name := "fnPairWins", fn := fun _ => fun
  | [d] => { results := [.lit (.bool true)], args := [d] }
  | _ => none }
def fnPairWinsRow : OpenClaim := { program := "ytgjgdephpliolaa", sum := "bfd7301be3c708e18d6d9c8c0946cd4643e3d10f12871265c38b9b8245e37393", func := "loop.example/g00909/laws.FnPairWins", spec := "fnPairWins", unfollowed := true, recurses := true, apart := false }
def FnPairWinsSaid : Prop := fnPairWinsRow.holds Try.pinned (OpenSpec.ofChange fnPairWinsSpec)

/-- ITS FALSE NEIGHBOUR: 'it returns false'. Refute it at one input. -/
def fnPairWinsWrong : ChangeSpec := { name := "fnPairWins", fn := fun _ => fun
  | [d] => { results := [.lit (.bool false)], args := [d] }
  | _ => none }
def FnPairWinsWrongFalsely : Prop := fnPairWinsRow.holds Try.pinned (OpenSpec.ofChange fnPairWinsWrong)

/-- 'laws.FnExactRunoffWinner': WHATEVER THE INPUT: true; the input reads as it did. -/
def fnExactRunoffWinnerSpec : ChangeSpec := { name := "fnExactRunoffWinner", fn := fun _ => fun
  | [d1, d2] => { results := [.lit (.bool true)], args := [d1, d2] }
  | _ => none }
def fnExactRunoffWinnerRow : OpenClaim := { program := "ytgjgdephpliolaa", sum := "bfd7301be3c708e18d6d9c8c0946cd4643e3d10f12871265c38b9b8245e37393", func := "loop.example/g00909/laws.FnExactRunoffWinner", spec := "fnExactRunoffWinner", unfollowed := true, recurses := true, apart := false }
def FnExactRunoffWinnerSaid : Prop := fnExactRunoffWinnerRow.holds Try.pinned (OpenSpec.ofChange fnExactRunoffWinnerSpec)

/-- ITS FALSE NEIGHBOUR: 'it returns false'. Refute it at one input. -/
def fnExactRunoffWinnerWrong : ChangeSpec := { name := "fnExactRunoffWinner", fn := fun _ => fun
  | [d1, d2] => { results := [.lit (.bool false)], args := [d1, d2] }
  | _ => none }
def FnExactRunoffWinnerWrongFalsely : Prop := fnExactRunoffWinnerRow.holds Try.pinned (OpenSpec.ofChange fnExactRunoffWinnerWrong)

/-- 'laws.FnExactDominantSet': WHATEVER THE INPUT: true; the input reads as it did. -/
def fnExactDominantSetSpec : ChangeSpec := { name := "fnExactDominantSet", fn := fun _ => fun
  | [d1, d2] => { results := [.lit (.bool true)], args := [d1, d2] }
  | _ => none }
def fnExactDominantSetRow : OpenClaim := { program := "ytgjgdephpliolaa", sum := "bfd7301be3c708e18d6d9c8c0946cd4643e3d10f12871265c38b9b8245e37393", func := "loop.example/g00909/laws.FnExactDominantSet", spec := "fnExactDominantSet", unfollowed := true, recurses := true, apart := false }
def FnExactDominantSetSaid : Prop := fnExactDominantSetRow.holds Try.pinned (OpenSpec.ofChange fnExactDominantSetSpec)

/-- ITS FALSE NEIGHBOUR: 'it returns false'. Refute it at one input. -/
def fnExactDominantSetWrong : ChangeSpec := { name := "fnExactDominantSet", fn := fun _ => fun
  | [d1, d2] => { results := [.lit (.bool false)], args := [d1, d2] }
  | _ => none }
def FnExactDominantSetWrongFalsely : Prop := fnExactDominantSetRow.holds Try.pinned (OpenSpec.ofChange fnExactDominantSetWrong)

/-- 'laws.FnRunoffs': WHATEVER THE INPUT: true; the input reads as it did. -/
def fnRunoffsSpec : ChangeSpec := { name := "fnRunoffs", fn := fun _ => fun
  | [d] => { results := [.lit (.bool true)], args := [d] }
  | _ => none }
def fnRunoffsRow : OpenClaim := { program := "ytgjgdephpliolaa", sum := "bfd7301be3c708e18d6d9c8c0946cd4643e3d10f12871265c38b9b8245e37393", func := "loop.example/g00909/laws.FnRunoffs", spec := "fnRunoffs", unfollowed := true, recurses := true, apart := false }
def FnRunoffsSaid : Prop := fnRunoffsRow.holds Try.pinned (OpenSpec.ofChange fnRunoffsSpec)

/-- ITS FALSE NEIGHBOUR: 'it returns false'. Refute it at one input. -/
def fnRunoffsWrong : ChangeSpec := { name := "fnRunoffs", fn := fun _ => fun
  | [d] => { results := [.lit (.bool false)], args := [d] }
  | _ => none }
def FnRunoffsWrongFalsely : Prop := fnRunoffsRow.holds Try.pinned (OpenSpec.ofChange fnRunoffsWrong)

/- THE SECOND FORM. 'bulk': how many values and letters a reading holds, each counted each time it is reached (what is shared counts as often as it is met; a slice's spare places count too). A statement '..UptoSaid' is the law's where the arguments, and the package variables that the reading takes, are together of bulk at most 1048576: NARROWER than '..Said'. Prove '..Said' where nothing that the law and all that it calls make is longer than what came in: it says more and counts as full. Else prove '..UptoSaid'. A law counts once. -/
mutual
def uptoBulk {H : Type} : DataW H → Nat
  | .lit (.string bytes) => bytes.length + 1
  | .lit _ => 1
  | .nil => 1
  | .ptr d => uptoBulk d + 1
  | .slice elems spare => uptoBulkAll elems + uptoBulkAll spare + 1
  | .agg parts => uptoBulkAll parts + 1
  | .iface _ d => uptoBulk d + 1
  | .map entries => uptoBulkEntries entries + 1
  | .held _ => 1
def uptoBulkAll {H : Type} : List (DataW H) → Nat
  | [] => 0
  | d :: r => uptoBulk d + uptoBulkAll r
def uptoBulkEntries {H : Type} : List (Lit × DataW H) → Nat
  | [] => 0
  | x :: r => uptoBulkEntry x + uptoBulkEntries r
def uptoBulkEntry {H : Type} : Lit × DataW H → Nat
  | (.string bytes, d) => bytes.length + uptoBulk d + 1
  | (_, d) => uptoBulk d + 1
 end
def uptoSmall : (H : Type) → List (DataW H) → Bool := fun _ ds => decide (uptoBulkAll ds ≤ 1048576)
def OpenSpec.upto (s : _root_.Go.ChangeSpec) : _root_.Go.OpenSpec := { _root_.Go.OpenSpec.ofChange s with cond := some uptoSmall }

/-- 'laws.FnPairWins', WHERE WHAT IT READS IS OF BULK AT MOST 1048576: true; the input reads as it did. -/
def fnPairWinsUptoRow : OpenClaim := { program := "ytgjgdephpliolaa", sum := "bfd7301be3c708e18d6d9c8c0946cd4643e3d10f12871265c38b9b8245e37393", func := "loop.example/g00909/laws.FnPairWins", spec := "fnPairWins", unfollowed := true, recurses := true, apart := false, narrowed := true }
def FnPairWinsUptoSaid : Prop := fnPairWinsUptoRow.holds Try.pinned (OpenSpec.upto fnPairWinsSpec)

/-- 'laws.FnExactRunoffWinner', WHERE WHAT IT READS IS OF BULK AT MOST 1048576: true; the input reads as it did. -/
def fnExactRunoffWinnerUptoRow : OpenClaim := { program := "ytgjgdephpliolaa", sum := "bfd7301be3c708e18d6d9c8c0946cd4643e3d10f12871265c38b9b8245e37393", func := "loop.example/g00909/laws.FnExactRunoffWinner", spec := "fnExactRunoffWinner", unfollowed := true, recurses := true, apart := false, narrowed := true }
def FnExactRunoffWinnerUptoSaid : Prop := fnExactRunoffWinnerUptoRow.holds Try.pinned (OpenSpec.upto fnExactRunoffWinnerSpec)

/-- 'laws.FnExactDominantSet', WHERE WHAT IT READS IS OF BULK AT MOST 1048576: true; the input reads as it did. -/
def fnExactDominantSetUptoRow : OpenClaim := { program := "ytgjgdephpliolaa", sum := "bfd7301be3c708e18d6d9c8c0946cd4643e3d10f12871265c38b9b8245e37393", func := "loop.example/g00909/laws.FnExactDominantSet", spec := "fnExactDominantSet", unfollowed := true, recurses := true, apart := false, narrowed := true }
def FnExactDominantSetUptoSaid : Prop := fnExactDominantSetUptoRow.holds Try.pinned (OpenSpec.upto fnExactDominantSetSpec)

/-- 'laws.FnRunoffs', WHERE WHAT IT READS IS OF BULK AT MOST 1048576: true; the input reads as it did. -/
def fnRunoffsUptoRow : OpenClaim := { program := "ytgjgdephpliolaa", sum := "bfd7301be3c708e18d6d9c8c0946cd4643e3d10f12871265c38b9b8245e37393", func := "loop.example/g00909/laws.FnRunoffs", spec := "fnRunoffs", unfollowed := true, recurses := true, apart := false, narrowed := true }
def FnRunoffsUptoSaid : Prop := fnRunoffsUptoRow.holds Try.pinned (OpenSpec.upto fnRunoffsSpec)

end Rows
end Go.Proofs.Ytgjgdephpliolaa
