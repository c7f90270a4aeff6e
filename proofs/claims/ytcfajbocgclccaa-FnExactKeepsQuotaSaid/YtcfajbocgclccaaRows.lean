/-
  No cell of these rows narrows 'for every input' (looked for: loops, veiled, ifaces, maps, wideKeys, modest, calm, conditions, laid).
  DERIVED. THE GIVEN ROWS OF THIS SEAT. 7 by the template 'for every input the law returns true; each argument reads behind the call as it read before'; 0 by the template 'total and deterministic' (their statements: YtcfajbocgclccaaTotals.lean).
  GIVEN WITH THE SEED: the statements are not yours to turn. If you find one false, say at which input.
  Laid BY PROGRAM, IN A SANDBOX (cutbox-rows.mjs): the forced cells as the released guide's own fill.sh prints them over the translation 61c2efa525588fee… (all of the seat's roots in one cut). By AI agents, Wed Nov 11 2026. No macro, syntax, notation, axiom, sorry.
-/
import Derived.Test.YtcfajbocgclccaaChecked
import GoSem.Claim
import GoSem.ClaimJoined
import GoSem.ClaimMapViews
import Derived.JoinedTies
import Derived.KernelRfl
namespace Go.Proofs.Ytcfajbocgclccaa
/- THE CELL 'sum', in the pinned program and in every row, IS THE sha256 OF THE DUMP (.gsa) THAT YtcfajbocgclccaaProg.lean LOADS. Nothing in Lean hashes anything: it is a label: what it is worth is what the hold of that sum in a sandbox is worth. -/
noncomputable def Try.pinned : Pinned := { name := "ytcfajbocgclccaa", sum := "61c2efa525588fee6fdf374dadd4219ce476fd4d242eef3dbb87be69c3d54482", checked := Try.checked }
namespace Rows
def none {H : Type} : Left H := { results := [], args := [] }

/-- 'laws.FnExactVotesToReverse': WHATEVER THE INPUT: true; the input reads as it did. -/
def fnExactVotesToReverseSpec : ChangeSpec := { name := "fnExactVotesToReverse", fn := fun _ => fun
  | [d] => { results := [.lit (.bool true)], args := [d] }
  | _ => none }
def fnExactVotesToReverseRow : OpenClaim := { program := "ytcfajbocgclccaa", sum := "61c2efa525588fee6fdf374dadd4219ce476fd4d242eef3dbb87be69c3d54482", func := "loop.example/g00909/laws.FnExactVotesToReverse", spec := "fnExactVotesToReverse", apart := false }
def FnExactVotesToReverseSaid : Prop := fnExactVotesToReverseRow.holds Try.pinned (OpenSpec.ofChange fnExactVotesToReverseSpec)

/-- ITS FALSE NEIGHBOUR: 'it returns false'. Refute it at one input. -/
def fnExactVotesToReverseWrong : ChangeSpec := { name := "fnExactVotesToReverse", fn := fun _ => fun
  | [d] => { results := [.lit (.bool false)], args := [d] }
  | _ => none }
def FnExactVotesToReverseWrongFalsely : Prop := fnExactVotesToReverseRow.holds Try.pinned (OpenSpec.ofChange fnExactVotesToReverseWrong)

/-- 'laws.FnExactAreVotes': WHATEVER THE INPUT: true; the input reads as it did. -/
def fnExactAreVotesSpec : ChangeSpec := { name := "fnExactAreVotes", fn := fun _ => fun
  | [d] => { results := [.lit (.bool true)], args := [d] }
  | _ => none }
def fnExactAreVotesRow : OpenClaim := { program := "ytcfajbocgclccaa", sum := "61c2efa525588fee6fdf374dadd4219ce476fd4d242eef3dbb87be69c3d54482", func := "loop.example/g00909/laws.FnExactAreVotes", spec := "fnExactAreVotes", unfollowed := true, recurses := true, apart := false }
def FnExactAreVotesSaid : Prop := fnExactAreVotesRow.holds Try.pinned (OpenSpec.ofChange fnExactAreVotesSpec)

/-- ITS FALSE NEIGHBOUR: 'it returns false'. Refute it at one input. -/
def fnExactAreVotesWrong : ChangeSpec := { name := "fnExactAreVotes", fn := fun _ => fun
  | [d] => { results := [.lit (.bool false)], args := [d] }
  | _ => none }
def FnExactAreVotesWrongFalsely : Prop := fnExactAreVotesRow.holds Try.pinned (OpenSpec.ofChange fnExactAreVotesWrong)

/-- 'laws.FnExactIsValidSession': WHATEVER THE INPUT: true; the input reads as it did. -/
def fnExactIsValidSessionSpec : ChangeSpec := { name := "fnExactIsValidSession", fn := fun _ => fun
  | [d] => { results := [.lit (.bool true)], args := [d] }
  | _ => none }
def fnExactIsValidSessionRow : OpenClaim := { program := "ytcfajbocgclccaa", sum := "61c2efa525588fee6fdf374dadd4219ce476fd4d242eef3dbb87be69c3d54482", func := "loop.example/g00909/laws.FnExactIsValidSession", spec := "fnExactIsValidSession", apart := false }
def FnExactIsValidSessionSaid : Prop := fnExactIsValidSessionRow.holds Try.pinned (OpenSpec.ofChange fnExactIsValidSessionSpec)

/-- ITS FALSE NEIGHBOUR: 'it returns false'. Refute it at one input. -/
def fnExactIsValidSessionWrong : ChangeSpec := { name := "fnExactIsValidSession", fn := fun _ => fun
  | [d] => { results := [.lit (.bool false)], args := [d] }
  | _ => none }
def FnExactIsValidSessionWrongFalsely : Prop := fnExactIsValidSessionRow.holds Try.pinned (OpenSpec.ofChange fnExactIsValidSessionWrong)

/-- 'laws.FnExactKeepsQuota': WHATEVER THE INPUT: true; the input reads as it did. -/
def fnExactKeepsQuotaSpec : ChangeSpec := { name := "fnExactKeepsQuota", fn := fun _ => fun
  | [d1, d2] => { results := [.lit (.bool true)], args := [d1, d2] }
  | _ => none }
def fnExactKeepsQuotaRow : OpenClaim := { program := "ytcfajbocgclccaa", sum := "61c2efa525588fee6fdf374dadd4219ce476fd4d242eef3dbb87be69c3d54482", func := "loop.example/g00909/laws.FnExactKeepsQuota", spec := "fnExactKeepsQuota", unfollowed := true, recurses := true, apart := false }
def FnExactKeepsQuotaSaid : Prop := fnExactKeepsQuotaRow.holds Try.pinned (OpenSpec.ofChange fnExactKeepsQuotaSpec)

/-- ITS FALSE NEIGHBOUR: 'it returns false'. Refute it at one input. -/
def fnExactKeepsQuotaWrong : ChangeSpec := { name := "fnExactKeepsQuota", fn := fun _ => fun
  | [d1, d2] => { results := [.lit (.bool false)], args := [d1, d2] }
  | _ => none }
def FnExactKeepsQuotaWrongFalsely : Prop := fnExactKeepsQuotaRow.holds Try.pinned (OpenSpec.ofChange fnExactKeepsQuotaWrong)

/-- 'laws.FnExactExactShare': WHATEVER THE INPUT: true; the input reads as it did. -/
def fnExactExactShareSpec : ChangeSpec := { name := "fnExactExactShare", fn := fun _ => fun
  | [d1, d2, d3] => { results := [.lit (.bool true)], args := [d1, d2, d3] }
  | _ => none }
def fnExactExactShareRow : OpenClaim := { program := "ytcfajbocgclccaa", sum := "61c2efa525588fee6fdf374dadd4219ce476fd4d242eef3dbb87be69c3d54482", func := "loop.example/g00909/laws.FnExactExactShare", spec := "fnExactExactShare", unfollowed := true, recurses := true, apart := false }
def FnExactExactShareSaid : Prop := fnExactExactShareRow.holds Try.pinned (OpenSpec.ofChange fnExactExactShareSpec)

/-- ITS FALSE NEIGHBOUR: 'it returns false'. Refute it at one input. -/
def fnExactExactShareWrong : ChangeSpec := { name := "fnExactExactShare", fn := fun _ => fun
  | [d1, d2, d3] => { results := [.lit (.bool false)], args := [d1, d2, d3] }
  | _ => none }
def FnExactExactShareWrongFalsely : Prop := fnExactExactShareRow.holds Try.pinned (OpenSpec.ofChange fnExactExactShareWrong)

/-- 'laws.FnExactSmallestQuorum': WHATEVER THE INPUT: true; the input reads as it did. -/
def fnExactSmallestQuorumSpec : ChangeSpec := { name := "fnExactSmallestQuorum", fn := fun _ => fun
  | [d] => { results := [.lit (.bool true)], args := [d] }
  | _ => none }
def fnExactSmallestQuorumRow : OpenClaim := { program := "ytcfajbocgclccaa", sum := "61c2efa525588fee6fdf374dadd4219ce476fd4d242eef3dbb87be69c3d54482", func := "loop.example/g00909/laws.FnExactSmallestQuorum", spec := "fnExactSmallestQuorum", apart := false }
def FnExactSmallestQuorumSaid : Prop := fnExactSmallestQuorumRow.holds Try.pinned (OpenSpec.ofChange fnExactSmallestQuorumSpec)

/-- ITS FALSE NEIGHBOUR: 'it returns false'. Refute it at one input. -/
def fnExactSmallestQuorumWrong : ChangeSpec := { name := "fnExactSmallestQuorum", fn := fun _ => fun
  | [d] => { results := [.lit (.bool false)], args := [d] }
  | _ => none }
def FnExactSmallestQuorumWrongFalsely : Prop := fnExactSmallestQuorumRow.holds Try.pinned (OpenSpec.ofChange fnExactSmallestQuorumWrong)

/-- 'laws.FnExactHasQuorum': WHATEVER THE INPUT: true; the input reads as it did. -/
def fnExactHasQuorumSpec : ChangeSpec := { name := "fnExactHasQuorum", fn := fun _ => fun
  | [d] => { results := [.lit (.bool true)], args := [d] }
  | _ => none }
def fnExactHasQuorumRow : OpenClaim := { program := "ytcfajbocgclccaa", sum := "61c2efa525588fee6fdf374dadd4219ce476fd4d242eef3dbb87be69c3d54482", func := "loop.example/g00909/laws.FnExactHasQuorum", spec := "fnExactHasQuorum", apart := false }
def FnExactHasQuorumSaid : Prop := fnExactHasQuorumRow.holds Try.pinned (OpenSpec.ofChange fnExactHasQuorumSpec)

/-- ITS FALSE NEIGHBOUR: 'it returns false'. Refute it at one input. -/
def fnExactHasQuorumWrong : ChangeSpec := { name := "fnExactHasQuorum", fn := fun _ => fun
  | [d] => { results := [.lit (.bool false)], args := [d] }
  | _ => none }
def FnExactHasQuorumWrongFalsely : Prop := fnExactHasQuorumRow.holds Try.pinned (OpenSpec.ofChange fnExactHasQuorumWrong)

/- THE SECOND FORM. 'bulk': how many values and letters a reading holds, each counted each time it is reached (what is shared counts as often as it is met; a slice's spare places count too). A statement '..UptoSaid' is the law's where the arguments, and the package variables that the reading takes, are together of bulk at most 1048576: NARROWER than '..Said'. Prove '..Said' where nothing that the law and all that it calls make is longer than what came in: it says more and counts as full. Else prove '..UptoSaid'. A law counts once. -/
mutual
def uptoBulk {H : Type} : DataW H → Nat
  | .lit (.string bytes) => bytes.length + 1
  | .lit _ => 1
  | .nil => 1
  | .ptr d => uptoBulk d + 1
  | .slice elems spare => uptoBulkAll elems + uptoBulkAll spare + 1
  | .agg parts => uptoBulkAll parts + 1
  | .iface _ d => uptoBulk d + 1
  | .map entries => uptoBulkEntries entries + 1
  | .held _ => 1
def uptoBulkAll {H : Type} : List (DataW H) → Nat
  | [] => 0
  | d :: r => uptoBulk d + uptoBulkAll r
def uptoBulkEntries {H : Type} : List (Lit × DataW H) → Nat
  | [] => 0
  | x :: r => uptoBulkEntry x + uptoBulkEntries r
def uptoBulkEntry {H : Type} : Lit × DataW H → Nat
  | (.string bytes, d) => bytes.length + uptoBulk d + 1
  | (_, d) => uptoBulk d + 1
 end
def uptoSmall : (H : Type) → List (DataW H) → Bool := fun _ ds => decide (uptoBulkAll ds ≤ 1048576)
def OpenSpec.upto (s : _root_.Go.ChangeSpec) : _root_.Go.OpenSpec := { _root_.Go.OpenSpec.ofChange s with cond := some uptoSmall }

/-- 'laws.FnExactVotesToReverse', WHERE WHAT IT READS IS OF BULK AT MOST 1048576: true; the input reads as it did. -/
def fnExactVotesToReverseUptoRow : OpenClaim := { program := "ytcfajbocgclccaa", sum := "61c2efa525588fee6fdf374dadd4219ce476fd4d242eef3dbb87be69c3d54482", func := "loop.example/g00909/laws.FnExactVotesToReverse", spec := "fnExactVotesToReverse", apart := false, narrowed := true }
def FnExactVotesToReverseUptoSaid : Prop := fnExactVotesToReverseUptoRow.holds Try.pinned (OpenSpec.upto fnExactVotesToReverseSpec)

/-- 'laws.FnExactAreVotes', WHERE WHAT IT READS IS OF BULK AT MOST 1048576: true; the input reads as it did. -/
def fnExactAreVotesUptoRow : OpenClaim := { program := "ytcfajbocgclccaa", sum := "61c2efa525588fee6fdf374dadd4219ce476fd4d242eef3dbb87be69c3d54482", func := "loop.example/g00909/laws.FnExactAreVotes", spec := "fnExactAreVotes", unfollowed := true, recurses := true, apart := false, narrowed := true }
def FnExactAreVotesUptoSaid : Prop := fnExactAreVotesUptoRow.holds Try.pinned (OpenSpec.upto fnExactAreVotesSpec)

/-- 'laws.FnExactIsValidSession', WHERE WHAT IT READS IS OF BULK AT MOST 1048576: true; the input reads as it did. -/
def fnExactIsValidSessionUptoRow : OpenClaim := { program := "ytcfajbocgclccaa", sum := "61c2efa525588fee6fdf374dadd4219ce476fd4d242eef3dbb87be69c3d54482", func := "loop.example/g00909/laws.FnExactIsValidSession", spec := "fnExactIsValidSession", apart := false, narrowed := true }
def FnExactIsValidSessionUptoSaid : Prop := fnExactIsValidSessionUptoRow.holds Try.pinned (OpenSpec.upto fnExactIsValidSessionSpec)

/-- 'laws.FnExactKeepsQuota', WHERE WHAT IT READS IS OF BULK AT MOST 1048576: true; the input reads as it did. -/
def fnExactKeepsQuotaUptoRow : OpenClaim := { program := "ytcfajbocgclccaa", sum := "61c2efa525588fee6fdf374dadd4219ce476fd4d242eef3dbb87be69c3d54482", func := "loop.example/g00909/laws.FnExactKeepsQuota", spec := "fnExactKeepsQuota", unfollowed := true, recurses := true, apart := false, narrowed := true }
def FnExactKeepsQuotaUptoSaid : Prop := fnExactKeepsQuotaUptoRow.holds Try.pinned (OpenSpec.upto fnExactKeepsQuotaSpec)

/-- 'laws.FnExactExactShare', WHERE WHAT IT READS IS OF BULK AT MOST 1048576: true; the input reads as it did. -/
def fnExactExactShareUptoRow : OpenClaim := { program := "ytcfajbocgclccaa", sum := "61c2efa525588fee6fdf374dadd4219ce476fd4d242eef3dbb87be69c3d54482", func := "loop.example/g00909/laws.FnExactExactShare", spec := "fnExactExactShare", unfollowed := true, recurses := true, apart := false, narrowed := true }
def FnExactExactShareUptoSaid : Prop := fnExactExactShareUptoRow.holds Try.pinned (OpenSpec.upto fnExactExactShareSpec)

/-- 'laws.FnExactSmallestQuorum', WHERE WHAT IT READS IS OF BULK AT MOST 1048576: true; the input reads as it did. -/
def fnExactSmallestQuorumUptoRow : OpenClaim := { program := "ytcfajbocgclccaa", sum := "61c2efa525588fee6fdf374dadd4219ce476fd4d242eef3dbb87be69c3d54482", func := "loop.example/g00909/laws.FnExactSmallestQuorum", spec := "fnExactSmallestQuorum", apart := false, narrowed := true }
def FnExactSmallestQuorumUptoSaid : Prop := fnExactSmallestQuorumUptoRow.holds Try.pinned (OpenSpec.upto fnExactSmallestQuorumSpec)

/-- 'laws.FnExactHasQuorum', WHERE WHAT IT READS IS OF BULK AT MOST 1048576: true; the input reads as it did. -/
def fnExactHasQuorumUptoRow : OpenClaim := { program := "ytcfajbocgclccaa", sum := "61c2efa525588fee6fdf374dadd4219ce476fd4d242eef3dbb87be69c3d54482", func := "loop.example/g00909/laws.FnExactHasQuorum", spec := "fnExactHasQuorum", apart := false, narrowed := true }
def FnExactHasQuorumUptoSaid : Prop := fnExactHasQuorumUptoRow.holds Try.pinned (OpenSpec.upto fnExactHasQuorumSpec)

end Rows
end Go.Proofs.Ytcfajbocgclccaa
