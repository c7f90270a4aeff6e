/-
  DERIVED. GIVEN WITH THE SEED: THE CARDS: each row of YtjijcjcfefkpbaaDoorRows.lean that lists a variable, with what it lists TIED to the program's text (the seventh form; the later family's looks); each row that meets fmt, with fmt's text TOLD by the authors' own Lean function (tested against real Go, not proved from fmt's source: count such statements apart). THE CARD IS WHAT COUNTS. Prove the row's statement (the work); the ties are given (YtjijcjcfefkpbaaDoorTie.lean); close each card by the builder's one call (the guide's Derived/Test/ToyasCard.lean, 'card_holds'). Laid BY PROGRAM, IN A SANDBOX (cutbox-door.mjs). By AI agents, Wed Nov 11 2026. No macro, syntax, notation, axiom, sorry.
-/
import Derived.Test.YtjijcjcfefkpbaaDoorRows
import GoSem.ClaimSeven
namespace Go.Proofs.YtjijcjcfefkpbaaDoor
namespace Rows

/-- THE TIED CARD OF 'laws.FnExactSessionText'. -/
def fnExactSessionTextCard : Claim7 := { stood := { row := fnExactSessionTextRow, standIns := [], harness := (true, "4e7222fcad40aa2cf02dbc311f2448f4f740a74d13927fb648c12920e488b596"), looks := false }, kinds := [], alts := [], laidByText := true, laidKinds := [.data, .data, .data], laidTests := true, laidLooks := .later }
def FnExactSessionTextCardSaid : Prop := Claim7.holds Tryd.pinned (.plain (OpenSpec.ofChange fnExactSessionTextSpec)) fnExactSessionTextCard

/-- THE TIED CARD OF 'laws.FnBusiness'. -/
def fnBusinessCard : Claim7 := { stood := { row := fnBusinessRow, standIns := [], harness := (true, "4e7222fcad40aa2cf02dbc311f2448f4f740a74d13927fb648c12920e488b596"), looks := false }, kinds := [], alts := [], laidByText := true, laidKinds := [.data, .data, .data], laidTests := true, laidLooks := .later }
def FnBusinessCardSaid : Prop := Claim7.holds Tryd.pinned (.plain (OpenSpec.ofChange fnBusinessSpec)) fnBusinessCard

/-- THE SECOND FORM's CARD OF 'laws.FnExactSessionText'. -/
def fnExactSessionTextUptoCard : Claim7 := { stood := { row := fnExactSessionTextUptoRow, standIns := [], harness := (true, "4e7222fcad40aa2cf02dbc311f2448f4f740a74d13927fb648c12920e488b596"), looks := false }, kinds := [], alts := [], laidByText := true, laidKinds := [.data, .data, .data], laidTests := true, laidLooks := .later }
def FnExactSessionTextUptoCardSaid : Prop := Claim7.holds Tryd.pinned (.plain (OpenSpec.upto fnExactSessionTextSpec)) fnExactSessionTextUptoCard

/-- THE SECOND FORM's CARD OF 'laws.FnBusiness'. -/
def fnBusinessUptoCard : Claim7 := { stood := { row := fnBusinessUptoRow, standIns := [], harness := (true, "4e7222fcad40aa2cf02dbc311f2448f4f740a74d13927fb648c12920e488b596"), looks := false }, kinds := [], alts := [], laidByText := true, laidKinds := [.data, .data, .data], laidTests := true, laidLooks := .later }
def FnBusinessUptoCardSaid : Prop := Claim7.holds Tryd.pinned (.plain (OpenSpec.upto fnBusinessSpec)) fnBusinessUptoCard
end Rows
end Go.Proofs.YtjijcjcfefkpbaaDoor
