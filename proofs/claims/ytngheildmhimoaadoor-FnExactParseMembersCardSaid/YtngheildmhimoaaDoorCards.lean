/-
  DERIVED. GIVEN WITH THE SEED: THE CARDS: each row of YtngheildmhimoaaDoorRows.lean that lists a variable, with what it lists TIED to the program's text (the seventh form; the later family's looks); each row that meets fmt, with fmt's text TOLD by the authors' own Lean function (tested against real Go, not proved from fmt's source: count such statements apart). THE CARD IS WHAT COUNTS. Prove the row's statement (the work); the ties are given (YtngheildmhimoaaDoorTie.lean); close each card by the builder's one call (the guide's Derived/Test/ToyasCard.lean, 'card_holds'). Laid BY PROGRAM, IN A SANDBOX (cutbox-door.mjs). By AI agents, Wed Nov 11 2026. No macro, syntax, notation, axiom, sorry.
-/
import Derived.Test.YtngheildmhimoaaDoorRows
import GoSem.ClaimSeven
namespace Go.Proofs.YtngheildmhimoaaDoor
namespace Rows

/-- THE TIED CARD OF 'laws.FnExactMembersText'. -/
def fnExactMembersTextCard : Claim7 := { stood := { row := fnExactMembersTextRow, standIns := [], harness := (true, "ef4325695b023055044b87cfc093c491009fd633e47462a52c89909cb296a549"), looks := true }, kinds := [], alts := [], laidByText := true, laidKinds := [.data, .data, .data, .widerDeep], laidTests := true, laidLooks := .later }
def FnExactMembersTextCardSaid : Prop := Claim7.holds Tryd.pinned (.plain (OpenSpec.ofChange fnExactMembersTextSpec)) fnExactMembersTextCard

/-- THE TIED CARD OF 'laws.FnExactParseMembers'. -/
def fnExactParseMembersCard : Claim7 := { stood := { row := fnExactParseMembersRow, standIns := [], harness := (true, "ef4325695b023055044b87cfc093c491009fd633e47462a52c89909cb296a549"), looks := true }, kinds := [], alts := [], laidByText := true, laidKinds := [.data, .data, .data, .data, .sentinel, .sentinel, .widerDeep, .pinned], laidTests := true, laidLooks := .later }
def FnExactParseMembersCardSaid : Prop := Claim7.holds Tryd.pinned (.plain (OpenSpec.ofChange fnExactParseMembersSpec)) fnExactParseMembersCard

/-- THE SECOND FORM's CARD OF 'laws.FnExactMembersText'. -/
def fnExactMembersTextUptoCard : Claim7 := { stood := { row := fnExactMembersTextUptoRow, standIns := [], harness := (true, "ef4325695b023055044b87cfc093c491009fd633e47462a52c89909cb296a549"), looks := true }, kinds := [], alts := [], laidByText := true, laidKinds := [.data, .data, .data, .widerDeep], laidTests := true, laidLooks := .later }
def FnExactMembersTextUptoCardSaid : Prop := Claim7.holds Tryd.pinned (.plain (OpenSpec.upto fnExactMembersTextSpec)) fnExactMembersTextUptoCard

/-- THE SECOND FORM's CARD OF 'laws.FnExactParseMembers'. -/
def fnExactParseMembersUptoCard : Claim7 := { stood := { row := fnExactParseMembersUptoRow, standIns := [], harness := (true, "ef4325695b023055044b87cfc093c491009fd633e47462a52c89909cb296a549"), looks := true }, kinds := [], alts := [], laidByText := true, laidKinds := [.data, .data, .data, .data, .sentinel, .sentinel, .widerDeep, .pinned], laidTests := true, laidLooks := .later }
def FnExactParseMembersUptoCardSaid : Prop := Claim7.holds Tryd.pinned (.plain (OpenSpec.upto fnExactParseMembersSpec)) fnExactParseMembersUptoCard
end Rows
end Go.Proofs.YtngheildmhimoaaDoor
