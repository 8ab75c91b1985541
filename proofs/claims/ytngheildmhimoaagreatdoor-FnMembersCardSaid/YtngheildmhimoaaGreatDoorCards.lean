/-
  DERIVED. GIVEN WITH THE SEED: THE CARDS: each row of YtngheildmhimoaaGreatDoorRows.lean that lists a variable, with what it lists TIED to the program's text (the seventh form; the later family's looks); each row that meets fmt, with fmt's text TOLD by the authors' own Lean function (tested against real Go, not proved from fmt's source: count such statements apart). THE CARD IS WHAT COUNTS. Prove the row's statement (the work); the ties are given (YtngheildmhimoaaGreatDoorTie.lean); close each card by the builder's one call (the guide's Derived/Test/ToyasCard.lean, 'card_holds'). Laid BY PROGRAM, IN A SANDBOX (cutbox-door.mjs). By AI agents, Wed Nov 11 2026. No macro, syntax, notation, axiom, sorry.
-/
import Derived.Test.YtngheildmhimoaaGreatDoorRows
import GoSem.ClaimSeven
namespace Go.Proofs.YtngheildmhimoaaGreatDoor
namespace Rows

/-- THE TIED CARD OF 'laws.FnMembers'. -/
def fnMembersCard : Claim7 := { stood := { row := fnMembersRow, standIns := [], harness := (true, "e85eef604b5db9681cd21a19118216d8f05f147e39db9fe0a6bab7c982e9752b"), looks := true }, kinds := [], alts := [], laidByText := true, laidKinds := [.data, .data, .data, .data, .sentinel, .sentinel, .widerDeep, .pinned], laidTests := true, laidLooks := .later }
def FnMembersCardSaid : Prop := Claim7.holds Tryz.pinned (.plain (OpenSpec.ofChange fnMembersSpec)) fnMembersCard

/-- THE SECOND FORM's CARD OF 'laws.FnMembers'. -/
def fnMembersUptoCard : Claim7 := { stood := { row := fnMembersUptoRow, standIns := [], harness := (true, "e85eef604b5db9681cd21a19118216d8f05f147e39db9fe0a6bab7c982e9752b"), looks := true }, kinds := [], alts := [], laidByText := true, laidKinds := [.data, .data, .data, .data, .sentinel, .sentinel, .widerDeep, .pinned], laidTests := true, laidLooks := .later }
def FnMembersUptoCardSaid : Prop := Claim7.holds Tryz.pinned (.plain (OpenSpec.upto fnMembersSpec)) fnMembersUptoCard
end Rows
end Go.Proofs.YtngheildmhimoaaGreatDoor
