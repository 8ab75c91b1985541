/-
  DERIVED. GIVEN WITH THE SEED: THE CARDS: each row of YteeelkiapccdoaaDoorRows.lean that lists a variable, with what it lists TIED to the program's text (the seventh form; the later family's looks); each row that meets fmt, with fmt's text TOLD by the authors' own Lean function (tested against real Go, not proved from fmt's source: count such statements apart). THE CARD IS WHAT COUNTS. Prove the row's statement (the work); the ties are given (YteeelkiapccdoaaDoorTie.lean); close each card by the builder's one call (the guide's Derived/Test/ToyasCard.lean, 'card_holds'). Laid BY PROGRAM, IN A SANDBOX (cutbox-door.mjs). By AI agents, Wed Nov 11 2026. No macro, syntax, notation, axiom, sorry.
-/
import Derived.Test.YteeelkiapccdoaaDoorRows
import GoSem.ClaimSeven
namespace Go.Proofs.YteeelkiapccdoaaDoor
namespace Rows

/-- THE TIED CARD OF 'laws.FnExactSectionNumber'. -/
def fnExactSectionNumberCard : Claim7 := { stood := { row := fnExactSectionNumberRow, standIns := [], harness := (true, "7885c0e7f988dea91dd33c38de1857e3f8b231ffa7ca83e7d16e97ebe6261d8c"), looks := false }, kinds := [], alts := [], laidByText := true, laidKinds := [.data, .data, .data], laidTests := true, laidLooks := .later }
def FnExactSectionNumberCardSaid : Prop := Claim7.holds Tryd.pinned (.plain (OpenSpec.ofChange fnExactSectionNumberSpec)) fnExactSectionNumberCard

/-- THE SECOND FORM's CARD OF 'laws.FnExactSectionNumber'. -/
def fnExactSectionNumberUptoCard : Claim7 := { stood := { row := fnExactSectionNumberUptoRow, standIns := [], harness := (true, "7885c0e7f988dea91dd33c38de1857e3f8b231ffa7ca83e7d16e97ebe6261d8c"), looks := false }, kinds := [], alts := [], laidByText := true, laidKinds := [.data, .data, .data], laidTests := true, laidLooks := .later }
def FnExactSectionNumberUptoCardSaid : Prop := Claim7.holds Tryd.pinned (.plain (OpenSpec.upto fnExactSectionNumberSpec)) fnExactSectionNumberUptoCard
end Rows
end Go.Proofs.YteeelkiapccdoaaDoor
