/-
  DERIVED. GIVEN WITH THE SEED: THE CARDS: each row of YtfpjelpbeicdoaaDoorRows.lean that lists a variable, with what it lists TIED to the program's text (the seventh form; the later family's looks); each row that meets fmt, with fmt's text TOLD by the authors' own Lean function (tested against real Go, not proved from fmt's source: count such statements apart). THE CARD IS WHAT COUNTS. Prove the row's statement (the work); the ties are given (YtfpjelpbeicdoaaDoorTie.lean); close each card by the builder's one call (the guide's Derived/Test/ToyasCard.lean, 'card_holds'). Laid BY PROGRAM, IN A SANDBOX (cutbox-door.mjs). By AI agents, Wed Nov 11 2026. No macro, syntax, notation, axiom, sorry.
-/
import Derived.Test.YtfpjelpbeicdoaaDoorRows
import GoSem.ClaimSeven
namespace Go.Proofs.YtfpjelpbeicdoaaDoor
namespace Rows

/-- THE TIED CARD OF 'laws.FnExactAgendaText'. -/
def fnExactAgendaTextCard : Claim7 := { stood := { row := fnExactAgendaTextRow, standIns := [], harness := (true, "f576661e4ca461d426da7b740a4a74808b18cd8374b55a2741975120bd13de8f"), looks := true }, kinds := [], alts := [], laidByText := true, laidKinds := [.data, .data, .data], laidTests := true, laidLooks := .later }
def FnExactAgendaTextCardSaid : Prop := Claim7.holds Tryd.pinned (.plain (OpenSpec.ofChange fnExactAgendaTextSpec)) fnExactAgendaTextCard

/-- THE TIED CARD OF 'laws.FnExactParseAgenda'. -/
def fnExactParseAgendaCard : Claim7 := { stood := { row := fnExactParseAgendaRow, standIns := [], harness := (true, "f576661e4ca461d426da7b740a4a74808b18cd8374b55a2741975120bd13de8f"), looks := true }, kinds := [], alts := [], laidByText := true, laidKinds := [.data, .data, .data, .data, .sentinel, .sentinel, .pinned], laidTests := true, laidLooks := .later }
def FnExactParseAgendaCardSaid : Prop := Claim7.holds Tryd.pinned (.plain (OpenSpec.ofChange fnExactParseAgendaSpec)) fnExactParseAgendaCard

/-- THE SECOND FORM's CARD OF 'laws.FnExactAgendaText'. -/
def fnExactAgendaTextUptoCard : Claim7 := { stood := { row := fnExactAgendaTextUptoRow, standIns := [], harness := (true, "f576661e4ca461d426da7b740a4a74808b18cd8374b55a2741975120bd13de8f"), looks := true }, kinds := [], alts := [], laidByText := true, laidKinds := [.data, .data, .data], laidTests := true, laidLooks := .later }
def FnExactAgendaTextUptoCardSaid : Prop := Claim7.holds Tryd.pinned (.plain (OpenSpec.upto fnExactAgendaTextSpec)) fnExactAgendaTextUptoCard

/-- THE SECOND FORM's CARD OF 'laws.FnExactParseAgenda'. -/
def fnExactParseAgendaUptoCard : Claim7 := { stood := { row := fnExactParseAgendaUptoRow, standIns := [], harness := (true, "f576661e4ca461d426da7b740a4a74808b18cd8374b55a2741975120bd13de8f"), looks := true }, kinds := [], alts := [], laidByText := true, laidKinds := [.data, .data, .data, .data, .sentinel, .sentinel, .pinned], laidTests := true, laidLooks := .later }
def FnExactParseAgendaUptoCardSaid : Prop := Claim7.holds Tryd.pinned (.plain (OpenSpec.upto fnExactParseAgendaSpec)) fnExactParseAgendaUptoCard
end Rows
end Go.Proofs.YtfpjelpbeicdoaaDoor
