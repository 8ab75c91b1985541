/-
  DERIVED. GIVEN WITH THE SEED: THE CARDS: each row of YtfaphackdhdcaaaDoorRows.lean that lists a variable, with what it lists TIED to the program's text (the seventh form; the later family's looks); each row that meets fmt, with fmt's text TOLD by the authors' own Lean function (tested against real Go, not proved from fmt's source: count such statements apart). THE CARD IS WHAT COUNTS. Prove the row's statement (the work); the ties are given (YtfaphackdhdcaaaDoorTie.lean); close each card by the builder's one call (the guide's Derived/Test/ToyasCard.lean, 'card_holds'). Laid BY PROGRAM, IN A SANDBOX (cutbox-door.mjs). By AI agents, Wed Nov 11 2026. No macro, syntax, notation, axiom, sorry.
-/
import Derived.Test.YtfaphackdhdcaaaDoorRows
import GoSem.ClaimSeven
namespace Go.Proofs.YtfaphackdhdcaaaDoor
namespace Rows

/-- THE TIED CARD OF 'laws.FnExactRuleLine'. -/
def fnExactRuleLineCard : Claim7 := { stood := { row := fnExactRuleLineRow, standIns := [], harness := (true, "7405e5b9004a61d15711dc88bc58e1db06fdfb470b8421830b06204959870b35"), looks := true }, kinds := [], alts := [], laidByText := true, laidKinds := [.data, .data, .data, .widerDeep], laidTests := true, laidLooks := .later }
def FnExactRuleLineCardSaid : Prop := Claim7.holds Tryd.pinned (.plain (OpenSpec.ofChange fnExactRuleLineSpec)) fnExactRuleLineCard

/-- THE TIED CARD OF 'laws.FnExactRulesText'. -/
def fnExactRulesTextCard : Claim7 := { stood := { row := fnExactRulesTextRow, standIns := [], harness := (true, "7405e5b9004a61d15711dc88bc58e1db06fdfb470b8421830b06204959870b35"), looks := true }, kinds := [], alts := [], laidByText := true, laidKinds := [.data, .data, .data, .widerDeep], laidTests := true, laidLooks := .later }
def FnExactRulesTextCardSaid : Prop := Claim7.holds Tryd.pinned (.plain (OpenSpec.ofChange fnExactRulesTextSpec)) fnExactRulesTextCard

/-- THE TIED CARD OF 'laws.FnExactParseRule'. -/
def fnExactParseRuleCard : Claim7 := { stood := { row := fnExactParseRuleRow, standIns := [], harness := (true, "7405e5b9004a61d15711dc88bc58e1db06fdfb470b8421830b06204959870b35"), looks := true }, kinds := [], alts := [], laidByText := true, laidKinds := [.data, .data, .data, .data, .sentinel, .sentinel, .widerDeep, .pinned], laidTests := true, laidLooks := .later }
def FnExactParseRuleCardSaid : Prop := Claim7.holds Tryd.pinned (.plain (OpenSpec.ofChange fnExactParseRuleSpec)) fnExactParseRuleCard

/-- THE TIED CARD OF 'laws.FnExactParseRules'. -/
def fnExactParseRulesCard : Claim7 := { stood := { row := fnExactParseRulesRow, standIns := [], harness := (true, "7405e5b9004a61d15711dc88bc58e1db06fdfb470b8421830b06204959870b35"), looks := true }, kinds := [], alts := [], laidByText := true, laidKinds := [.data, .data, .data, .data, .sentinel, .sentinel, .widerDeep, .pinned], laidTests := true, laidLooks := .later }
def FnExactParseRulesCardSaid : Prop := Claim7.holds Tryd.pinned (.plain (OpenSpec.ofChange fnExactParseRulesSpec)) fnExactParseRulesCard

/-- THE TIED CARD OF 'laws.FnRules'. -/
def fnRulesCard : Claim7 := { stood := { row := fnRulesRow, standIns := [], harness := (true, "7405e5b9004a61d15711dc88bc58e1db06fdfb470b8421830b06204959870b35"), looks := true }, kinds := [], alts := [], laidByText := true, laidKinds := [.data, .data, .data, .data, .sentinel, .sentinel, .widerDeep, .pinned], laidTests := true, laidLooks := .later }
def FnRulesCardSaid : Prop := Claim7.holds Tryd.pinned (.plain (OpenSpec.ofChange fnRulesSpec)) fnRulesCard

/-- THE SECOND FORM's CARD OF 'laws.FnExactRuleLine'. -/
def fnExactRuleLineUptoCard : Claim7 := { stood := { row := fnExactRuleLineUptoRow, standIns := [], harness := (true, "7405e5b9004a61d15711dc88bc58e1db06fdfb470b8421830b06204959870b35"), looks := true }, kinds := [], alts := [], laidByText := true, laidKinds := [.data, .data, .data, .widerDeep], laidTests := true, laidLooks := .later }
def FnExactRuleLineUptoCardSaid : Prop := Claim7.holds Tryd.pinned (.plain (OpenSpec.upto fnExactRuleLineSpec)) fnExactRuleLineUptoCard

/-- THE SECOND FORM's CARD OF 'laws.FnExactRulesText'. -/
def fnExactRulesTextUptoCard : Claim7 := { stood := { row := fnExactRulesTextUptoRow, standIns := [], harness := (true, "7405e5b9004a61d15711dc88bc58e1db06fdfb470b8421830b06204959870b35"), looks := true }, kinds := [], alts := [], laidByText := true, laidKinds := [.data, .data, .data, .widerDeep], laidTests := true, laidLooks := .later }
def FnExactRulesTextUptoCardSaid : Prop := Claim7.holds Tryd.pinned (.plain (OpenSpec.upto fnExactRulesTextSpec)) fnExactRulesTextUptoCard

/-- THE SECOND FORM's CARD OF 'laws.FnExactParseRule'. -/
def fnExactParseRuleUptoCard : Claim7 := { stood := { row := fnExactParseRuleUptoRow, standIns := [], harness := (true, "7405e5b9004a61d15711dc88bc58e1db06fdfb470b8421830b06204959870b35"), looks := true }, kinds := [], alts := [], laidByText := true, laidKinds := [.data, .data, .data, .data, .sentinel, .sentinel, .widerDeep, .pinned], laidTests := true, laidLooks := .later }
def FnExactParseRuleUptoCardSaid : Prop := Claim7.holds Tryd.pinned (.plain (OpenSpec.upto fnExactParseRuleSpec)) fnExactParseRuleUptoCard

/-- THE SECOND FORM's CARD OF 'laws.FnExactParseRules'. -/
def fnExactParseRulesUptoCard : Claim7 := { stood := { row := fnExactParseRulesUptoRow, standIns := [], harness := (true, "7405e5b9004a61d15711dc88bc58e1db06fdfb470b8421830b06204959870b35"), looks := true }, kinds := [], alts := [], laidByText := true, laidKinds := [.data, .data, .data, .data, .sentinel, .sentinel, .widerDeep, .pinned], laidTests := true, laidLooks := .later }
def FnExactParseRulesUptoCardSaid : Prop := Claim7.holds Tryd.pinned (.plain (OpenSpec.upto fnExactParseRulesSpec)) fnExactParseRulesUptoCard

/-- THE SECOND FORM's CARD OF 'laws.FnRules'. -/
def fnRulesUptoCard : Claim7 := { stood := { row := fnRulesUptoRow, standIns := [], harness := (true, "7405e5b9004a61d15711dc88bc58e1db06fdfb470b8421830b06204959870b35"), looks := true }, kinds := [], alts := [], laidByText := true, laidKinds := [.data, .data, .data, .data, .sentinel, .sentinel, .widerDeep, .pinned], laidTests := true, laidLooks := .later }
def FnRulesUptoCardSaid : Prop := Claim7.holds Tryd.pinned (.plain (OpenSpec.upto fnRulesSpec)) fnRulesUptoCard
end Rows
end Go.Proofs.YtfaphackdhdcaaaDoor
