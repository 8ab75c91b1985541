/-
  No cell of these rows narrows 'for every input' (looked for: loops, veiled, ifaces, maps, wideKeys, modest, calm, conditions, laid).
  DERIVED. THE GIVEN ROWS OF THIS SEAT. 3 by the template 'for every input the law returns true; each argument reads behind the call as it read before'; 0 by the template 'total and deterministic' (their statements: YtljbllinlhgklaaTotals.lean).
  GIVEN WITH THE SEED: the statements are not yours to turn. If you find one false, say at which input.
  Laid BY PROGRAM, IN A SANDBOX (cutbox-rows.mjs): the forced cells as the released guide's own fill.sh prints them over the translation e9d84a11d29d652a… (all of the seat's roots in one cut). By AI agents, Wed Nov 11 2026. No macro, syntax, notation, axiom, sorry.
-/
import Derived.Test.YtljbllinlhgklaaChecked
import GoSem.Claim
import GoSem.ClaimJoined
import GoSem.ClaimMapViews
import Derived.JoinedTies
import Derived.KernelRfl
namespace Go.Proofs.Ytljbllinlhgklaa
/- THE CELL 'sum', in the pinned program and in every row, IS THE sha256 OF THE DUMP (.gsa) THAT YtljbllinlhgklaaProg.lean LOADS. Nothing in Lean hashes anything: it is a label: what it is worth is what the hold of that sum in a sandbox is worth. -/
noncomputable def Try.pinned : Pinned := { name := "ytljbllinlhgklaa", sum := "e9d84a11d29d652af50b181312e139a195a1bf7548b7de979ac906d3b8190438", checked := Try.checked }
namespace Rows
def none {H : Type} : Left H := { results := [], args := [] }

/-- 'laws.FnExactChangeRank': WHATEVER THE INPUT: true; the input reads as it did. -/
def fnExactChangeRankSpec : ChangeSpec := { name := "fnExactChangeRank", fn := fun _ => fun
  | [d1, d2, d3] => { results := [.lit (.bool true)], args := [d1, d2, d3] }
  | _ => none }
def fnExactChangeRankRow : OpenClaim := { program := "ytljbllinlhgklaa", sum := "e9d84a11d29d652af50b181312e139a195a1bf7548b7de979ac906d3b8190438", func := "loop.example/g00909/laws.FnExactChangeRank", spec := "fnExactChangeRank", unfollowed := true, recurses := true, apart := false }
def FnExactChangeRankSaid : Prop := fnExactChangeRankRow.holds Try.pinned (OpenSpec.ofChange fnExactChangeRankSpec)

/-- ITS FALSE NEIGHBOUR: 'it returns false'. Refute it at one input. -/
def fnExactChangeRankWrong : ChangeSpec := { name := "fnExactChangeRank", fn := fun _ => fun
  | [d1, d2, d3] => { results := [.lit (.bool false)], args := [d1, d2, d3] }
  | _ => none }
def FnExactChangeRankWrongFalsely : Prop := fnExactChangeRankRow.holds Try.pinned (OpenSpec.ofChange fnExactChangeRankWrong)

/-- 'laws.FnExactAddRule': WHATEVER THE INPUT: true; the input reads as it did. -/
def fnExactAddRuleSpec : ChangeSpec := { name := "fnExactAddRule", fn := fun _ => fun
  | [d1, d2] => { results := [.lit (.bool true)], args := [d1, d2] }
  | _ => none }
def fnExactAddRuleRow : OpenClaim := { program := "ytljbllinlhgklaa", sum := "e9d84a11d29d652af50b181312e139a195a1bf7548b7de979ac906d3b8190438", func := "loop.example/g00909/laws.FnExactAddRule", spec := "fnExactAddRule", inPlace := ["slices.overlaps[loop.example/g00909/impl.Rule]"], unfollowed := true, recurses := true, apart := false }
def FnExactAddRuleSaid : Prop := fnExactAddRuleRow.holds Try.pinned (OpenSpec.ofChange fnExactAddRuleSpec)

/-- ITS FALSE NEIGHBOUR: 'it returns false'. Refute it at one input. -/
def fnExactAddRuleWrong : ChangeSpec := { name := "fnExactAddRule", fn := fun _ => fun
  | [d1, d2] => { results := [.lit (.bool false)], args := [d1, d2] }
  | _ => none }
def FnExactAddRuleWrongFalsely : Prop := fnExactAddRuleRow.holds Try.pinned (OpenSpec.ofChange fnExactAddRuleWrong)

/-- 'laws.FnExactRulesAbove': WHATEVER THE INPUT: true; the input reads as it did. -/
def fnExactRulesAboveSpec : ChangeSpec := { name := "fnExactRulesAbove", fn := fun _ => fun
  | [d1, d2] => { results := [.lit (.bool true)], args := [d1, d2] }
  | _ => none }
def fnExactRulesAboveRow : OpenClaim := { program := "ytljbllinlhgklaa", sum := "e9d84a11d29d652af50b181312e139a195a1bf7548b7de979ac906d3b8190438", func := "loop.example/g00909/laws.FnExactRulesAbove", spec := "fnExactRulesAbove", unfollowed := true, recurses := true, apart := false }
def FnExactRulesAboveSaid : Prop := fnExactRulesAboveRow.holds Try.pinned (OpenSpec.ofChange fnExactRulesAboveSpec)

/-- ITS FALSE NEIGHBOUR: 'it returns false'. Refute it at one input. -/
def fnExactRulesAboveWrong : ChangeSpec := { name := "fnExactRulesAbove", fn := fun _ => fun
  | [d1, d2] => { results := [.lit (.bool false)], args := [d1, d2] }
  | _ => none }
def FnExactRulesAboveWrongFalsely : Prop := fnExactRulesAboveRow.holds Try.pinned (OpenSpec.ofChange fnExactRulesAboveWrong)

/- THE SECOND FORM. 'bulk': how many values and letters a reading holds, each counted each time it is reached (what is shared counts as often as it is met; a slice's spare places count too). A statement '..UptoSaid' is the law's where the arguments, and the package variables that the reading takes, are together of bulk at most 1048576: NARROWER than '..Said'. Prove '..Said' where nothing that the law and all that it calls make is longer than what came in: it says more and counts as full. Else prove '..UptoSaid'. A law counts once. -/
mutual
def uptoBulk {H : Type} : DataW H → Nat
  | .lit (.string bytes) => bytes.length + 1
  | .lit _ => 1
  | .nil => 1
  | .ptr d => uptoBulk d + 1
  | .slice elems spare => uptoBulkAll elems + uptoBulkAll spare + 1
  | .agg parts => uptoBulkAll parts + 1
  | .iface _ d => uptoBulk d + 1
  | .map entries => uptoBulkEntries entries + 1
  | .held _ => 1
def uptoBulkAll {H : Type} : List (DataW H) → Nat
  | [] => 0
  | d :: r => uptoBulk d + uptoBulkAll r
def uptoBulkEntries {H : Type} : List (Lit × DataW H) → Nat
  | [] => 0
  | x :: r => uptoBulkEntry x + uptoBulkEntries r
def uptoBulkEntry {H : Type} : Lit × DataW H → Nat
  | (.string bytes, d) => bytes.length + uptoBulk d + 1
  | (_, d) => uptoBulk d + 1
 end
def uptoSmall : (H : Type) → List (DataW H) → Bool := fun _ ds => decide (uptoBulkAll ds ≤ 1048576)
def OpenSpec.upto (s : _root_.Go.ChangeSpec) : _root_.Go.OpenSpec := { _root_.Go.OpenSpec.ofChange s with cond := some uptoSmall }

/-- 'laws.FnExactChangeRank', WHERE WHAT IT READS IS OF BULK AT MOST 1048576: true; the input reads as it did. -/
def fnExactChangeRankUptoRow : OpenClaim := { program := "ytljbllinlhgklaa", sum := "e9d84a11d29d652af50b181312e139a195a1bf7548b7de979ac906d3b8190438", func := "loop.example/g00909/laws.FnExactChangeRank", spec := "fnExactChangeRank", unfollowed := true, recurses := true, apart := false, narrowed := true }
def FnExactChangeRankUptoSaid : Prop := fnExactChangeRankUptoRow.holds Try.pinned (OpenSpec.upto fnExactChangeRankSpec)

/-- 'laws.FnExactAddRule', WHERE WHAT IT READS IS OF BULK AT MOST 1048576: true; the input reads as it did. -/
def fnExactAddRuleUptoRow : OpenClaim := { program := "ytljbllinlhgklaa", sum := "e9d84a11d29d652af50b181312e139a195a1bf7548b7de979ac906d3b8190438", func := "loop.example/g00909/laws.FnExactAddRule", spec := "fnExactAddRule", inPlace := ["slices.overlaps[loop.example/g00909/impl.Rule]"], unfollowed := true, recurses := true, apart := false, narrowed := true }
def FnExactAddRuleUptoSaid : Prop := fnExactAddRuleUptoRow.holds Try.pinned (OpenSpec.upto fnExactAddRuleSpec)

/-- 'laws.FnExactRulesAbove', WHERE WHAT IT READS IS OF BULK AT MOST 1048576: true; the input reads as it did. -/
def fnExactRulesAboveUptoRow : OpenClaim := { program := "ytljbllinlhgklaa", sum := "e9d84a11d29d652af50b181312e139a195a1bf7548b7de979ac906d3b8190438", func := "loop.example/g00909/laws.FnExactRulesAbove", spec := "fnExactRulesAbove", unfollowed := true, recurses := true, apart := false, narrowed := true }
def FnExactRulesAboveUptoSaid : Prop := fnExactRulesAboveUptoRow.holds Try.pinned (OpenSpec.upto fnExactRulesAboveSpec)

end Rows
end Go.Proofs.Ytljbllinlhgklaa
