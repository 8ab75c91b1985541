/-
  No cell of these rows narrows 'for every input' (looked for: loops, veiled, ifaces, maps, wideKeys, modest, calm, conditions, laid).
  DERIVED. THE GIVEN ROWS OF THIS SEAT. 11 by the template 'for every input the law returns true; each argument reads behind the call as it read before'; 0 by the template 'total and deterministic' (their statements: YtdbcbaahjhaonaaTotals.lean).
  GIVEN WITH THE SEED: the statements are not yours to turn. If you find one false, say at which input.
  Laid BY PROGRAM, IN A SANDBOX (cutbox-rows.mjs): the forced cells as the released guide's own fill.sh prints them over the translation 46d8600f8fc7d514… (all of the seat's roots in one cut). By AI agents, Wed Nov 11 2026. No macro, syntax, notation, axiom, sorry.
-/
import Derived.Test.YtdbcbaahjhaonaaChecked
import GoSem.Claim
import GoSem.ClaimJoined
import GoSem.ClaimMapViews
import Derived.JoinedTies
import Derived.KernelRfl
namespace Go.Proofs.Ytdbcbaahjhaonaa
/- THE CELL 'sum', in the pinned program and in every row, IS THE sha256 OF THE DUMP (.gsa) THAT YtdbcbaahjhaonaaProg.lean LOADS. Nothing in Lean hashes anything: it is a label: what it is worth is what the hold of that sum in a sandbox is worth. -/
noncomputable def Try.pinned : Pinned := { name := "ytdbcbaahjhaonaa", sum := "46d8600f8fc7d514b5f0e9593078433a2697b0bbbfbeecbb8d5fd80171445467", checked := Try.checked }
namespace Rows
def none {H : Type} : Left H := { results := [], args := [] }

/-- 'laws.FnExactIsValidPrecedence': WHATEVER THE INPUT: true; the input reads as it did. -/
def fnExactIsValidPrecedenceSpec : ChangeSpec := { name := "fnExactIsValidPrecedence", fn := fun _ => fun
  | [d] => { results := [.lit (.bool true)], args := [d] }
  | _ => none }
def fnExactIsValidPrecedenceRow : OpenClaim := { program := "ytdbcbaahjhaonaa", sum := "46d8600f8fc7d514b5f0e9593078433a2697b0bbbfbeecbb8d5fd80171445467", func := "loop.example/g00909/laws.FnExactIsValidPrecedence", spec := "fnExactIsValidPrecedence", apart := false }
def FnExactIsValidPrecedenceSaid : Prop := fnExactIsValidPrecedenceRow.holds Try.pinned (OpenSpec.ofChange fnExactIsValidPrecedenceSpec)

/-- ITS FALSE NEIGHBOUR: 'it returns false'. Refute it at one input. -/
def fnExactIsValidPrecedenceWrong : ChangeSpec := { name := "fnExactIsValidPrecedence", fn := fun _ => fun
  | [d] => { results := [.lit (.bool false)], args := [d] }
  | _ => none }
def FnExactIsValidPrecedenceWrongFalsely : Prop := fnExactIsValidPrecedenceRow.holds Try.pinned (OpenSpec.ofChange fnExactIsValidPrecedenceWrong)

/-- 'laws.FnExactIsSound': WHATEVER THE INPUT: true; the input reads as it did. -/
def fnExactIsSoundSpec : ChangeSpec := { name := "fnExactIsSound", fn := fun _ => fun
  | [d] => { results := [.lit (.bool true)], args := [d] }
  | _ => none }
def fnExactIsSoundRow : OpenClaim := { program := "ytdbcbaahjhaonaa", sum := "46d8600f8fc7d514b5f0e9593078433a2697b0bbbfbeecbb8d5fd80171445467", func := "loop.example/g00909/laws.FnExactIsSound", spec := "fnExactIsSound", apart := false }
def FnExactIsSoundSaid : Prop := fnExactIsSoundRow.holds Try.pinned (OpenSpec.ofChange fnExactIsSoundSpec)

/-- ITS FALSE NEIGHBOUR: 'it returns false'. Refute it at one input. -/
def fnExactIsSoundWrong : ChangeSpec := { name := "fnExactIsSound", fn := fun _ => fun
  | [d] => { results := [.lit (.bool false)], args := [d] }
  | _ => none }
def FnExactIsSoundWrongFalsely : Prop := fnExactIsSoundRow.holds Try.pinned (OpenSpec.ofChange fnExactIsSoundWrong)

/-- 'laws.FnExactYieldsTo': WHATEVER THE INPUT: true; the input reads as it did. -/
def fnExactYieldsToSpec : ChangeSpec := { name := "fnExactYieldsTo", fn := fun _ => fun
  | [d1, d2] => { results := [.lit (.bool true)], args := [d1, d2] }
  | _ => none }
def fnExactYieldsToRow : OpenClaim := { program := "ytdbcbaahjhaonaa", sum := "46d8600f8fc7d514b5f0e9593078433a2697b0bbbfbeecbb8d5fd80171445467", func := "loop.example/g00909/laws.FnExactYieldsTo", spec := "fnExactYieldsTo", apart := false }
def FnExactYieldsToSaid : Prop := fnExactYieldsToRow.holds Try.pinned (OpenSpec.ofChange fnExactYieldsToSpec)

/-- ITS FALSE NEIGHBOUR: 'it returns false'. Refute it at one input. -/
def fnExactYieldsToWrong : ChangeSpec := { name := "fnExactYieldsTo", fn := fun _ => fun
  | [d1, d2] => { results := [.lit (.bool false)], args := [d1, d2] }
  | _ => none }
def FnExactYieldsToWrongFalsely : Prop := fnExactYieldsToRow.holds Try.pinned (OpenSpec.ofChange fnExactYieldsToWrong)

/-- 'laws.FnExactBlockedKinds': WHATEVER THE INPUT: true; the input reads as it did. -/
def fnExactBlockedKindsSpec : ChangeSpec := { name := "fnExactBlockedKinds", fn := fun _ => fun
  | [d1, d2] => { results := [.lit (.bool true)], args := [d1, d2] }
  | _ => none }
def fnExactBlockedKindsRow : OpenClaim := { program := "ytdbcbaahjhaonaa", sum := "46d8600f8fc7d514b5f0e9593078433a2697b0bbbfbeecbb8d5fd80171445467", func := "loop.example/g00909/laws.FnExactBlockedKinds", spec := "fnExactBlockedKinds", apart := false }
def FnExactBlockedKindsSaid : Prop := fnExactBlockedKindsRow.holds Try.pinned (OpenSpec.ofChange fnExactBlockedKindsSpec)

/-- ITS FALSE NEIGHBOUR: 'it returns false'. Refute it at one input. -/
def fnExactBlockedKindsWrong : ChangeSpec := { name := "fnExactBlockedKinds", fn := fun _ => fun
  | [d1, d2] => { results := [.lit (.bool false)], args := [d1, d2] }
  | _ => none }
def FnExactBlockedKindsWrongFalsely : Prop := fnExactBlockedKindsRow.holds Try.pinned (OpenSpec.ofChange fnExactBlockedKindsWrong)

/-- 'laws.FnExactNeedlessPairs': WHATEVER THE INPUT: true; the input reads as it did. -/
def fnExactNeedlessPairsSpec : ChangeSpec := { name := "fnExactNeedlessPairs", fn := fun _ => fun
  | [d] => { results := [.lit (.bool true)], args := [d] }
  | _ => none }
def fnExactNeedlessPairsRow : OpenClaim := { program := "ytdbcbaahjhaonaa", sum := "46d8600f8fc7d514b5f0e9593078433a2697b0bbbfbeecbb8d5fd80171445467", func := "loop.example/g00909/laws.FnExactNeedlessPairs", spec := "fnExactNeedlessPairs", apart := false }
def FnExactNeedlessPairsSaid : Prop := fnExactNeedlessPairsRow.holds Try.pinned (OpenSpec.ofChange fnExactNeedlessPairsSpec)

/-- ITS FALSE NEIGHBOUR: 'it returns false'. Refute it at one input. -/
def fnExactNeedlessPairsWrong : ChangeSpec := { name := "fnExactNeedlessPairs", fn := fun _ => fun
  | [d] => { results := [.lit (.bool false)], args := [d] }
  | _ => none }
def FnExactNeedlessPairsWrongFalsely : Prop := fnExactNeedlessPairsRow.holds Try.pinned (OpenSpec.ofChange fnExactNeedlessPairsWrong)

/-- 'laws.FnExactShortestCycle': WHATEVER THE INPUT: true; the input reads as it did. -/
def fnExactShortestCycleSpec : ChangeSpec := { name := "fnExactShortestCycle", fn := fun _ => fun
  | [d] => { results := [.lit (.bool true)], args := [d] }
  | _ => none }
def fnExactShortestCycleRow : OpenClaim := { program := "ytdbcbaahjhaonaa", sum := "46d8600f8fc7d514b5f0e9593078433a2697b0bbbfbeecbb8d5fd80171445467", func := "loop.example/g00909/laws.FnExactShortestCycle", spec := "fnExactShortestCycle", unfollowed := true, recurses := true, apart := false }
def FnExactShortestCycleSaid : Prop := fnExactShortestCycleRow.holds Try.pinned (OpenSpec.ofChange fnExactShortestCycleSpec)

/-- ITS FALSE NEIGHBOUR: 'it returns false'. Refute it at one input. -/
def fnExactShortestCycleWrong : ChangeSpec := { name := "fnExactShortestCycle", fn := fun _ => fun
  | [d] => { results := [.lit (.bool false)], args := [d] }
  | _ => none }
def FnExactShortestCycleWrongFalsely : Prop := fnExactShortestCycleRow.holds Try.pinned (OpenSpec.ofChange fnExactShortestCycleWrong)

/-- 'laws.FnExactRanksOf': WHATEVER THE INPUT: true; the input reads as it did. -/
def fnExactRanksOfSpec : ChangeSpec := { name := "fnExactRanksOf", fn := fun _ => fun
  | [d] => { results := [.lit (.bool true)], args := [d] }
  | _ => none }
def fnExactRanksOfRow : OpenClaim := { program := "ytdbcbaahjhaonaa", sum := "46d8600f8fc7d514b5f0e9593078433a2697b0bbbfbeecbb8d5fd80171445467", func := "loop.example/g00909/laws.FnExactRanksOf", spec := "fnExactRanksOf", recurses := true, apart := false }
def FnExactRanksOfSaid : Prop := fnExactRanksOfRow.holds Try.pinned (OpenSpec.ofChange fnExactRanksOfSpec)

/-- ITS FALSE NEIGHBOUR: 'it returns false'. Refute it at one input. -/
def fnExactRanksOfWrong : ChangeSpec := { name := "fnExactRanksOf", fn := fun _ => fun
  | [d] => { results := [.lit (.bool false)], args := [d] }
  | _ => none }
def FnExactRanksOfWrongFalsely : Prop := fnExactRanksOfRow.holds Try.pinned (OpenSpec.ofChange fnExactRanksOfWrong)

/-- 'laws.FnExactOrderKinds': WHATEVER THE INPUT: true; the input reads as it did. -/
def fnExactOrderKindsSpec : ChangeSpec := { name := "fnExactOrderKinds", fn := fun _ => fun
  | [d] => { results := [.lit (.bool true)], args := [d] }
  | _ => none }
def fnExactOrderKindsRow : OpenClaim := { program := "ytdbcbaahjhaonaa", sum := "46d8600f8fc7d514b5f0e9593078433a2697b0bbbfbeecbb8d5fd80171445467", func := "loop.example/g00909/laws.FnExactOrderKinds", spec := "fnExactOrderKinds", unfollowed := true, recurses := true, apart := false }
def FnExactOrderKindsSaid : Prop := fnExactOrderKindsRow.holds Try.pinned (OpenSpec.ofChange fnExactOrderKindsSpec)

/-- ITS FALSE NEIGHBOUR: 'it returns false'. Refute it at one input. -/
def fnExactOrderKindsWrong : ChangeSpec := { name := "fnExactOrderKinds", fn := fun _ => fun
  | [d] => { results := [.lit (.bool false)], args := [d] }
  | _ => none }
def FnExactOrderKindsWrongFalsely : Prop := fnExactOrderKindsRow.holds Try.pinned (OpenSpec.ofChange fnExactOrderKindsWrong)

/-- 'laws.FnExactAddPair': WHATEVER THE INPUT: true; the input reads as it did. -/
def fnExactAddPairSpec : ChangeSpec := { name := "fnExactAddPair", fn := fun _ => fun
  | [d1, d2, d3] => { results := [.lit (.bool true)], args := [d1, d2, d3] }
  | _ => none }
def fnExactAddPairRow : OpenClaim := { program := "ytdbcbaahjhaonaa", sum := "46d8600f8fc7d514b5f0e9593078433a2697b0bbbfbeecbb8d5fd80171445467", func := "loop.example/g00909/laws.FnExactAddPair", spec := "fnExactAddPair", inPlace := ["slices.overlaps[[2]int]"], apart := false }
def FnExactAddPairSaid : Prop := fnExactAddPairRow.holds Try.pinned (OpenSpec.ofChange fnExactAddPairSpec)

/-- ITS FALSE NEIGHBOUR: 'it returns false'. Refute it at one input. -/
def fnExactAddPairWrong : ChangeSpec := { name := "fnExactAddPair", fn := fun _ => fun
  | [d1, d2, d3] => { results := [.lit (.bool false)], args := [d1, d2, d3] }
  | _ => none }
def FnExactAddPairWrongFalsely : Prop := fnExactAddPairRow.holds Try.pinned (OpenSpec.ofChange fnExactAddPairWrong)

/-- 'laws.FnPrecedence': WHATEVER THE INPUT: true; the input reads as it did. -/
def fnPrecedenceSpec : ChangeSpec := { name := "fnPrecedence", fn := fun _ => fun
  | [d] => { results := [.lit (.bool true)], args := [d] }
  | _ => none }
def fnPrecedenceRow : OpenClaim := { program := "ytdbcbaahjhaonaa", sum := "46d8600f8fc7d514b5f0e9593078433a2697b0bbbfbeecbb8d5fd80171445467", func := "loop.example/g00909/laws.FnPrecedence", spec := "fnPrecedence", unfollowed := true, recurses := true, apart := false }
def FnPrecedenceSaid : Prop := fnPrecedenceRow.holds Try.pinned (OpenSpec.ofChange fnPrecedenceSpec)

/-- ITS FALSE NEIGHBOUR: 'it returns false'. Refute it at one input. -/
def fnPrecedenceWrong : ChangeSpec := { name := "fnPrecedence", fn := fun _ => fun
  | [d] => { results := [.lit (.bool false)], args := [d] }
  | _ => none }
def FnPrecedenceWrongFalsely : Prop := fnPrecedenceRow.holds Try.pinned (OpenSpec.ofChange fnPrecedenceWrong)

/-- 'laws.FnPairs': WHATEVER THE INPUT: true; the input reads as it did. -/
def fnPairsSpec : ChangeSpec := { name := "fnPairs", fn := fun _ => fun
  | [d] => { results := [.lit (.bool true)], args := [d] }
  | _ => none }
def fnPairsRow : OpenClaim := { program := "ytdbcbaahjhaonaa", sum := "46d8600f8fc7d514b5f0e9593078433a2697b0bbbfbeecbb8d5fd80171445467", func := "loop.example/g00909/laws.FnPairs", spec := "fnPairs", inPlace := ["slices.overlaps[[2]int]"], apart := false }
def FnPairsSaid : Prop := fnPairsRow.holds Try.pinned (OpenSpec.ofChange fnPairsSpec)

/-- ITS FALSE NEIGHBOUR: 'it returns false'. Refute it at one input. -/
def fnPairsWrong : ChangeSpec := { name := "fnPairs", fn := fun _ => fun
  | [d] => { results := [.lit (.bool false)], args := [d] }
  | _ => none }
def FnPairsWrongFalsely : Prop := fnPairsRow.holds Try.pinned (OpenSpec.ofChange fnPairsWrong)

/- THE SECOND FORM. 'bulk': how many values and letters a reading holds, each counted each time it is reached (what is shared counts as often as it is met; a slice's spare places count too). A statement '..UptoSaid' is the law's where the arguments, and the package variables that the reading takes, are together of bulk at most 1048576: NARROWER than '..Said'. Prove '..Said' where nothing that the law and all that it calls make is longer than what came in: it says more and counts as full. Else prove '..UptoSaid'. A law counts once. -/
mutual
def uptoBulk {H : Type} : DataW H → Nat
  | .lit (.string bytes) => bytes.length + 1
  | .lit _ => 1
  | .nil => 1
  | .ptr d => uptoBulk d + 1
  | .slice elems spare => uptoBulkAll elems + uptoBulkAll spare + 1
  | .agg parts => uptoBulkAll parts + 1
  | .iface _ d => uptoBulk d + 1
  | .map entries => uptoBulkEntries entries + 1
  | .held _ => 1
def uptoBulkAll {H : Type} : List (DataW H) → Nat
  | [] => 0
  | d :: r => uptoBulk d + uptoBulkAll r
def uptoBulkEntries {H : Type} : List (Lit × DataW H) → Nat
  | [] => 0
  | x :: r => uptoBulkEntry x + uptoBulkEntries r
def uptoBulkEntry {H : Type} : Lit × DataW H → Nat
  | (.string bytes, d) => bytes.length + uptoBulk d + 1
  | (_, d) => uptoBulk d + 1
 end
def uptoSmall : (H : Type) → List (DataW H) → Bool := fun _ ds => decide (uptoBulkAll ds ≤ 1048576)
def OpenSpec.upto (s : _root_.Go.ChangeSpec) : _root_.Go.OpenSpec := { _root_.Go.OpenSpec.ofChange s with cond := some uptoSmall }

/-- 'laws.FnExactIsValidPrecedence', WHERE WHAT IT READS IS OF BULK AT MOST 1048576: true; the input reads as it did. -/
def fnExactIsValidPrecedenceUptoRow : OpenClaim := { program := "ytdbcbaahjhaonaa", sum := "46d8600f8fc7d514b5f0e9593078433a2697b0bbbfbeecbb8d5fd80171445467", func := "loop.example/g00909/laws.FnExactIsValidPrecedence", spec := "fnExactIsValidPrecedence", apart := false, narrowed := true }
def FnExactIsValidPrecedenceUptoSaid : Prop := fnExactIsValidPrecedenceUptoRow.holds Try.pinned (OpenSpec.upto fnExactIsValidPrecedenceSpec)

/-- 'laws.FnExactIsSound', WHERE WHAT IT READS IS OF BULK AT MOST 1048576: true; the input reads as it did. -/
def fnExactIsSoundUptoRow : OpenClaim := { program := "ytdbcbaahjhaonaa", sum := "46d8600f8fc7d514b5f0e9593078433a2697b0bbbfbeecbb8d5fd80171445467", func := "loop.example/g00909/laws.FnExactIsSound", spec := "fnExactIsSound", apart := false, narrowed := true }
def FnExactIsSoundUptoSaid : Prop := fnExactIsSoundUptoRow.holds Try.pinned (OpenSpec.upto fnExactIsSoundSpec)

/-- 'laws.FnExactYieldsTo', WHERE WHAT IT READS IS OF BULK AT MOST 1048576: true; the input reads as it did. -/
def fnExactYieldsToUptoRow : OpenClaim := { program := "ytdbcbaahjhaonaa", sum := "46d8600f8fc7d514b5f0e9593078433a2697b0bbbfbeecbb8d5fd80171445467", func := "loop.example/g00909/laws.FnExactYieldsTo", spec := "fnExactYieldsTo", apart := false, narrowed := true }
def FnExactYieldsToUptoSaid : Prop := fnExactYieldsToUptoRow.holds Try.pinned (OpenSpec.upto fnExactYieldsToSpec)

/-- 'laws.FnExactBlockedKinds', WHERE WHAT IT READS IS OF BULK AT MOST 1048576: true; the input reads as it did. -/
def fnExactBlockedKindsUptoRow : OpenClaim := { program := "ytdbcbaahjhaonaa", sum := "46d8600f8fc7d514b5f0e9593078433a2697b0bbbfbeecbb8d5fd80171445467", func := "loop.example/g00909/laws.FnExactBlockedKinds", spec := "fnExactBlockedKinds", apart := false, narrowed := true }
def FnExactBlockedKindsUptoSaid : Prop := fnExactBlockedKindsUptoRow.holds Try.pinned (OpenSpec.upto fnExactBlockedKindsSpec)

/-- 'laws.FnExactNeedlessPairs', WHERE WHAT IT READS IS OF BULK AT MOST 1048576: true; the input reads as it did. -/
def fnExactNeedlessPairsUptoRow : OpenClaim := { program := "ytdbcbaahjhaonaa", sum := "46d8600f8fc7d514b5f0e9593078433a2697b0bbbfbeecbb8d5fd80171445467", func := "loop.example/g00909/laws.FnExactNeedlessPairs", spec := "fnExactNeedlessPairs", apart := false, narrowed := true }
def FnExactNeedlessPairsUptoSaid : Prop := fnExactNeedlessPairsUptoRow.holds Try.pinned (OpenSpec.upto fnExactNeedlessPairsSpec)

/-- 'laws.FnExactShortestCycle', WHERE WHAT IT READS IS OF BULK AT MOST 1048576: true; the input reads as it did. -/
def fnExactShortestCycleUptoRow : OpenClaim := { program := "ytdbcbaahjhaonaa", sum := "46d8600f8fc7d514b5f0e9593078433a2697b0bbbfbeecbb8d5fd80171445467", func := "loop.example/g00909/laws.FnExactShortestCycle", spec := "fnExactShortestCycle", unfollowed := true, recurses := true, apart := false, narrowed := true }
def FnExactShortestCycleUptoSaid : Prop := fnExactShortestCycleUptoRow.holds Try.pinned (OpenSpec.upto fnExactShortestCycleSpec)

/-- 'laws.FnExactRanksOf', WHERE WHAT IT READS IS OF BULK AT MOST 1048576: true; the input reads as it did. -/
def fnExactRanksOfUptoRow : OpenClaim := { program := "ytdbcbaahjhaonaa", sum := "46d8600f8fc7d514b5f0e9593078433a2697b0bbbfbeecbb8d5fd80171445467", func := "loop.example/g00909/laws.FnExactRanksOf", spec := "fnExactRanksOf", recurses := true, apart := false, narrowed := true }
def FnExactRanksOfUptoSaid : Prop := fnExactRanksOfUptoRow.holds Try.pinned (OpenSpec.upto fnExactRanksOfSpec)

/-- 'laws.FnExactOrderKinds', WHERE WHAT IT READS IS OF BULK AT MOST 1048576: true; the input reads as it did. -/
def fnExactOrderKindsUptoRow : OpenClaim := { program := "ytdbcbaahjhaonaa", sum := "46d8600f8fc7d514b5f0e9593078433a2697b0bbbfbeecbb8d5fd80171445467", func := "loop.example/g00909/laws.FnExactOrderKinds", spec := "fnExactOrderKinds", unfollowed := true, recurses := true, apart := false, narrowed := true }
def FnExactOrderKindsUptoSaid : Prop := fnExactOrderKindsUptoRow.holds Try.pinned (OpenSpec.upto fnExactOrderKindsSpec)

/-- 'laws.FnExactAddPair', WHERE WHAT IT READS IS OF BULK AT MOST 1048576: true; the input reads as it did. -/
def fnExactAddPairUptoRow : OpenClaim := { program := "ytdbcbaahjhaonaa", sum := "46d8600f8fc7d514b5f0e9593078433a2697b0bbbfbeecbb8d5fd80171445467", func := "loop.example/g00909/laws.FnExactAddPair", spec := "fnExactAddPair", inPlace := ["slices.overlaps[[2]int]"], apart := false, narrowed := true }
def FnExactAddPairUptoSaid : Prop := fnExactAddPairUptoRow.holds Try.pinned (OpenSpec.upto fnExactAddPairSpec)

/-- 'laws.FnPrecedence', WHERE WHAT IT READS IS OF BULK AT MOST 1048576: true; the input reads as it did. -/
def fnPrecedenceUptoRow : OpenClaim := { program := "ytdbcbaahjhaonaa", sum := "46d8600f8fc7d514b5f0e9593078433a2697b0bbbfbeecbb8d5fd80171445467", func := "loop.example/g00909/laws.FnPrecedence", spec := "fnPrecedence", unfollowed := true, recurses := true, apart := false, narrowed := true }
def FnPrecedenceUptoSaid : Prop := fnPrecedenceUptoRow.holds Try.pinned (OpenSpec.upto fnPrecedenceSpec)

/-- 'laws.FnPairs', WHERE WHAT IT READS IS OF BULK AT MOST 1048576: true; the input reads as it did. -/
def fnPairsUptoRow : OpenClaim := { program := "ytdbcbaahjhaonaa", sum := "46d8600f8fc7d514b5f0e9593078433a2697b0bbbfbeecbb8d5fd80171445467", func := "loop.example/g00909/laws.FnPairs", spec := "fnPairs", inPlace := ["slices.overlaps[[2]int]"], apart := false, narrowed := true }
def FnPairsUptoSaid : Prop := fnPairsUptoRow.holds Try.pinned (OpenSpec.upto fnPairsSpec)

end Rows
end Go.Proofs.Ytdbcbaahjhaonaa
