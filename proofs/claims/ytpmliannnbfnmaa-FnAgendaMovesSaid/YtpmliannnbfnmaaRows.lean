/-
  No cell of these rows narrows 'for every input' (looked for: loops, veiled, ifaces, maps, wideKeys, modest, calm, conditions, laid).
  DERIVED. THE GIVEN ROWS OF THIS SEAT. 3 by the template 'for every input the law returns true; each argument reads behind the call as it read before'; 0 by the template 'total and deterministic' (their statements: YtpmliannnbfnmaaTotals.lean).
  GIVEN WITH THE SEED: the statements are not yours to turn. If you find one false, say at which input.
  Laid BY PROGRAM, IN A SANDBOX (cutbox-rows.mjs): the forced cells as the released guide's own fill.sh prints them over the translation b0e2988886e94e40… (all of the seat's roots in one cut). By AI agents, Wed Nov 11 2026. No macro, syntax, notation, axiom, sorry.
-/
import Derived.Test.YtpmliannnbfnmaaChecked
import GoSem.Claim
import GoSem.ClaimJoined
import GoSem.ClaimMapViews
import Derived.JoinedTies
import Derived.KernelRfl
namespace Go.Proofs.Ytpmliannnbfnmaa
/- THE CELL 'sum', in the pinned program and in every row, IS THE sha256 OF THE DUMP (.gsa) THAT YtpmliannnbfnmaaProg.lean LOADS. Nothing in Lean hashes anything: it is a label: what it is worth is what the hold of that sum in a sandbox is worth. -/
noncomputable def Try.pinned : Pinned := { name := "ytpmliannnbfnmaa", sum := "b0e2988886e94e40bbea272c8e1f6260b10e62f270549543ad8524bafd1241a5", checked := Try.checked }
namespace Rows
def none {H : Type} : Left H := { results := [], args := [] }

/-- 'laws.FnExactMoveItem': WHATEVER THE INPUT: true; the input reads as it did. -/
def fnExactMoveItemSpec : ChangeSpec := { name := "fnExactMoveItem", fn := fun _ => fun
  | [d1, d2, d3] => { results := [.lit (.bool true)], args := [d1, d2, d3] }
  | _ => none }
def fnExactMoveItemRow : OpenClaim := { program := "ytpmliannnbfnmaa", sum := "b0e2988886e94e40bbea272c8e1f6260b10e62f270549543ad8524bafd1241a5", func := "loop.example/g00909/laws.FnExactMoveItem", spec := "fnExactMoveItem", inPlace := ["slices.overlaps[loop.example/g00909/impl.AgendaItem]"], unfollowed := true, recurses := true, apart := false }
def FnExactMoveItemSaid : Prop := fnExactMoveItemRow.holds Try.pinned (OpenSpec.ofChange fnExactMoveItemSpec)

/-- ITS FALSE NEIGHBOUR: 'it returns false'. Refute it at one input. -/
def fnExactMoveItemWrong : ChangeSpec := { name := "fnExactMoveItem", fn := fun _ => fun
  | [d1, d2, d3] => { results := [.lit (.bool false)], args := [d1, d2, d3] }
  | _ => none }
def FnExactMoveItemWrongFalsely : Prop := fnExactMoveItemRow.holds Try.pinned (OpenSpec.ofChange fnExactMoveItemWrong)

/-- 'laws.FnExactOrderItems': WHATEVER THE INPUT: true; the input reads as it did. -/
def fnExactOrderItemsSpec : ChangeSpec := { name := "fnExactOrderItems", fn := fun _ => fun
  | [d] => { results := [.lit (.bool true)], args := [d] }
  | _ => none }
def fnExactOrderItemsRow : OpenClaim := { program := "ytpmliannnbfnmaa", sum := "b0e2988886e94e40bbea272c8e1f6260b10e62f270549543ad8524bafd1241a5", func := "loop.example/g00909/laws.FnExactOrderItems", spec := "fnExactOrderItems", unfollowed := true, recurses := true, apart := false }
def FnExactOrderItemsSaid : Prop := fnExactOrderItemsRow.holds Try.pinned (OpenSpec.ofChange fnExactOrderItemsSpec)

/-- ITS FALSE NEIGHBOUR: 'it returns false'. Refute it at one input. -/
def fnExactOrderItemsWrong : ChangeSpec := { name := "fnExactOrderItems", fn := fun _ => fun
  | [d] => { results := [.lit (.bool false)], args := [d] }
  | _ => none }
def FnExactOrderItemsWrongFalsely : Prop := fnExactOrderItemsRow.holds Try.pinned (OpenSpec.ofChange fnExactOrderItemsWrong)

/-- 'laws.FnAgendaMoves': WHATEVER THE INPUT: true; the input reads as it did. -/
def fnAgendaMovesSpec : ChangeSpec := { name := "fnAgendaMoves", fn := fun _ => fun
  | [d] => { results := [.lit (.bool true)], args := [d] }
  | _ => none }
def fnAgendaMovesRow : OpenClaim := { program := "ytpmliannnbfnmaa", sum := "b0e2988886e94e40bbea272c8e1f6260b10e62f270549543ad8524bafd1241a5", func := "loop.example/g00909/laws.FnAgendaMoves", spec := "fnAgendaMoves", inPlace := ["slices.overlaps[loop.example/g00909/impl.AgendaItem]"], unfollowed := true, recurses := true, apart := false }
def FnAgendaMovesSaid : Prop := fnAgendaMovesRow.holds Try.pinned (OpenSpec.ofChange fnAgendaMovesSpec)

/-- ITS FALSE NEIGHBOUR: 'it returns false'. Refute it at one input. -/
def fnAgendaMovesWrong : ChangeSpec := { name := "fnAgendaMoves", fn := fun _ => fun
  | [d] => { results := [.lit (.bool false)], args := [d] }
  | _ => none }
def FnAgendaMovesWrongFalsely : Prop := fnAgendaMovesRow.holds Try.pinned (OpenSpec.ofChange fnAgendaMovesWrong)

/- THE SECOND FORM. 'bulk': how many values and letters a reading holds, each counted each time it is reached (what is shared counts as often as it is met; a slice's spare places count too). A statement '..UptoSaid' is the law's where the arguments, and the package variables that the reading takes, are together of bulk at most 1048576: NARROWER than '..Said'. Prove '..Said' where nothing that the law and all that it calls make is longer than what came in: it says more and counts as full. Else prove '..UptoSaid'. A law counts once. -/
mutual
def uptoBulk {H : Type} : DataW H → Nat
  | .lit (.string bytes) => bytes.length + 1
  | .lit _ => 1
  | .nil => 1
  | .ptr d => uptoBulk d + 1
  | .slice elems spare => uptoBulkAll elems + uptoBulkAll spare + 1
  | .agg parts => uptoBulkAll parts + 1
  | .iface _ d => uptoBulk d + 1
  | .map entries => uptoBulkEntries entries + 1
  | .held _ => 1
def uptoBulkAll {H : Type} : List (DataW H) → Nat
  | [] => 0
  | d :: r => uptoBulk d + uptoBulkAll r
def uptoBulkEntries {H : Type} : List (Lit × DataW H) → Nat
  | [] => 0
  | x :: r => uptoBulkEntry x + uptoBulkEntries r
def uptoBulkEntry {H : Type} : Lit × DataW H → Nat
  | (.string bytes, d) => bytes.length + uptoBulk d + 1
  | (_, d) => uptoBulk d + 1
 end
def uptoSmall : (H : Type) → List (DataW H) → Bool := fun _ ds => decide (uptoBulkAll ds ≤ 1048576)
def OpenSpec.upto (s : _root_.Go.ChangeSpec) : _root_.Go.OpenSpec := { _root_.Go.OpenSpec.ofChange s with cond := some uptoSmall }

/-- 'laws.FnExactMoveItem', WHERE WHAT IT READS IS OF BULK AT MOST 1048576: true; the input reads as it did. -/
def fnExactMoveItemUptoRow : OpenClaim := { program := "ytpmliannnbfnmaa", sum := "b0e2988886e94e40bbea272c8e1f6260b10e62f270549543ad8524bafd1241a5", func := "loop.example/g00909/laws.FnExactMoveItem", spec := "fnExactMoveItem", inPlace := ["slices.overlaps[loop.example/g00909/impl.AgendaItem]"], unfollowed := true, recurses := true, apart := false, narrowed := true }
def FnExactMoveItemUptoSaid : Prop := fnExactMoveItemUptoRow.holds Try.pinned (OpenSpec.upto fnExactMoveItemSpec)

/-- 'laws.FnExactOrderItems', WHERE WHAT IT READS IS OF BULK AT MOST 1048576: true; the input reads as it did. -/
def fnExactOrderItemsUptoRow : OpenClaim := { program := "ytpmliannnbfnmaa", sum := "b0e2988886e94e40bbea272c8e1f6260b10e62f270549543ad8524bafd1241a5", func := "loop.example/g00909/laws.FnExactOrderItems", spec := "fnExactOrderItems", unfollowed := true, recurses := true, apart := false, narrowed := true }
def FnExactOrderItemsUptoSaid : Prop := fnExactOrderItemsUptoRow.holds Try.pinned (OpenSpec.upto fnExactOrderItemsSpec)

/-- 'laws.FnAgendaMoves', WHERE WHAT IT READS IS OF BULK AT MOST 1048576: true; the input reads as it did. -/
def fnAgendaMovesUptoRow : OpenClaim := { program := "ytpmliannnbfnmaa", sum := "b0e2988886e94e40bbea272c8e1f6260b10e62f270549543ad8524bafd1241a5", func := "loop.example/g00909/laws.FnAgendaMoves", spec := "fnAgendaMoves", inPlace := ["slices.overlaps[loop.example/g00909/impl.AgendaItem]"], unfollowed := true, recurses := true, apart := false, narrowed := true }
def FnAgendaMovesUptoSaid : Prop := fnAgendaMovesUptoRow.holds Try.pinned (OpenSpec.upto fnAgendaMovesSpec)

end Rows
end Go.Proofs.Ytpmliannnbfnmaa
