/-
  No cell of these rows narrows 'for every input' (looked for: loops, veiled, ifaces, maps, wideKeys, modest, calm, conditions, laid).
  DERIVED. THE GIVEN ROWS OF THIS SEAT. 6 by the template 'for every input the law returns true; each argument reads behind the call as it read before'; 0 by the template 'total and deterministic' (their statements: YtidmdppcamgaoaaTotals.lean).
  GIVEN WITH THE SEED: the statements are not yours to turn. If you find one false, say at which input.
  Laid BY PROGRAM, IN A SANDBOX (cutbox-rows.mjs): the forced cells as the released guide's own fill.sh prints them over the translation 6dfc8ae9c0e31090… (all of the seat's roots in one cut). By AI agents, Wed Nov 11 2026. No macro, syntax, notation, axiom, sorry.
-/
import Derived.Test.YtidmdppcamgaoaaChecked
import GoSem.Claim
import GoSem.ClaimJoined
import GoSem.ClaimMapViews
import Derived.JoinedTies
import Derived.KernelRfl
namespace Go.Proofs.Ytidmdppcamgaoaa
/- THE CELL 'sum', in the pinned program and in every row, IS THE sha256 OF THE DUMP (.gsa) THAT YtidmdppcamgaoaaProg.lean LOADS. Nothing in Lean hashes anything: it is a label: what it is worth is what the hold of that sum in a sandbox is worth. -/
noncomputable def Try.pinned : Pinned := { name := "ytidmdppcamgaoaa", sum := "6dfc8ae9c0e3109064a1bc721efe54e874e64dca8aa0abf629791a46e0d6df1a", checked := Try.checked }
namespace Rows
def none {H : Type} : Left H := { results := [], args := [] }

/-- 'laws.FnExactExpelMember': WHATEVER THE INPUT: true; the input reads as it did. -/
def fnExactExpelMemberSpec : ChangeSpec := { name := "fnExactExpelMember", fn := fun _ => fun
  | [d1, d2] => { results := [.lit (.bool true)], args := [d1, d2] }
  | _ => none }
def fnExactExpelMemberRow : OpenClaim := { program := "ytidmdppcamgaoaa", sum := "6dfc8ae9c0e3109064a1bc721efe54e874e64dca8aa0abf629791a46e0d6df1a", func := "loop.example/g00909/laws.FnExactExpelMember", spec := "fnExactExpelMember", unfollowed := true, recurses := true, apart := false }
def FnExactExpelMemberSaid : Prop := fnExactExpelMemberRow.holds Try.pinned (OpenSpec.ofChange fnExactExpelMemberSpec)

/-- ITS FALSE NEIGHBOUR: 'it returns false'. Refute it at one input. -/
def fnExactExpelMemberWrong : ChangeSpec := { name := "fnExactExpelMember", fn := fun _ => fun
  | [d1, d2] => { results := [.lit (.bool false)], args := [d1, d2] }
  | _ => none }
def FnExactExpelMemberWrongFalsely : Prop := fnExactExpelMemberRow.holds Try.pinned (OpenSpec.ofChange fnExactExpelMemberWrong)

/-- 'laws.FnExactGiveOffice': WHATEVER THE INPUT: true; the input reads as it did. -/
def fnExactGiveOfficeSpec : ChangeSpec := { name := "fnExactGiveOffice", fn := fun _ => fun
  | [d1, d2, d3] => { results := [.lit (.bool true)], args := [d1, d2, d3] }
  | _ => none }
def fnExactGiveOfficeRow : OpenClaim := { program := "ytidmdppcamgaoaa", sum := "6dfc8ae9c0e3109064a1bc721efe54e874e64dca8aa0abf629791a46e0d6df1a", func := "loop.example/g00909/laws.FnExactGiveOffice", spec := "fnExactGiveOffice", unfollowed := true, recurses := true, apart := false }
def FnExactGiveOfficeSaid : Prop := fnExactGiveOfficeRow.holds Try.pinned (OpenSpec.ofChange fnExactGiveOfficeSpec)

/-- ITS FALSE NEIGHBOUR: 'it returns false'. Refute it at one input. -/
def fnExactGiveOfficeWrong : ChangeSpec := { name := "fnExactGiveOffice", fn := fun _ => fun
  | [d1, d2, d3] => { results := [.lit (.bool false)], args := [d1, d2, d3] }
  | _ => none }
def FnExactGiveOfficeWrongFalsely : Prop := fnExactGiveOfficeRow.holds Try.pinned (OpenSpec.ofChange fnExactGiveOfficeWrong)

/-- 'laws.FnExactPresidingMember': WHATEVER THE INPUT: true; the input reads as it did. -/
def fnExactPresidingMemberSpec : ChangeSpec := { name := "fnExactPresidingMember", fn := fun _ => fun
  | [d1, d2] => { results := [.lit (.bool true)], args := [d1, d2] }
  | _ => none }
def fnExactPresidingMemberRow : OpenClaim := { program := "ytidmdppcamgaoaa", sum := "6dfc8ae9c0e3109064a1bc721efe54e874e64dca8aa0abf629791a46e0d6df1a", func := "loop.example/g00909/laws.FnExactPresidingMember", spec := "fnExactPresidingMember", unfollowed := true, recurses := true, apart := false }
def FnExactPresidingMemberSaid : Prop := fnExactPresidingMemberRow.holds Try.pinned (OpenSpec.ofChange fnExactPresidingMemberSpec)

/-- ITS FALSE NEIGHBOUR: 'it returns false'. Refute it at one input. -/
def fnExactPresidingMemberWrong : ChangeSpec := { name := "fnExactPresidingMember", fn := fun _ => fun
  | [d1, d2] => { results := [.lit (.bool false)], args := [d1, d2] }
  | _ => none }
def FnExactPresidingMemberWrongFalsely : Prop := fnExactPresidingMemberRow.holds Try.pinned (OpenSpec.ofChange fnExactPresidingMemberWrong)

/-- 'laws.FnExactAdmitMember': WHATEVER THE INPUT: true; the input reads as it did. -/
def fnExactAdmitMemberSpec : ChangeSpec := { name := "fnExactAdmitMember", fn := fun _ => fun
  | [d1, d2] => { results := [.lit (.bool true)], args := [d1, d2] }
  | _ => none }
def fnExactAdmitMemberRow : OpenClaim := { program := "ytidmdppcamgaoaa", sum := "6dfc8ae9c0e3109064a1bc721efe54e874e64dca8aa0abf629791a46e0d6df1a", func := "loop.example/g00909/laws.FnExactAdmitMember", spec := "fnExactAdmitMember", inPlace := ["slices.overlaps[loop.example/g00909/impl.Member]"], unfollowed := true, recurses := true, apart := false }
def FnExactAdmitMemberSaid : Prop := fnExactAdmitMemberRow.holds Try.pinned (OpenSpec.ofChange fnExactAdmitMemberSpec)

/-- ITS FALSE NEIGHBOUR: 'it returns false'. Refute it at one input. -/
def fnExactAdmitMemberWrong : ChangeSpec := { name := "fnExactAdmitMember", fn := fun _ => fun
  | [d1, d2] => { results := [.lit (.bool false)], args := [d1, d2] }
  | _ => none }
def FnExactAdmitMemberWrongFalsely : Prop := fnExactAdmitMemberRow.holds Try.pinned (OpenSpec.ofChange fnExactAdmitMemberWrong)

/-- 'laws.FnExactNumbersByName': WHATEVER THE INPUT: true; the input reads as it did. -/
def fnExactNumbersByNameSpec : ChangeSpec := { name := "fnExactNumbersByName", fn := fun _ => fun
  | [d] => { results := [.lit (.bool true)], args := [d] }
  | _ => none }
def fnExactNumbersByNameRow : OpenClaim := { program := "ytidmdppcamgaoaa", sum := "6dfc8ae9c0e3109064a1bc721efe54e874e64dca8aa0abf629791a46e0d6df1a", func := "loop.example/g00909/laws.FnExactNumbersByName", spec := "fnExactNumbersByName", inPlace := ["internal/bytealg.abigen_runtime_cmpstring"], unfollowed := true, recurses := true, apart := false }
def FnExactNumbersByNameSaid : Prop := fnExactNumbersByNameRow.holds Try.pinned (OpenSpec.ofChange fnExactNumbersByNameSpec)

/-- ITS FALSE NEIGHBOUR: 'it returns false'. Refute it at one input. -/
def fnExactNumbersByNameWrong : ChangeSpec := { name := "fnExactNumbersByName", fn := fun _ => fun
  | [d] => { results := [.lit (.bool false)], args := [d] }
  | _ => none }
def FnExactNumbersByNameWrongFalsely : Prop := fnExactNumbersByNameRow.holds Try.pinned (OpenSpec.ofChange fnExactNumbersByNameWrong)

/-- 'laws.FnOffices': WHATEVER THE INPUT: true; the input reads as it did. -/
def fnOfficesSpec : ChangeSpec := { name := "fnOffices", fn := fun _ => fun
  | [d] => { results := [.lit (.bool true)], args := [d] }
  | _ => none }
def fnOfficesRow : OpenClaim := { program := "ytidmdppcamgaoaa", sum := "6dfc8ae9c0e3109064a1bc721efe54e874e64dca8aa0abf629791a46e0d6df1a", func := "loop.example/g00909/laws.FnOffices", spec := "fnOffices", unfollowed := true, recurses := true, apart := false }
def FnOfficesSaid : Prop := fnOfficesRow.holds Try.pinned (OpenSpec.ofChange fnOfficesSpec)

/-- ITS FALSE NEIGHBOUR: 'it returns false'. Refute it at one input. -/
def fnOfficesWrong : ChangeSpec := { name := "fnOffices", fn := fun _ => fun
  | [d] => { results := [.lit (.bool false)], args := [d] }
  | _ => none }
def FnOfficesWrongFalsely : Prop := fnOfficesRow.holds Try.pinned (OpenSpec.ofChange fnOfficesWrong)

/- THE SECOND FORM. 'bulk': how many values and letters a reading holds, each counted each time it is reached (what is shared counts as often as it is met; a slice's spare places count too). A statement '..UptoSaid' is the law's where the arguments, and the package variables that the reading takes, are together of bulk at most 1048576: NARROWER than '..Said'. Prove '..Said' where nothing that the law and all that it calls make is longer than what came in: it says more and counts as full. Else prove '..UptoSaid'. A law counts once. -/
mutual
def uptoBulk {H : Type} : DataW H → Nat
  | .lit (.string bytes) => bytes.length + 1
  | .lit _ => 1
  | .nil => 1
  | .ptr d => uptoBulk d + 1
  | .slice elems spare => uptoBulkAll elems + uptoBulkAll spare + 1
  | .agg parts => uptoBulkAll parts + 1
  | .iface _ d => uptoBulk d + 1
  | .map entries => uptoBulkEntries entries + 1
  | .held _ => 1
def uptoBulkAll {H : Type} : List (DataW H) → Nat
  | [] => 0
  | d :: r => uptoBulk d + uptoBulkAll r
def uptoBulkEntries {H : Type} : List (Lit × DataW H) → Nat
  | [] => 0
  | x :: r => uptoBulkEntry x + uptoBulkEntries r
def uptoBulkEntry {H : Type} : Lit × DataW H → Nat
  | (.string bytes, d) => bytes.length + uptoBulk d + 1
  | (_, d) => uptoBulk d + 1
 end
def uptoSmall : (H : Type) → List (DataW H) → Bool := fun _ ds => decide (uptoBulkAll ds ≤ 1048576)
def OpenSpec.upto (s : _root_.Go.ChangeSpec) : _root_.Go.OpenSpec := { _root_.Go.OpenSpec.ofChange s with cond := some uptoSmall }

/-- 'laws.FnExactExpelMember', WHERE WHAT IT READS IS OF BULK AT MOST 1048576: true; the input reads as it did. -/
def fnExactExpelMemberUptoRow : OpenClaim := { program := "ytidmdppcamgaoaa", sum := "6dfc8ae9c0e3109064a1bc721efe54e874e64dca8aa0abf629791a46e0d6df1a", func := "loop.example/g00909/laws.FnExactExpelMember", spec := "fnExactExpelMember", unfollowed := true, recurses := true, apart := false, narrowed := true }
def FnExactExpelMemberUptoSaid : Prop := fnExactExpelMemberUptoRow.holds Try.pinned (OpenSpec.upto fnExactExpelMemberSpec)

/-- 'laws.FnExactGiveOffice', WHERE WHAT IT READS IS OF BULK AT MOST 1048576: true; the input reads as it did. -/
def fnExactGiveOfficeUptoRow : OpenClaim := { program := "ytidmdppcamgaoaa", sum := "6dfc8ae9c0e3109064a1bc721efe54e874e64dca8aa0abf629791a46e0d6df1a", func := "loop.example/g00909/laws.FnExactGiveOffice", spec := "fnExactGiveOffice", unfollowed := true, recurses := true, apart := false, narrowed := true }
def FnExactGiveOfficeUptoSaid : Prop := fnExactGiveOfficeUptoRow.holds Try.pinned (OpenSpec.upto fnExactGiveOfficeSpec)

/-- 'laws.FnExactPresidingMember', WHERE WHAT IT READS IS OF BULK AT MOST 1048576: true; the input reads as it did. -/
def fnExactPresidingMemberUptoRow : OpenClaim := { program := "ytidmdppcamgaoaa", sum := "6dfc8ae9c0e3109064a1bc721efe54e874e64dca8aa0abf629791a46e0d6df1a", func := "loop.example/g00909/laws.FnExactPresidingMember", spec := "fnExactPresidingMember", unfollowed := true, recurses := true, apart := false, narrowed := true }
def FnExactPresidingMemberUptoSaid : Prop := fnExactPresidingMemberUptoRow.holds Try.pinned (OpenSpec.upto fnExactPresidingMemberSpec)

/-- 'laws.FnExactAdmitMember', WHERE WHAT IT READS IS OF BULK AT MOST 1048576: true; the input reads as it did. -/
def fnExactAdmitMemberUptoRow : OpenClaim := { program := "ytidmdppcamgaoaa", sum := "6dfc8ae9c0e3109064a1bc721efe54e874e64dca8aa0abf629791a46e0d6df1a", func := "loop.example/g00909/laws.FnExactAdmitMember", spec := "fnExactAdmitMember", inPlace := ["slices.overlaps[loop.example/g00909/impl.Member]"], unfollowed := true, recurses := true, apart := false, narrowed := true }
def FnExactAdmitMemberUptoSaid : Prop := fnExactAdmitMemberUptoRow.holds Try.pinned (OpenSpec.upto fnExactAdmitMemberSpec)

/-- 'laws.FnExactNumbersByName', WHERE WHAT IT READS IS OF BULK AT MOST 1048576: true; the input reads as it did. -/
def fnExactNumbersByNameUptoRow : OpenClaim := { program := "ytidmdppcamgaoaa", sum := "6dfc8ae9c0e3109064a1bc721efe54e874e64dca8aa0abf629791a46e0d6df1a", func := "loop.example/g00909/laws.FnExactNumbersByName", spec := "fnExactNumbersByName", inPlace := ["internal/bytealg.abigen_runtime_cmpstring"], unfollowed := true, recurses := true, apart := false, narrowed := true }
def FnExactNumbersByNameUptoSaid : Prop := fnExactNumbersByNameUptoRow.holds Try.pinned (OpenSpec.upto fnExactNumbersByNameSpec)

/-- 'laws.FnOffices', WHERE WHAT IT READS IS OF BULK AT MOST 1048576: true; the input reads as it did. -/
def fnOfficesUptoRow : OpenClaim := { program := "ytidmdppcamgaoaa", sum := "6dfc8ae9c0e3109064a1bc721efe54e874e64dca8aa0abf629791a46e0d6df1a", func := "loop.example/g00909/laws.FnOffices", spec := "fnOffices", unfollowed := true, recurses := true, apart := false, narrowed := true }
def FnOfficesUptoSaid : Prop := fnOfficesUptoRow.holds Try.pinned (OpenSpec.upto fnOfficesSpec)

end Rows
end Go.Proofs.Ytidmdppcamgaoaa
