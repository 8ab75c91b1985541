/-
  FnExactIsValidMembers returns true for every input and leaves its argument as it was. Conditions: none.
-/
import Derived.Test.YtidmdppcamgaoaaMemb
import Derived.Test.YtidmdppcamgaoaaLaw
namespace Go.Proofs.Ytidmdppcamgaoaa
open Go.RowKit Go.My Go.ChangeShapes Go.WideShapes Go.ChangeAt

theorem own : ownKnob Try.prog.godebug = none := by kernel_rfl
theorem laidOut : laidOutB Try.prog = true := by kernel_rfl

theorem cell_below {w w' : World} {p : Addr} {v : Value} (h : w.cell? p = some v) (hb : Below w.heap.size w w') : w'.cell? p = some v := (hb.cell (World.block_lt_of_cell? w _ h)).trans h
theorem own_cap {w : World} {B : Nat} {e : TypeId} {size n c : Nat} {A : Option Addr} {cells : List Value} (h : w.ownsRow B e size (.slice A n c) n cells) : n ≤ c := by
  obtain ⟨A0, c0, e0, hnc⟩ := own_form h
  simp only [Value.slice.injEq, true_and] at e0
  obtain ⟨rfl, rfl⟩ := e0
  exact hnc

set_option maxRecDepth 100000 in
theorem open_Mem1 {H : Type} {enc : TypeId × Value → H} {w : World} {n : Nat} {cs : List Value} {x : DataW H × List MemPlace} (hx : DataW.trod enc Try.prog w 0 (fun _ => true) true n 59 cs = some x) : ∃ s : Mem, cs = s.cells ∧ s.name.size ≤ maxLen := by
  obtain ⟨hl, hf⟩ := trod_fields Try.underlying59 hx
  have cint : Try.prog.cellsOf 3 = 1 := by kernel_rfl
  have cstr : Try.prog.cellsOf 9 = 1 := by kernel_rfl
  rw [show Try.prog.cellsOf 59 = 3 by kernel_rfl] at hl
  match cs, hl with
  | [a0, a1, a2], _ =>
    simp only [List.mem_cons, List.not_mem_nil, or_false, forall_eq_or_imp, forall_eq, cint, cstr] at hf
    obtain ⟨⟨_, _, h0⟩, ⟨_, _, h1⟩, ⟨_, _, h2⟩⟩ := hf
    obtain ⟨n0, e0, _, w0⟩ := DataW.trod_int Try.underlying3 h0
    obtain ⟨n1, e1, _, w1⟩ := DataW.trod_string Try.underlying9 h1
    obtain ⟨n2, e2, _, w2⟩ := DataW.trod_int Try.underlying3 h2
    simp at e0 e1 e2
    subst e0 e1 e2
    exact ⟨⟨n0, n1, n2⟩, rfl, w1⟩
theorem open_Mem {H : Type} {enc : TypeId × Value → H} {w : World} {A : Option Addr} {len cap : Nat} {d : DataW H} {ps : List MemPlace} (h : DataW.Trod enc Try.prog w 0 (fun _ => true) true 22 (.slice A len cap) d ps) :
    ∃ xs : List Mem, xs.length = len ∧ len ≤ cap ∧ cap ≤ maxLen ∧ Rd w A (memCells xs) ∧ ∀ s ∈ xs, s.name.size ≤ maxLen :=
  open_list Mem.cells (fun s => s.name.size ≤ maxLen) 3 (fun _ => rfl) (by decide) Try.underlying22 (by kernel_rfl) (fun n cs x hx => open_Mem1 hx) h

end Go.Proofs.Ytidmdppcamgaoaa
