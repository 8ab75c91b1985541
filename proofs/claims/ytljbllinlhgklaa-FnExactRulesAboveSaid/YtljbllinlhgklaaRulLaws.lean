/-
  FnExactIsValidRule, FnExactIsValidRules return true for every input and leave their arguments as they were. Conditions: none.
-/
import Derived.Test.YtljbllinlhgklaaRul
import Derived.Test.YtljbllinlhgklaaLaw
namespace Go.Proofs.Ytljbllinlhgklaa
open Go.RowKit Go.My Go.ChangeShapes Go.WideShapes Go.ChangeAt
open Go.ChangeMaps (open_string shut_string)

theorem own : ownKnob Try.prog.godebug = none := by kernel_rfl
theorem laidOut : laidOutB Try.prog = true := by kernel_rfl

theorem cell_below {w w' : World} {p : Addr} {v : Value} (h : w.cell? p = some v) (hb : Below w.heap.size w w') : w'.cell? p = some v := (hb.cell (World.block_lt_of_cell? w _ h)).trans h
theorem own_cap {w : World} {B : Nat} {e : TypeId} {size n c : Nat} {A : Option Addr} {cells : List Value} (h : w.ownsRow B e size (.slice A n c) n cells) : n ≤ c := by
  obtain ⟨A0, c0, e0, hnc⟩ := own_form h
  simp only [Value.slice.injEq, true_and] at e0
  obtain ⟨rfl, rfl⟩ := e0
  exact hnc

set_option maxRecDepth 100000 in
theorem open_Rul1 {H : Type} {enc : TypeId × Value → H} {w : World} {n : Nat} {cs : List Value} {x : DataW H × List MemPlace} (hx : DataW.trod enc Try.prog w 0 (fun _ => true) true n 32 cs = some x) : ∃ s : Rul, cs = s.cells ∧ s.name.size ≤ maxLen := by
  obtain ⟨hl, hf⟩ := trod_fields Try.underlying32 hx
  have cbool : Try.prog.cellsOf 4 = 1 := by kernel_rfl
  have cint : Try.prog.cellsOf 3 = 1 := by kernel_rfl
  have cstr : Try.prog.cellsOf 9 = 1 := by kernel_rfl
  rw [show Try.prog.cellsOf 32 = 7 by kernel_rfl] at hl
  match cs, hl with
  | [a0, a1, a2, a3, a4, a5, a6], _ =>
    simp only [List.mem_cons, List.not_mem_nil, or_false, forall_eq_or_imp, forall_eq, cbool, cint, cstr] at hf
    obtain ⟨⟨_, _, h0⟩, ⟨_, _, h1⟩, ⟨_, _, h2⟩, ⟨_, _, h3⟩, ⟨_, _, h4⟩, ⟨_, _, h5⟩, ⟨_, _, h6⟩⟩ := hf
    obtain ⟨n0, e0, _, w0⟩ := DataW.trod_int Try.underlying3 h0
    obtain ⟨n1, e1, _, w1⟩ := DataW.trod_string Try.underlying9 h1
    obtain ⟨n2, e2, _, w2⟩ := DataW.trod_int Try.underlying3 h2
    obtain ⟨n3, e3, _⟩ := DataW.trod_bool Try.underlying4 h3
    obtain ⟨n4, e4, _⟩ := DataW.trod_bool Try.underlying4 h4
    obtain ⟨n5, e5, _⟩ := DataW.trod_bool Try.underlying4 h5
    obtain ⟨n6, e6, _, w6⟩ := DataW.trod_int Try.underlying3 h6
    simp at e0 e1 e2 e3 e4 e5 e6
    subst e0 e1 e2 e3 e4 e5 e6
    exact ⟨⟨n0, n1, n2, n3, n4, n5, n6⟩, rfl, w1⟩
theorem open_Rul {H : Type} {enc : TypeId × Value → H} {w : World} {A : Option Addr} {len cap : Nat} {d : DataW H} {ps : List MemPlace} (h : DataW.Trod enc Try.prog w 0 (fun _ => true) true 22 (.slice A len cap) d ps) :
    ∃ xs : List Rul, xs.length = len ∧ len ≤ cap ∧ cap ≤ maxLen ∧ Rd w A (rulCells xs) ∧ ∀ s ∈ xs, s.name.size ≤ maxLen :=
  open_list Rul.cells (fun s => s.name.size ≤ maxLen) 7 (fun _ => rfl) (by decide) Try.underlying22 (by kernel_rfl) (fun n cs x hx => open_Rul1 hx) h
theorem open_Rulv {H : Type} {enc : TypeId × Value → H} {w : World} {base : Nat} {v : Value} {d : DataW H} {ps : List MemPlace} (hv : Value.okWide Try.prog w .any base 32 v) (h : DataW.Trod enc Try.prog w 0 (fun _ => true) true 32 v d ps) :
    ∃ s : Rul, v = .agg #[.int .i64 s.id, .string s.name, .int .i64 s.rank, .bool s.sec, .bool s.deb, .bool s.am, .int .i64 s.need] ∧ s.name.size ≤ maxLen := by
  obtain ⟨cs, rfl, _⟩ := okWide_struct Try.underlying32 hv
  obtain ⟨fuel, hfu⟩ := h
  obtain ⟨s, e, hs⟩ := open_Rul1 hfu
  refine ⟨s, ?_, hs⟩
  have e2 : cs.toList = s.cells := by simpa [Value.cells] using e
  rw [show cs = s.cells.toArray by rw [← e2]]
  rfl

end Go.Proofs.Ytljbllinlhgklaa
