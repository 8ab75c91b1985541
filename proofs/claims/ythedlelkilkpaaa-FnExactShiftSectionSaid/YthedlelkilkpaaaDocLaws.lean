/-
  FnExactIsDocument, FnExactPartOf and FnExactBelongsTo return true for every input and leave their arguments as they were. Conditions: none.
-/
import Derived.Test.YthedlelkilkpaaaDoc2
import Derived.Test.YthedlelkilkpaaaLaw
namespace Go.Proofs.Ythedlelkilkpaaa
open Go.RowKit Go.My Go.ChangeShapes Go.WideShapes Go.ChangeAt
open Go.ChangeMaps (open_string shut_string)

theorem own : ownKnob Try.prog.godebug = none := by kernel_rfl
theorem laidOut : laidOutB Try.prog = true := by kernel_rfl

theorem open_Sec {H : Type} {enc : TypeId × Value → H} {w : World} {A : Option Addr} {len cap : Nat} {d : DataW H} {ps : List MemPlace} (h : DataW.Trod enc Try.prog w 0 (fun _ => true) true 22 (.slice A len cap) d ps) :
    ∃ xs : List Sec, xs.length = len ∧ len ≤ cap ∧ cap ≤ maxLen ∧ Rd w A (secCells xs) ∧ ∀ s ∈ xs, s.t.size ≤ maxLen ∧ (Lit.int .i64 s.d).wf = true :=
  open_list Sec.cells (fun s => s.t.size ≤ maxLen ∧ (Lit.int .i64 s.d).wf = true) 2 (fun _ => rfl) (by decide) Try.underlying22 (by kernel_rfl) (fun n cs x hx => by
    obtain ⟨hl, hf⟩ := trod_fields Try.underlying32 hx
    have c3 : Try.prog.cellsOf 3 = 1 := by kernel_rfl
    have c9 : Try.prog.cellsOf 9 = 1 := by kernel_rfl
    rw [show Try.prog.cellsOf 32 = 2 by kernel_rfl] at hl
    match cs, hl with
    | [a, b], _ =>
      simp only [List.mem_cons, List.not_mem_nil, or_false, forall_eq_or_imp, forall_eq, c3, c9] at hf
      obtain ⟨⟨_, _, h1⟩, ⟨_, _, h2⟩⟩ := hf
      obtain ⟨n1, e1, _, w1⟩ := DataW.trod_int Try.underlying3 h1
      obtain ⟨n2, e2, _, w2⟩ := DataW.trod_string Try.underlying9 h2
      simp at e1 e2
      subst e1 e2
      exact ⟨⟨n1, n2⟩, rfl, w2, w1⟩) h

end Go.Proofs.Ythedlelkilkpaaa
