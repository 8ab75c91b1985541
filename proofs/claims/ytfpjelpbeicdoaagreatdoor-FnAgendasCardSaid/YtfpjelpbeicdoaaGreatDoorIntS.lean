/-
  The laws' own helpers on lists of ints: equality, marks; a row of ints that grows. Conditions: none of theirs.
-/
import Derived.Test.YtfpjelpbeicdoaaGreatDoorBase
namespace Go.My
open Go.RowKit
def intCells (xs : List Int) : List Value := xs.map (Value.int .i64)
theorem intCells_len (xs : List Int) : (intCells xs).length = xs.length * 1 := by simp [intCells]
theorem intCells_one (xs : List Int) : ∀ u ∈ intCells xs, u.oneCell' = true := by
  intro u hu
  obtain ⟨s, _, rfl⟩ := List.mem_map.1 hu
  rfl
theorem intCells_append (xs ys : List Int) : intCells (xs ++ ys) = intCells xs ++ intCells ys := by simp [intCells]
theorem Rd.ints {w : World} {A : Option Addr} {xs : List Int} (h : Rd w A (intCells xs)) {k : Nat} (hk : k < xs.length) :
    ∃ b off, A = some ⟨b, off, none⟩ ∧ w.cell? ⟨b, off + k, none⟩ = some (.int .i64 xs[k]) := by
  rcases h with h | ⟨b, off, rfl, hc⟩
  · have : (intCells xs).length = 0 := by rw [h]; rfl
    rw [intCells_len] at this; omega
  · refine ⟨b, off, rfl, ?_⟩
    have := hc k (by rw [intCells_len]; omega)
    rw [this]; simp [intCells]
def intMarks (k : Int) : Nat → List Int
  | 0 => []
  | n + 1 => intMarks k n ++ [k + n]
theorem intMarks_len (k : Int) (n : Nat) : (intMarks k n).length = n := by
  induction n with
  | zero => rfl
  | succ n ih => simp [intMarks, ih]
theorem intMarks_get (k : Int) (n i : Nat) (h : i < (intMarks k n).length) : (intMarks k n)[i] = k + i := by
  induction n with
  | zero => simp [intMarks] at h
  | succ n ih =>
    simp only [intMarks]
    by_cases hi : i < (intMarks k n).length
    · rw [List.getElem_append_left hi, ih hi]
    · have : i = n := by rw [intMarks_len] at h hi; omega
      subst this
      rw [List.getElem_append_right (by omega)]
      simp
theorem intMarks_succ (k : Int) (n : Nat) : intCells (intMarks k (n + 1)) = intCells (intMarks k n) ++ [.int .i64 (k + n)] := by simp [intMarks, intCells]
theorem Rd.intsHeld {w : World} {A : Option Addr} {k : Int} {n j : Nat} (h : Rd w A (intCells (intMarks k n))) (hj : j < n) :
    ∃ b off, A = some ⟨b, off, none⟩ ∧ w.cell? ⟨b, off + j, none⟩ = some (.int .i64 (k + j)) := by
  have hl : j < (intMarks k n).length := by rw [intMarks_len]; exact hj
  obtain ⟨b, off, rfl, c0⟩ := Rd.ints h hl
  rw [intMarks_get] at c0
  exact ⟨b, off, rfl, c0⟩
end Go.My
namespace Go.Proofs.YtfpjelpbeicdoaaGreatDoor
open Go.RowKit Go.My
theorem el_Int : ElemOk Tryz.prog 27 3 1 8 := elemOk_mk Tryz.underlying27 (by kernel_rfl) (z := .int .i64 0) rfl (by decide)
end Go.Proofs.YtfpjelpbeicdoaaGreatDoor
