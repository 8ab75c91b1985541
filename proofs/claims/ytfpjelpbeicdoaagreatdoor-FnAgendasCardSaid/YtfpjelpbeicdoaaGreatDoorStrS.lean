/-
  The laws' own helpers on lists of strings: the size of an argument, its copy, equality, marks. Conditions: none of theirs.
-/
import Derived.Test.YtfpjelpbeicdoaaGreatDoorBase
namespace Go.My
open Go.RowKit
def sCells (xs : List ByteArray) : List Value := xs.map Value.string
theorem sCells_len (xs : List ByteArray) : (sCells xs).length = xs.length * 1 := by simp [sCells]
theorem sCells_one (xs : List ByteArray) : ∀ u ∈ sCells xs, u.oneCell' = true := by
  intro u hu
  obtain ⟨s, _, rfl⟩ := List.mem_map.1 hu
  rfl
theorem sCells_append (xs ys : List ByteArray) : sCells (xs ++ ys) = sCells xs ++ sCells ys := by simp [sCells]
theorem sCells_succ (xs : List ByteArray) (k : Nat) (hk : k < xs.length) : sCells (xs.take (k + 1)) = sCells (xs.take k) ++ [.string xs[k]] := by
  unfold sCells
  rw [List.take_succ_eq_append_getElem hk, List.map_append]
  rfl
theorem Rd.strs {w : World} {A : Option Addr} {xs : List ByteArray} (h : Rd w A (sCells xs)) {k : Nat} (hk : k < xs.length) :
    ∃ b off, A = some ⟨b, off, none⟩ ∧ w.cell? ⟨b, off + k, none⟩ = some (.string xs[k]) := by
  rcases h with h | ⟨b, off, rfl, hc⟩
  · have : (sCells xs).length = 0 := by rw [h]; rfl
    rw [sCells_len] at this; omega
  · refine ⟨b, off, rfl, ?_⟩
    have := hc k (by rw [sCells_len]; omega)
    rw [this]; simp [sCells]
def sMarks (k : Int) : Nat → List ByteArray
  | 0 => []
  | n + 1 => sMarks k n ++ [mtext (k + n)]
theorem sMarks_len (k : Int) (n : Nat) : (sMarks k n).length = n := by
  induction n with
  | zero => rfl
  | succ n ih => simp [sMarks, ih]
theorem sMarks_get (k : Int) (n i : Nat) (h : i < (sMarks k n).length) : (sMarks k n)[i] = mtext (k + i) := by
  induction n with
  | zero => simp [sMarks] at h
  | succ n ih =>
    simp only [sMarks]
    by_cases hi : i < (sMarks k n).length
    · rw [List.getElem_append_left hi, ih hi]
    · have : i = n := by rw [sMarks_len] at h hi; omega
      subst this
      rw [List.getElem_append_right (by omega)]
      simp
theorem sMarks_succ (k : Int) (n : Nat) : sCells (sMarks k (n + 1)) = sCells (sMarks k n) ++ [.string (mtext (k + n))] := by simp [sMarks, sCells]
theorem Rd.strsHeld {w : World} {A : Option Addr} {k : Int} {n j : Nat} (h : Rd w A (sCells (sMarks k n))) (hj : j < n) :
    ∃ b off, A = some ⟨b, off, none⟩ ∧ w.cell? ⟨b, off + j, none⟩ = some (.string (mtext (k + j))) := by
  have hl : j < (sMarks k n).length := by rw [sMarks_len]; exact hj
  obtain ⟨b, off, rfl, c0⟩ := Rd.strs h hl
  rw [sMarks_get] at c0
  exact ⟨b, off, rfl, c0⟩
def sGo (left : Int) : List ByteArray → Int
  | [] => left
  | s :: r => if left - s.size < 0 then -1 else sGo (left - s.size) r
def sSz (left : Int) (xs : List ByteArray) : Int := if left - xs.length < 0 then -1 else sGo (left - xs.length) xs
theorem sGo_at {l : Int} {xs : List ByteArray} {k : Nat} (hk : k < xs.length) : sGo l (xs.drop k) = if l - xs[k].size < 0 then -1 else sGo (l - xs[k].size) (xs.drop (k + 1)) := by
  rw [List.drop_eq_getElem_cons hk]; rfl
theorem sGo_ok {l : Int} {xs : List ByteArray} (h : 0 ≤ sGo l xs) : sGo l xs ≤ l ∧ ∀ s ∈ xs, (s.size : Int) ≤ l := by
  induction xs generalizing l with
  | nil => simp [sGo]
  | cons s r ih =>
    simp only [sGo] at h ⊢
    by_cases h1 : l - (s.size : Int) < 0
    · rw [if_pos h1] at h; omega
    · rw [if_neg h1] at h ⊢
      obtain ⟨h2, h3⟩ := ih h
      refine ⟨by omega, fun x hx => ?_⟩
      rcases List.mem_cons.1 hx with rfl | hx
      · omega
      · have := h3 x hx; omega
theorem sSz_ok {l : Int} {xs : List ByteArray} (h : 0 ≤ sSz l xs) : sSz l xs ≤ l ∧ (xs.length : Int) ≤ l ∧ ∀ s ∈ xs, (s.size : Int) ≤ l := by
  unfold sSz at h ⊢
  by_cases h1 : l - (xs.length : Int) < 0
  · rw [if_pos h1] at h; omega
  · rw [if_neg h1] at h ⊢
    obtain ⟨h2, h3⟩ := sGo_ok h
    exact ⟨by omega, by omega, fun s hs => by have := h3 s hs; omega⟩
end Go.My
namespace Go.Proofs.YtfpjelpbeicdoaaGreatDoor
open Go.RowKit Go.My
theorem el_Str : ElemOk Tryz.prog 58 9 1 16 := elemOk_mk Tryz.underlying58 (by kernel_rfl) (z := .string ⟨#[]⟩) rfl (by decide)
end Go.Proofs.YtfpjelpbeicdoaaGreatDoor
