/-
  The laws' own helpers on AgendaItem: the size of an argument, its copy, equality, marks. Conditions: none of theirs.
-/
import Derived.Test.YtfpjelpbeicdoaaGreatDoorBase
namespace Go.My
open Go.RowKit
structure Itm where
  id : Int
  title : ByteArray
  mins : Int
  time : Int
def Itm.cells (s : Itm) : List Value := [.int .i64 s.id, .string s.title, .int .i64 s.mins, .int .i64 s.time]
def itmCells (xs : List Itm) : List Value := xs.flatMap Itm.cells
theorem itmCells_len (xs : List Itm) : (itmCells xs).length = xs.length * 4 := flat_length _ 4 (fun _ => rfl) xs
theorem Itm.cells_one (s : Itm) : ∀ u ∈ s.cells, u.oneCell' = true := by simp [Itm.cells, Value.oneCell']
theorem itmCells_one (xs : List Itm) : ∀ u ∈ itmCells xs, u.oneCell' = true := by
  intro u hu
  obtain ⟨s, _, hs⟩ := List.mem_flatMap.1 hu
  exact s.cells_one u hs
theorem itmCells_succ (xs : List Itm) (k : Nat) (hk : k < xs.length) : itmCells (xs.take (k + 1)) = itmCells (xs.take k) ++ [.int .i64 xs[k].id, .string xs[k].title, .int .i64 xs[k].mins, .int .i64 xs[k].time] := by
  unfold itmCells
  rw [List.take_succ_eq_append_getElem hk, List.flatMap_append]
  rfl
theorem Rd.itm {w : World} {A : Option Addr} {xs : List Itm} (h : Rd w A (itmCells xs)) {k : Nat} (hk : k < xs.length) :
    ∃ b off, A = some ⟨b, off, none⟩ ∧ w.cell? ⟨b, off + k * 4, none⟩ = some (.int .i64 xs[k].id) ∧ w.cell? ⟨b, off + k * 4 + 1, none⟩ = some (.string xs[k].title) ∧ w.cell? ⟨b, off + k * 4 + 2, none⟩ = some (.int .i64 xs[k].mins) ∧ w.cell? ⟨b, off + k * 4 + 3, none⟩ = some (.int .i64 xs[k].time) := by
  obtain ⟨b, off, rfl, hc⟩ := Rd.at_ Itm.cells 4 (fun _ => rfl) h hk (by decide)
  exact ⟨b, off, rfl, hc 0 _ rfl, hc 1 _ rfl, hc 2 _ rfl, hc 3 _ rfl⟩
/-- What the marks from k on make of one element. -/
def Itm.mark (k : Int) : Itm := ⟨(k), (mtext (k + 1)), (k + 2), (k + 3)⟩
def itmMarks (k : Int) : Nat → List Itm
  | 0 => []
  | n + 1 => itmMarks k n ++ [Itm.mark (k + 4 * n)]
theorem itmMarks_len (k : Int) (n : Nat) : (itmMarks k n).length = n := by
  induction n with
  | zero => rfl
  | succ n ih => simp [itmMarks, ih]
theorem itmMarks_get (k : Int) (n i : Nat) (h : i < (itmMarks k n).length) : (itmMarks k n)[i] = Itm.mark (k + 4 * i) := by
  induction n with
  | zero => simp [itmMarks] at h
  | succ n ih =>
    simp only [itmMarks]
    by_cases hi : i < (itmMarks k n).length
    · rw [List.getElem_append_left hi, ih hi]
    · have : i = n := by rw [itmMarks_len] at h hi; omega
      subst this
      rw [List.getElem_append_right (by omega)]
      simp
theorem itmMarks_succ (k : Int) (n : Nat) : itmCells (itmMarks k (n + 1)) = itmCells (itmMarks k n) ++ (Itm.mark (k + 4 * n)).cells := by
  simp [itmMarks, itmCells]
theorem itm_sets (L : List Value) (p : Nat) (v0 v1 v2 v3 : Value) (h : p + 4 ≤ L.length) : ((((L.set (p) v0).set (p + 1) v1).set (p + 2) v2).set (p + 3) v3).take (p + 4) = L.take p ++ [v0, v1, v2, v3] := by
  rw [show p + 4 = p + 3 + 1 from rfl, take_set_next _ _ _ (by simp only [List.length_set]; omega), show p + 3 = p + 2 + 1 from rfl, take_set_next _ _ _ (by simp only [List.length_set]; omega), show p + 2 = p + 1 + 1 from rfl, take_set_next _ _ _ (by simp only [List.length_set]; omega), take_set_next _ _ _ (by omega)]
  simp
def itmGo (left : Int) : List Itm → Int
  | [] => left
  | s :: r => if szStep left s.title.size < 0 then -1 else itmGo (szStep left s.title.size) r
def itmSz (left : Int) (xs : List Itm) : Int := if left - xs.length < 0 then -1 else itmGo (left - xs.length) xs
theorem itmGo_at {l : Int} {xs : List Itm} {k : Nat} (hk : k < xs.length) : itmGo l (xs.drop k) = if szStep l xs[k].title.size < 0 then -1 else itmGo (szStep l xs[k].title.size) (xs.drop (k + 1)) := by
  rw [List.drop_eq_getElem_cons hk]; rfl
theorem itmGo_ok {l : Int} {xs : List Itm} (h : 0 ≤ itmGo l xs) : itmGo l xs ≤ l ∧ ∀ s ∈ xs, (s.title.size : Int) ≤ l := by
  induction xs generalizing l with
  | nil => simp [itmGo]
  | cons s r ih =>
    simp only [itmGo] at h ⊢
    by_cases h1 : szStep l s.title.size < 0
    · rw [if_pos h1] at h; omega
    · rw [if_neg h1] at h ⊢
      obtain ⟨h2, h3⟩ := ih h
      have h4 : szStep l s.title.size = l - s.title.size := by
        unfold szStep at h1 ⊢
        by_cases h5 : l - (s.title.size : Int) < 0
        · rw [if_pos h5] at h1; omega
        · rw [if_neg h5]
      rw [h4] at h1 h2 h3 ⊢
      refine ⟨by omega, fun x hx => ?_⟩
      rcases List.mem_cons.1 hx with rfl | hx
      · omega
      · have := h3 x hx; omega
theorem itmSz_ok {l : Int} {xs : List Itm} (h : 0 ≤ itmSz l xs) : itmSz l xs ≤ l ∧ (xs.length : Int) ≤ l ∧ ∀ s ∈ xs, (s.title.size : Int) ≤ l := by
  unfold itmSz at h ⊢
  by_cases h1 : l - (xs.length : Int) < 0
  · rw [if_pos h1] at h; omega
  · rw [if_neg h1] at h ⊢
    obtain ⟨h2, h3⟩ := itmGo_ok h
    exact ⟨by omega, by omega, fun s hs => by have := h3 s hs; omega⟩
theorem szStep_ok {l n : Int} (h : 0 ≤ szStep l n) : szStep l n ≤ l - n ∧ n ≤ l := by
  unfold szStep at h ⊢
  split at h <;> split <;> omega
end Go.My
namespace Go.Proofs.YtfpjelpbeicdoaaGreatDoor
open Go.RowKit Go.My
theorem el_Itm : ElemOk Tryz.prog 24 34 4 40 := elemOk_mk Tryz.underlying24 (by kernel_rfl) (z := .agg #[.int .i64 0, .string ⟨#[]⟩, .int .i64 0, .int .i64 0]) rfl (by decide)
end Go.Proofs.YtfpjelpbeicdoaaGreatDoor

