/-
  The laws' own helpers on Member: the size of an argument, its copy, equality, marks. Conditions: none of theirs.
-/
import Derived.Test.YtngheildmhimoaaGreatDoorBase
namespace Go.My
open Go.RowKit
structure Mem where
  num : Int
  name : ByteArray
  off : Int
def Mem.cells (s : Mem) : List Value := [.int .i64 s.num, .string s.name, .int .i64 s.off]
def memCells (xs : List Mem) : List Value := xs.flatMap Mem.cells
theorem memCells_len (xs : List Mem) : (memCells xs).length = xs.length * 3 := flat_length _ 3 (fun _ => rfl) xs
theorem Mem.cells_one (s : Mem) : ∀ u ∈ s.cells, u.oneCell' = true := by simp [Mem.cells, Value.oneCell']
theorem memCells_one (xs : List Mem) : ∀ u ∈ memCells xs, u.oneCell' = true := by
  intro u hu
  obtain ⟨s, _, hs⟩ := List.mem_flatMap.1 hu
  exact s.cells_one u hs
theorem memCells_succ (xs : List Mem) (k : Nat) (hk : k < xs.length) : memCells (xs.take (k + 1)) = memCells (xs.take k) ++ [.int .i64 xs[k].num, .string xs[k].name, .int .i64 xs[k].off] := by
  unfold memCells
  rw [List.take_succ_eq_append_getElem hk, List.flatMap_append]
  rfl
theorem Rd.mem {w : World} {A : Option Addr} {xs : List Mem} (h : Rd w A (memCells xs)) {k : Nat} (hk : k < xs.length) :
    ∃ b off, A = some ⟨b, off, none⟩ ∧ w.cell? ⟨b, off + k * 3, none⟩ = some (.int .i64 xs[k].num) ∧ w.cell? ⟨b, off + k * 3 + 1, none⟩ = some (.string xs[k].name) ∧ w.cell? ⟨b, off + k * 3 + 2, none⟩ = some (.int .i64 xs[k].off) := by
  obtain ⟨b, off, rfl, hc⟩ := Rd.at_ Mem.cells 3 (fun _ => rfl) h hk (by decide)
  exact ⟨b, off, rfl, hc 0 _ rfl, hc 1 _ rfl, hc 2 _ rfl⟩
/-- What the marks from k on make of one element. -/
def Mem.mark (k : Int) : Mem := ⟨(k), (mtext (k + 1)), (k + 2)⟩
def memMarks (k : Int) : Nat → List Mem
  | 0 => []
  | n + 1 => memMarks k n ++ [Mem.mark (k + 3 * n)]
theorem memMarks_len (k : Int) (n : Nat) : (memMarks k n).length = n := by
  induction n with
  | zero => rfl
  | succ n ih => simp [memMarks, ih]
theorem memMarks_get (k : Int) (n i : Nat) (h : i < (memMarks k n).length) : (memMarks k n)[i] = Mem.mark (k + 3 * i) := by
  induction n with
  | zero => simp [memMarks] at h
  | succ n ih =>
    simp only [memMarks]
    by_cases hi : i < (memMarks k n).length
    · rw [List.getElem_append_left hi, ih hi]
    · have : i = n := by rw [memMarks_len] at h hi; omega
      subst this
      rw [List.getElem_append_right (by omega)]
      simp
theorem memMarks_succ (k : Int) (n : Nat) : memCells (memMarks k (n + 1)) = memCells (memMarks k n) ++ (Mem.mark (k + 3 * n)).cells := by
  simp [memMarks, memCells]
theorem mem_sets (L : List Value) (p : Nat) (v0 v1 v2 : Value) (h : p + 3 ≤ L.length) : (((L.set (p) v0).set (p + 1) v1).set (p + 2) v2).take (p + 3) = L.take p ++ [v0, v1, v2] := by
  rw [show p + 3 = p + 2 + 1 from rfl, take_set_next _ _ _ (by simp only [List.length_set]; omega), show p + 2 = p + 1 + 1 from rfl, take_set_next _ _ _ (by simp only [List.length_set]; omega), take_set_next _ _ _ (by omega)]
  simp
def memGo (left : Int) : List Mem → Int
  | [] => left
  | s :: r => if szStep left s.name.size < 0 then -1 else memGo (szStep left s.name.size) r
def memSz (left : Int) (xs : List Mem) : Int := if left - xs.length < 0 then -1 else memGo (left - xs.length) xs
theorem memGo_at {l : Int} {xs : List Mem} {k : Nat} (hk : k < xs.length) : memGo l (xs.drop k) = if szStep l xs[k].name.size < 0 then -1 else memGo (szStep l xs[k].name.size) (xs.drop (k + 1)) := by
  rw [List.drop_eq_getElem_cons hk]; rfl
theorem memGo_ok {l : Int} {xs : List Mem} (h : 0 ≤ memGo l xs) : memGo l xs ≤ l ∧ ∀ s ∈ xs, (s.name.size : Int) ≤ l := by
  induction xs generalizing l with
  | nil => simp [memGo]
  | cons s r ih =>
    simp only [memGo] at h ⊢
    by_cases h1 : szStep l s.name.size < 0
    · rw [if_pos h1] at h; omega
    · rw [if_neg h1] at h ⊢
      obtain ⟨h2, h3⟩ := ih h
      have h4 : szStep l s.name.size = l - s.name.size := by
        unfold szStep at h1 ⊢
        by_cases h5 : l - (s.name.size : Int) < 0
        · rw [if_pos h5] at h1; omega
        · rw [if_neg h5]
      rw [h4] at h1 h2 h3 ⊢
      refine ⟨by omega, fun x hx => ?_⟩
      rcases List.mem_cons.1 hx with rfl | hx
      · omega
      · have := h3 x hx; omega
theorem memSz_ok {l : Int} {xs : List Mem} (h : 0 ≤ memSz l xs) : memSz l xs ≤ l ∧ (xs.length : Int) ≤ l ∧ ∀ s ∈ xs, (s.name.size : Int) ≤ l := by
  unfold memSz at h ⊢
  by_cases h1 : l - (xs.length : Int) < 0
  · rw [if_pos h1] at h; omega
  · rw [if_neg h1] at h ⊢
    obtain ⟨h2, h3⟩ := memGo_ok h
    exact ⟨by omega, by omega, fun s hs => by have := h3 s hs; omega⟩
theorem szStep_ok {l n : Int} (h : 0 ≤ szStep l n) : szStep l n ≤ l - n ∧ n ≤ l := by
  unfold szStep at h ⊢
  split at h <;> split <;> omega
end Go.My
namespace Go.Proofs.YtngheildmhimoaaGreatDoor
open Go.RowKit Go.My
theorem el_Mem : ElemOk Tryz.prog 24 54 3 32 := elemOk_mk Tryz.underlying24 (by kernel_rfl) (z := .agg #[.int .i64 0, .string ⟨#[]⟩, .int .i64 0]) rfl (by decide)
end Go.Proofs.YtngheildmhimoaaGreatDoor

