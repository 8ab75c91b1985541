/-
  Contracts of slices.Delete and slices.Insert at AgendaItem, on a row of the caller's own. Conditions: the indexes lie within the length.
-/
import Derived.Test.YtfpjelpbeicdoaaGreatDoorStrItm
import Derived.Test.YtfpjelpbeicdoaaGreatDoorRow
namespace Go.Proofs.YtfpjelpbeicdoaaGreatDoor
open Go.RowKit Go.My
theorem zv_Itm (w : World) : (zeroValue 34).run Tryz.prog w = .ok (.agg #[.int .i64 0, .string ⟨#[]⟩, .int .i64 0, .int .i64 0]) w := by kernel_rfl
theorem itmCells_take (xs : List Itm) (k : Nat) (hk : k ≤ xs.length) : (itmCells xs).take (k * 4) = itmCells (xs.take k) := flat_take _ 4 (fun _ => rfl) xs k hk
theorem itmCells_drop (xs : List Itm) (k : Nat) (hk : k ≤ xs.length) : (itmCells xs).drop (k * 4) = itmCells (xs.drop k) := flat_drop _ 4 (fun _ => rfl) xs k hk
theorem itmCells_append (xs ys : List Itm) : itmCells (xs ++ ys) = itmCells xs ++ itmCells ys := by simp [itmCells]
def RowRet (w : World) (B : Nat) (e : TypeId) (size : Nat) (A : Option Addr) (c n : Nat) (cells : List Value) (row : Option Nat) (en : Ending) (w' : World) : Prop :=
  en = .returned (.slice A n c) ∧ w'.ownsRow B e size (.slice A n c) n cells ∧ w.grownBy w' row
def RowRetN (w : World) (B : Nat) (e : TypeId) (size n : Nat) (cells : List Value) (row : Option Nat) (en : Ending) (w' : World) : Prop :=
  ∃ A c, en = .returned (.slice A n c) ∧ w'.ownsRow B e size (.slice A n c) n cells ∧ w.grownBy w' row ∧ ((Value.slice A n c).ownBlock = row ∨ ∃ k, (Value.slice A n c).ownBlock = some k ∧ w.heap.size ≤ k)
def RowRetE (w : World) (B : Nat) (e : TypeId) (size n : Nat) (cells : List Value) (row : Option Nat) (en : Ending) (w' : World) : Prop :=
  ∃ A c, en = .returned (.slice A n c) ∧ w'.ownsRow B e size (.slice A n c) n cells ∧ w.grownBy w' row
end Go.Proofs.YtfpjelpbeicdoaaGreatDoor

