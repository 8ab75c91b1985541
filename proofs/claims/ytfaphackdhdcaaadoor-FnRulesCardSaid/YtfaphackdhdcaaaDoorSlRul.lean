/-
  Contracts of slices.Delete and slices.Insert at Rule, on a row of the caller's own. Conditions: the indexes lie within the length.
-/
import Derived.Test.YtfaphackdhdcaaaDoorStrRul
import Derived.Test.YtfaphackdhdcaaaDoorRow
namespace Go.Proofs.YtfaphackdhdcaaaDoor
open Go.RowKit Go.My
theorem zv_Rul (w : World) : (zeroValue 27).run Tryd.prog w = .ok (.agg #[.int .i64 0, .string ⟨#[]⟩, .int .i64 0, .bool false, .bool false, .bool false, .int .i64 0]) w := by kernel_rfl
theorem rulCells_take (xs : List Rul) (k : Nat) (hk : k ≤ xs.length) : (rulCells xs).take (k * 7) = rulCells (xs.take k) := flat_take _ 7 (fun _ => rfl) xs k hk
theorem rulCells_drop (xs : List Rul) (k : Nat) (hk : k ≤ xs.length) : (rulCells xs).drop (k * 7) = rulCells (xs.drop k) := flat_drop _ 7 (fun _ => rfl) xs k hk
theorem rulCells_append (xs ys : List Rul) : rulCells (xs ++ ys) = rulCells xs ++ rulCells ys := by simp [rulCells]
def RowRet (w : World) (B : Nat) (e : TypeId) (size : Nat) (A : Option Addr) (c n : Nat) (cells : List Value) (row : Option Nat) (en : Ending) (w' : World) : Prop :=
  en = .returned (.slice A n c) ∧ w'.ownsRow B e size (.slice A n c) n cells ∧ w.grownBy w' row
def RowRetN (w : World) (B : Nat) (e : TypeId) (size n : Nat) (cells : List Value) (row : Option Nat) (en : Ending) (w' : World) : Prop :=
  ∃ A c, en = .returned (.slice A n c) ∧ w'.ownsRow B e size (.slice A n c) n cells ∧ w.grownBy w' row ∧ ((Value.slice A n c).ownBlock = row ∨ ∃ k, (Value.slice A n c).ownBlock = some k ∧ w.heap.size ≤ k)
def RowRetE (w : World) (B : Nat) (e : TypeId) (size n : Nat) (cells : List Value) (row : Option Nat) (en : Ending) (w' : World) : Prop :=
  ∃ A c, en = .returned (.slice A n c) ∧ w'.ownsRow B e size (.slice A n c) n cells ∧ w.grownBy w' row
end Go.Proofs.YtfaphackdhdcaaaDoor

