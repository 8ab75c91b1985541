/-
  FormatInt: both texts; the law's walk. Conditions: the library's table of powers of ten is as laid.
-/
import Derived.Test.YtfpjelpbeicdoaaGreatDoorDNum
namespace Go.My
open Go.RowKit
theorem below_gr (w : World) (k : Nat) (os : Array Obj) : Below w.heap.size w (Go.Sort.grow (w.drewN k) os) := by
  refine ⟨rfl, rfl, rfl, by simp [Go.Sort.grow, World.drewN], fun j hj => ?_⟩
  simp only [Go.Sort.grow, World.drewN]
  exact Array.getElem?_append_left hj
def fmtR (n : Int) : ByteArray × Bool := if inB n (-999999) 999999 = true then (⟨(Lib.itoa n).toArray⟩, true) else (⟨#[]⟩, false)
end Go.My
namespace Go.Proofs.YtfpjelpbeicdoaaGreatDoor
open Go.RowKit Go.My
theorem tab_below {w w' : World} {nm : String} {k : IntKind} {zs : List Int} (h : Lib.TabIs Tryz.prog w nm k zs) (hb : Below w.heap.size w w') : Lib.TabIs Tryz.prog w' nm k zs := by
  unfold Lib.TabIs World.var? at *
  cases hg : (Tryz.prog).globalNamed nm with
  | none => rw [hg] at h; simp at h
  | some g =>
    rw [hg] at h
    simp only [Option.bind_some] at h ⊢
    have hl : g < w.heap.size := by
      by_cases hl : g < w.heap.size
      · exact hl
      · rw [Array.getElem?_eq_none (by omega)] at h; cases h
    rw [hb.block g hl]
    exact h
end Go.Proofs.YtfpjelpbeicdoaaGreatDoor

