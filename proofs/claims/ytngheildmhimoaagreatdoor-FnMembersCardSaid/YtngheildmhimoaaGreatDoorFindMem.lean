/-
  The reference's search for Member by its number. Conditions: lengths within Go's range.
-/
import Derived.Test.YtngheildmhimoaaGreatDoorIdxMem
namespace Go.Proofs.YtngheildmhimoaaGreatDoor
open Go.RowKit Go.My
set_option maxHeartbeats 400000 in
theorem findMem_any (A : Option Addr) (c : Nat) (xs : List Mem) (i : Int) (w : World) (hn : xs.length ≤ maxLen) (hx : Rd w A (memCells xs)) :
    Calls Tryz.prog 37 #[.slice A xs.length c, .int .i64 i] w fun e w' => e = .returned (.int .i64 (idxOf (fun s : Mem => s.num == i) xs)) ∧ Below w.heap.size w w' := by
  unfold maxLen at hn
  go_enter Tryz.func37, Tryz.ntmps37
  go_wp2
  go_loopw [5] (fun q wr => ∃ k : Nat, k ≤ xs.length ∧ q = .int .i64 k ∧ Hid (idxOf (fun s : Mem => s.num == i) xs = idxFrom (fun s : Mem => s.num == i) k (xs.drop k)) ∧ Below w.heap.size w wr) (fun q _ => xs.length - (intOf q).toNat)
  case atStart => exact ⟨0, by omega, rfl, rfl, Below.refl _ _⟩
  case round =>
    obtain ⟨k, hk, rfl, H, hb⟩ := hrel
    by_cases hlt : k < xs.length
    · obtain ⟨b, off, rfl, c0, c1, c2⟩ := Rd.mem (hx.below hb) hlt
      have Hn := Lib.hid (H.out.trans (idxFrom_at hlt))
      clear H
      generalize xs[k] = s at *
      by_cases hq : (s.num == i) = true
      · have Hf := Lib.hid (Hn.out.trans (if_pos hq))
        clear Hn
        go_wp2
        go_ret
        exact ⟨by rw [Hf.out]; rfl, hb⟩
      · have Hf := Lib.hid (Hn.out.trans (if_neg hq))
        have hq' : (s.num == i) = false := by simpa using hq
        clear Hn hq
        go_wp2
        go_roundw
        case rel => exact ⟨k + 1, by omega, by go_num, Hf, hb⟩
        case measure => simp [intOf]; omega
    · have Hf := Lib.hid (H.out.trans (by rw [List.drop_eq_nil_of_le (by omega)]))
      clear H
      go_wp2
      go_ret
      exact ⟨by rw [Hf.out]; rfl, hb⟩
end Go.Proofs.YtngheildmhimoaaGreatDoor

