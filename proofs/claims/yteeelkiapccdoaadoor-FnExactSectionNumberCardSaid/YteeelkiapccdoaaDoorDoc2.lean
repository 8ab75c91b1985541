/-
  Contracts of the functions on documents, more: l6Part, belongsTo, l6Up, PartOf and BelongsTo of the program and of the reference. Conditions: lengths within Go's range.
-/
import Derived.Test.YteeelkiapccdoaaDoorDoc
namespace Go.Proofs.YteeelkiapccdoaaDoor
open Go.RowKit Go.My
set_option maxHeartbeats 1000000 in
theorem belongsTo_any (A : Option Addr) (c : Nat) (xs : List Sec) (i : Nat) (w : World) (hn : xs.length ≤ 1000000) (hi : i < xs.length) (hx : Rd w A (secCells xs)) :
    Calls Tryd.prog 22 #[.slice A xs.length c, .int .i64 i] w fun e w' => e = .returned (.int .i64 (upAt xs i)) ∧ Below w.heap.size w w' := by
  have HT := Lib.hid (upAt_eq hi)
  obtain ⟨b, off, rfl, c1, c2⟩ := Rd.sec hx hi
  generalize xs[i].d = d at *
  clear c2
  go_enter Tryd.func22, Tryd.ntmps22
  go_wp2
  go_loopw [5] (fun q wr => ∃ k : Nat, k ≤ i ∧ q = .int .i64 ((k : Int) - 1) ∧ Hid (upTo xs d i = upTo xs d k) ∧ Below w.heap.size w wr) (fun q _ => ((intOf q) + 1).toNat)
  case atStart => exact ⟨i, by omega, rfl, rfl, Below.refl _ _⟩
  case round =>
    obtain ⟨k, hk, rfl, H, hb⟩ := hrel
    have d1 := cell_after ((hb.cell (World.block_lt_of_cell? w _ c1)).trans c1)
    have hiI : (i : Int) < (xs.length : Int) := by omega
    cases k with
    | zero =>
      have Hm := Lib.hid (HT.out.trans H.out)
      clear H hx c1
      have hd : decide ((0 : Int) ≤ -1) = false := by simp
      rw [show (((0 : Nat) : Int) - 1) = -1 from rfl]
      go_wp2_with fail
      refine wp_region_after (by kernel_rfl) (by kernel_rfl) ?_
      repeat (go_big_quiet_step (fail))
      refine wpQuiet_nil ?_
      intro nq
      go_wp2
      go_ret
      exact ⟨by rw [Hm.out]; rfl, btr hb nq.bel⟩
    | succ k =>
      have hlt : k < xs.length := by omega
      rw [show ((k + 1 : Nat) : Int) - 1 = (k : Int) by omega]
      obtain ⟨b', off', e', k1, -⟩ := Rd.sec (hx.below hb) hlt
      have k2 : b' = b ∧ off' = off := by simpa using e'.symm
      obtain ⟨rfl, rfl⟩ := k2
      clear e'
      have g1 := cell_after k1
      have hkI : (k : Int) < (xs.length : Int) := by omega
      have Hy : Hid (xs[k].d < d → upTo xs d i = k) := fun h => H.out.trans (upTo_yes hlt h)
      have Hz : Hid (d ≤ xs[k].d → upTo xs d i = upTo xs d k) := fun h => H.out.trans (upTo_no hlt (by omega))
      clear H hx c1 k1
      generalize xs[k].d = q at *
      have hd : decide ((0 : Int) ≤ (k : Int)) = true := by simp
      go_wp2_with fail
      refine wp_region_after (by kernel_rfl) (by kernel_rfl) ?_
      repeat (go_big_quiet_step (fail))
      refine wpQuiet_nil ?_
      intro nq
      by_cases hq : q < d
      · have Hm := Lib.hid (HT.out.trans (Hy.out hq))
        clear Hy Hz
        go_wp2
        go_ret
        exact ⟨by rw [Hm.out]; rfl, btr hb nq.bel⟩
      · have Hm := Lib.hid (Hz.out (by omega))
        clear Hy Hz
        go_wp2
        go_roundw
        case rel => exact ⟨k, by omega, by go_num, Hm, btr hb nq.bel⟩
        case measure => simp [intOf]
set_option maxHeartbeats 1000000 in
theorem l6Up_any (A : Option Addr) (c : Nat) (xs : List Sec) (i : Nat) (w : World) (hn : xs.length ≤ 1000000) (hi : i < xs.length) (hx : Rd w A (secCells xs)) :
    Calls Tryd.prog 18 #[.slice A xs.length c, .int .i64 i] w fun e w' => e = .returned (.int .i64 (upAt xs i)) ∧ Below w.heap.size w w' := by
  have HT := Lib.hid (upAt_eq hi)
  obtain ⟨b, off, rfl, c1, c2⟩ := Rd.sec hx hi
  generalize xs[i].d = d at *
  clear c2
  go_enter Tryd.func18, Tryd.ntmps18
  go_wp2
  go_loopw [5] (fun q wr => ∃ k : Nat, k ≤ i ∧ q = .int .i64 ((k : Int) - 1) ∧ Hid (upTo xs d i = upTo xs d k) ∧ Below w.heap.size w wr) (fun q _ => ((intOf q) + 1).toNat)
  case atStart => exact ⟨i, by omega, rfl, rfl, Below.refl _ _⟩
  case round =>
    obtain ⟨k, hk, rfl, H, hb⟩ := hrel
    have d1 := cell_after ((hb.cell (World.block_lt_of_cell? w _ c1)).trans c1)
    have hiI : (i : Int) < (xs.length : Int) := by omega
    cases k with
    | zero =>
      have Hm := Lib.hid (HT.out.trans H.out)
      clear H hx c1
      rw [show (((0 : Nat) : Int) - 1) = -1 from rfl]
      go_wp2
      go_ret
      exact ⟨by rw [Hm.out]; rfl, hb⟩
    | succ k =>
      have hlt : k < xs.length := by omega
      rw [show ((k + 1 : Nat) : Int) - 1 = (k : Int) by omega]
      obtain ⟨b', off', e', k1, -⟩ := Rd.sec (hx.below hb) hlt
      have k2 : b' = b ∧ off' = off := by simpa using e'.symm
      obtain ⟨rfl, rfl⟩ := k2
      clear e'
      have g1 := cell_after k1
      have hkI : (k : Int) < (xs.length : Int) := by omega
      have Hy : Hid (xs[k].d < d → upTo xs d i = k) := fun h => H.out.trans (upTo_yes hlt h)
      have Hz : Hid (d ≤ xs[k].d → upTo xs d i = upTo xs d k) := fun h => H.out.trans (upTo_no hlt (by omega))
      clear H hx c1 k1
      generalize xs[k].d = q at *
      go_wp2_with fail
      refine wp_region_after (by kernel_rfl) (by kernel_rfl) ?_
      repeat (go_big_quiet_step (fail))
      refine wpQuiet_nil ?_
      intro nq
      by_cases hq : q < d
      · have Hm := Lib.hid (HT.out.trans (Hy.out hq))
        clear Hy Hz
        go_wp2
        go_ret
        exact ⟨by rw [Hm.out]; rfl, btr hb nq.bel⟩
      · have Hm := Lib.hid (Hz.out (by omega))
        clear Hy Hz
        go_wp2
        go_roundw
        case rel => exact ⟨k, by omega, by go_num, Hm, btr hb nq.bel⟩
        case measure => simp [intOf]
/-- What PartOf answers. -/
def partOfR (xs : List Sec) (i : Int) : Int × Bool := if okAt xs i then (partLen xs i.toNat, true) else (0, false)
/-- What BelongsTo answers. -/
def belongsR (xs : List Sec) (i : Int) : Int × Bool := if okAt xs i && decide (0 ≤ upAt xs i.toNat) then (upAt xs i.toNat, true) else (0, false)
theorem okAt_idx {xs : List Sec} {i : Int} (h : okAt xs i = true) : ∃ k : Nat, i = k ∧ k < xs.length ∧ xs.length ≤ 12 := by
  simp only [okAt, goodDoc, inB, Bool.and_eq_true, decide_eq_true_eq] at h
  exact ⟨i.toNat, by omega, by omega, h.1.2⟩
end Go.Proofs.YteeelkiapccdoaaDoor
