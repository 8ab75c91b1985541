/-
  Contracts of the functions on documents, more: l6Part, belongsTo, l6Up, PartOf and BelongsTo of the program and of the reference. Conditions: lengths within Go's range.
-/
import Derived.Test.YthedlelkilkpaaaDoc
namespace Go.Proofs.Ythedlelkilkpaaa
open Go.RowKit Go.My
set_option maxHeartbeats 1000000 in
theorem l6Part_any (A : Option Addr) (c : Nat) (xs : List Sec) (i : Nat) (w : World) (hn : xs.length ≤ 1000000) (hi : i < xs.length) (hx : Rd w A (secCells xs)) :
    Calls Try.prog 18 #[.slice A xs.length c, .int .i64 i] w fun e w' => e = .returned (.int .i64 (partLen xs i : Nat)) ∧ Below w.heap.size w w' := by
  have HT := Lib.hid (partLen_eq hi)
  obtain ⟨b, off, rfl, c1, c2⟩ := Rd.sec hx hi
  generalize xs[i].d = d at *
  clear c2
  go_enter Try.func18, Try.ntmps18
  go_wp2
  go_loopw [5] (fun q wr => ∃ k : Nat, i + k + 1 ≤ xs.length ∧ q = .int .i64 k ∧ Hid (deeper d (xs.drop (i + 1)) = k + deeper d (xs.drop (i + k + 1))) ∧ Below w.heap.size w wr) (fun q _ => xs.length - (intOf q).toNat)
  case atStart => exact ⟨0, by omega, rfl, by simp [Hid], Below.refl _ _⟩
  case round =>
    obtain ⟨k, hk, rfl, H, hb⟩ := hrel
    have d1 := cell_after ((hb.cell (World.block_lt_of_cell? w _ c1)).trans c1)
    have hiI : (i : Int) < (xs.length : Int) := by omega
    by_cases hlt : i + k + 1 < xs.length
    · obtain ⟨b', off', e', k1, -⟩ := Rd.sec (hx.below hb) hlt
      have k2 : b' = b ∧ off' = off := by simpa using e'.symm
      obtain ⟨rfl, rfl⟩ := k2
      clear e'
      have g1 := cell_after k1
      have hkI : (i : Int) + (k : Int) + 1 < (xs.length : Int) := by omega
      have Hn := Lib.hid (H.out.trans (by rw [deeper_at hlt]))
      clear H hx c1 k1
      generalize xs[i + k + 1].d = q at *
      have hd : decide ((i : Int) + (k : Int) + 1 < (xs.length : Int)) = true := by simp; omega
      go_wp2_with fail
      refine wp_region_after (by kernel_rfl) (by kernel_rfl) ?_
      repeat (go_big_quiet_step (fail))
      refine wpQuiet_nil ?_
      intro nq
      by_cases hq : d < q
      · have Hm := Lib.hid (Hn.out.trans (by rw [if_pos hq]))
        clear Hn
        go_wp2
        go_roundw
        case rel => exact ⟨k + 1, by omega, by go_num, (by show _ = _; rw [Hm.out, show i + (k + 1) + 1 = i + k + 1 + 1 by omega]; omega), btr hb nq.bel⟩
        case measure => simp [intOf]; omega
      · have Hm := Lib.hid (HT.out.trans (Hn.out.trans (by rw [if_neg hq])))
        clear Hn
        go_wp2
        go_ret
        exact ⟨by rw [Hm.out]; simp, btr hb nq.bel⟩
    · have Hm := Lib.hid (HT.out.trans (H.out.trans (by rw [List.drop_eq_nil_of_le (by omega)])))
      clear H hx c1
      have hd : decide ((i : Int) + (k : Int) + 1 < (xs.length : Int)) = false := by simp; omega
      go_wp2_with fail
      refine wp_region_after (by kernel_rfl) (by kernel_rfl) ?_
      repeat (go_big_quiet_step (fail))
      refine wpQuiet_nil ?_
      intro nq
      go_wp2
      go_ret
      exact ⟨by rw [Hm.out]; simp [deeper], btr hb nq.bel⟩
/-- What PartOf answers. -/
def partOfR (xs : List Sec) (i : Int) : Int × Bool := if okAt xs i then (partLen xs i.toNat, true) else (0, false)
/-- What BelongsTo answers. -/
def belongsR (xs : List Sec) (i : Int) : Int × Bool := if okAt xs i && decide (0 ≤ upAt xs i.toNat) then (upAt xs i.toNat, true) else (0, false)
theorem okAt_idx {xs : List Sec} {i : Int} (h : okAt xs i = true) : ∃ k : Nat, i = k ∧ k < xs.length ∧ xs.length ≤ 12 := by
  simp only [okAt, goodDoc, inB, Bool.and_eq_true, decide_eq_true_eq] at h
  exact ⟨i.toNat, by omega, by omega, h.1.2⟩
end Go.Proofs.Ythedlelkilkpaaa
