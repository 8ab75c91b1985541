/-
  Contracts of the functions on documents, more: l6Part, belongsTo, l6Up, PartOf and BelongsTo of the program and of the reference. Conditions: lengths within Go's range.
-/
import Derived.Test.YthkkicpdchngmaaDoc
namespace Go.Proofs.Ythkkicpdchngmaa
open Go.RowKit Go.My
set_option maxHeartbeats 1000000 in
theorem l6Part_any (A : Option Addr) (c : Nat) (xs : List Sec) (i : Nat) (w : World) (hn : xs.length ≤ 1000000) (hi : i < xs.length) (hx : Rd w A (secCells xs)) :
    Calls Try.prog 33 #[.slice A xs.length c, .int .i64 i] w fun e w' => e = .returned (.int .i64 (partLen xs i : Nat)) ∧ Below w.heap.size w w' := by
  have HT := Lib.hid (partLen_eq hi)
  obtain ⟨b, off, rfl, c1, c2⟩ := Rd.sec hx hi
  generalize xs[i].d = d at *
  clear c2
  go_enter Try.func33, Try.ntmps33
  go_wp2
  go_loopw [5] (fun q wr => ∃ k : Nat, i + k + 1 ≤ xs.length ∧ q = .int .i64 k ∧ Hid (deeper d (xs.drop (i + 1)) = k + deeper d (xs.drop (i + k + 1))) ∧ Below w.heap.size w wr) (fun q _ => xs.length - (intOf q).toNat)
  case atStart => exact ⟨0, by omega, rfl, by simp [Hid], Below.refl _ _⟩
  case round =>
    obtain ⟨k, hk, rfl, H, hb⟩ := hrel
    have d1 := cell_after ((hb.cell (World.block_lt_of_cell? w _ c1)).trans c1)
    have hiI : (i : Int) < (xs.length : Int) := by omega
    by_cases hlt : i + k + 1 < xs.length
    · obtain ⟨b', off', e', k1, -⟩ := Rd.sec (hx.below hb) hlt
      have k2 : b' = b ∧ off' = off := by simpa using e'.symm
      obtain ⟨rfl, rfl⟩ := k2
      clear e'
      have g1 := cell_after k1
      have hkI : (i : Int) + (k : Int) + 1 < (xs.length : Int) := by omega
      have Hn := Lib.hid (H.out.trans (by rw [deeper_at hlt]))
      clear H hx c1 k1
      generalize xs[i + k + 1].d = q at *
      have hd : decide ((i : Int) + (k : Int) + 1 < (xs.length : Int)) = true := by simp; omega
      go_wp2_with fail
      refine wp_region_after (by kernel_rfl) (by kernel_rfl) ?_
      repeat (go_big_quiet_step (fail))
      refine wpQuiet_nil ?_
      intro nq
      by_cases hq : d < q
      · have Hm := Lib.hid (Hn.out.trans (by rw [if_pos hq]))
        clear Hn
        go_wp2
        go_roundw
        case rel => exact ⟨k + 1, by omega, by go_num, (by show _ = _; rw [Hm.out, show i + (k + 1) + 1 = i + k + 1 + 1 by omega]; omega), btr hb nq.bel⟩
        case measure => simp [intOf]; omega
      · have Hm := Lib.hid (HT.out.trans (Hn.out.trans (by rw [if_neg hq])))
        clear Hn
        go_wp2
        go_ret
        exact ⟨by rw [Hm.out]; simp, btr hb nq.bel⟩
    · have Hm := Lib.hid (HT.out.trans (H.out.trans (by rw [List.drop_eq_nil_of_le (by omega)])))
      clear H hx c1
      have hd : decide ((i : Int) + (k : Int) + 1 < (xs.length : Int)) = false := by simp; omega
      go_wp2_with fail
      refine wp_region_after (by kernel_rfl) (by kernel_rfl) ?_
      repeat (go_big_quiet_step (fail))
      refine wpQuiet_nil ?_
      intro nq
      go_wp2
      go_ret
      exact ⟨by rw [Hm.out]; simp [deeper], btr hb nq.bel⟩
set_option maxHeartbeats 1000000 in
theorem belongsTo_any (A : Option Addr) (c : Nat) (xs : List Sec) (i : Nat) (w : World) (hn : xs.length ≤ 1000000) (hi : i < xs.length) (hx : Rd w A (secCells xs)) :
    Calls Try.prog 37 #[.slice A xs.length c, .int .i64 i] w fun e w' => e = .returned (.int .i64 (upAt xs i)) ∧ Below w.heap.size w w' := by
  have HT := Lib.hid (upAt_eq hi)
  obtain ⟨b, off, rfl, c1, c2⟩ := Rd.sec hx hi
  generalize xs[i].d = d at *
  clear c2
  go_enter Try.func37, Try.ntmps37
  go_wp2
  go_loopw [5] (fun q wr => ∃ k : Nat, k ≤ i ∧ q = .int .i64 ((k : Int) - 1) ∧ Hid (upTo xs d i = upTo xs d k) ∧ Below w.heap.size w wr) (fun q _ => ((intOf q) + 1).toNat)
  case atStart => exact ⟨i, by omega, rfl, rfl, Below.refl _ _⟩
  case round =>
    obtain ⟨k, hk, rfl, H, hb⟩ := hrel
    have d1 := cell_after ((hb.cell (World.block_lt_of_cell? w _ c1)).trans c1)
    have hiI : (i : Int) < (xs.length : Int) := by omega
    cases k with
    | zero =>
      have Hm := Lib.hid (HT.out.trans H.out)
      clear H hx c1
      have hd : decide ((0 : Int) ≤ -1) = false := by simp
      rw [show (((0 : Nat) : Int) - 1) = -1 from rfl]
      go_wp2_with fail
      refine wp_region_after (by kernel_rfl) (by kernel_rfl) ?_
      repeat (go_big_quiet_step (fail))
      refine wpQuiet_nil ?_
      intro nq
      go_wp2
      go_ret
      exact ⟨by rw [Hm.out]; rfl, btr hb nq.bel⟩
    | succ k =>
      have hlt : k < xs.length := by omega
      rw [show ((k + 1 : Nat) : Int) - 1 = (k : Int) by omega]
      obtain ⟨b', off', e', k1, -⟩ := Rd.sec (hx.below hb) hlt
      have k2 : b' = b ∧ off' = off := by simpa using e'.symm
      obtain ⟨rfl, rfl⟩ := k2
      clear e'
      have g1 := cell_after k1
      have hkI : (k : Int) < (xs.length : Int) := by omega
      have Hy : Hid (xs[k].d < d → upTo xs d i = k) := fun h => H.out.trans (upTo_yes hlt h)
      have Hz : Hid (d ≤ xs[k].d → upTo xs d i = upTo xs d k) := fun h => H.out.trans (upTo_no hlt (by omega))
      clear H hx c1 k1
      generalize xs[k].d = q at *
      have hd : decide ((0 : Int) ≤ (k : Int)) = true := by simp
      go_wp2_with fail
      refine wp_region_after (by kernel_rfl) (by kernel_rfl) ?_
      repeat (go_big_quiet_step (fail))
      refine wpQuiet_nil ?_
      intro nq
      by_cases hq : q < d
      · have Hm := Lib.hid (HT.out.trans (Hy.out hq))
        clear Hy Hz
        go_wp2
        go_ret
        exact ⟨by rw [Hm.out]; rfl, btr hb nq.bel⟩
      · have Hm := Lib.hid (Hz.out (by omega))
        clear Hy Hz
        go_wp2
        go_roundw
        case rel => exact ⟨k, by omega, by go_num, Hm, btr hb nq.bel⟩
        case measure => simp [intOf]
set_option maxHeartbeats 1000000 in
theorem l6Up_any (A : Option Addr) (c : Nat) (xs : List Sec) (i : Nat) (w : World) (hn : xs.length ≤ 1000000) (hi : i < xs.length) (hx : Rd w A (secCells xs)) :
    Calls Try.prog 36 #[.slice A xs.length c, .int .i64 i] w fun e w' => e = .returned (.int .i64 (upAt xs i)) ∧ Below w.heap.size w w' := by
  have HT := Lib.hid (upAt_eq hi)
  obtain ⟨b, off, rfl, c1, c2⟩ := Rd.sec hx hi
  generalize xs[i].d = d at *
  clear c2
  go_enter Try.func36, Try.ntmps36
  go_wp2
  go_loopw [5] (fun q wr => ∃ k : Nat, k ≤ i ∧ q = .int .i64 ((k : Int) - 1) ∧ Hid (upTo xs d i = upTo xs d k) ∧ Below w.heap.size w wr) (fun q _ => ((intOf q) + 1).toNat)
  case atStart => exact ⟨i, by omega, rfl, rfl, Below.refl _ _⟩
  case round =>
    obtain ⟨k, hk, rfl, H, hb⟩ := hrel
    have d1 := cell_after ((hb.cell (World.block_lt_of_cell? w _ c1)).trans c1)
    have hiI : (i : Int) < (xs.length : Int) := by omega
    cases k with
    | zero =>
      have Hm := Lib.hid (HT.out.trans H.out)
      clear H hx c1
      rw [show (((0 : Nat) : Int) - 1) = -1 from rfl]
      go_wp2
      go_ret
      exact ⟨by rw [Hm.out]; rfl, hb⟩
    | succ k =>
      have hlt : k < xs.length := by omega
      rw [show ((k + 1 : Nat) : Int) - 1 = (k : Int) by omega]
      obtain ⟨b', off', e', k1, -⟩ := Rd.sec (hx.below hb) hlt
      have k2 : b' = b ∧ off' = off := by simpa using e'.symm
      obtain ⟨rfl, rfl⟩ := k2
      clear e'
      have g1 := cell_after k1
      have hkI : (k : Int) < (xs.length : Int) := by omega
      have Hy : Hid (xs[k].d < d → upTo xs d i = k) := fun h => H.out.trans (upTo_yes hlt h)
      have Hz : Hid (d ≤ xs[k].d → upTo xs d i = upTo xs d k) := fun h => H.out.trans (upTo_no hlt (by omega))
      clear H hx c1 k1
      generalize xs[k].d = q at *
      go_wp2_with fail
      refine wp_region_after (by kernel_rfl) (by kernel_rfl) ?_
      repeat (go_big_quiet_step (fail))
      refine wpQuiet_nil ?_
      intro nq
      by_cases hq : q < d
      · have Hm := Lib.hid (HT.out.trans (Hy.out hq))
        clear Hy Hz
        go_wp2
        go_ret
        exact ⟨by rw [Hm.out]; rfl, btr hb nq.bel⟩
      · have Hm := Lib.hid (Hz.out (by omega))
        clear Hy Hz
        go_wp2
        go_roundw
        case rel => exact ⟨k, by omega, by go_num, Hm, btr hb nq.bel⟩
        case measure => simp [intOf]
set_option maxHeartbeats 400000 in
theorem isDoc_spec (A : Option Addr) (c : Nat) (xs : List Sec) (w : World) (hn : xs.length ≤ maxLen) (hx : Rd w A (secCells xs)) (hs : ∀ s ∈ xs, s.t.size ≤ maxLen) :
    Calls Try.prog 10 #[.slice A xs.length c] w fun e w' => e = .returned (.bool (goodDoc xs)) ∧ Below w.heap.size w w' := by
  have Hc := Lib.hid (l6Good_any A c xs w hn hx hs)
  clear hn hx hs
  go_enter Try.func10, Try.ntmps10
  go_wp2_with (first | (go_at_call 28; refine Hc.out.mono ?_; rintro e w1 ⟨rfl, hb1⟩))
  go_ret
  exact ⟨rfl, hb1⟩
/-- What PartOf answers. -/
def partOfR (xs : List Sec) (i : Int) : Int × Bool := if okAt xs i then (partLen xs i.toNat, true) else (0, false)
/-- What BelongsTo answers. -/
def belongsR (xs : List Sec) (i : Int) : Int × Bool := if okAt xs i && decide (0 ≤ upAt xs i.toNat) then (upAt xs i.toNat, true) else (0, false)
theorem okAt_idx {xs : List Sec} {i : Int} (h : okAt xs i = true) : ∃ k : Nat, i = k ∧ k < xs.length ∧ xs.length ≤ 12 := by
  simp only [okAt, goodDoc, inB, Bool.and_eq_true, decide_eq_true_eq] at h
  exact ⟨i.toNat, by omega, by omega, h.1.2⟩
set_option maxHeartbeats 400000 in
theorem partOf_any (A : Option Addr) (c : Nat) (xs : List Sec) (i : Int) (w : World) (hn : xs.length ≤ maxLen) (hx : Rd w A (secCells xs)) (hs : ∀ s ∈ xs, s.t.size ≤ maxLen) :
    Calls Try.prog 15 #[.slice A xs.length c, .int .i64 i] w fun e w' => e = .returned (.tuple #[.int .i64 (partOfR xs i).1, .bool (partOfR xs i).2]) ∧ Below w.heap.size w w' := by
  have Hc := Lib.hid (hasSection_any A c xs i w hn hx hs)
  by_cases hg : okAt xs i = true
  · obtain ⟨k, rfl, hk, h12⟩ := okAt_idx hg
    have HT : Hid (partOfR xs k = (((partLen xs k : Nat) : Int), true)) := by show _ = _; simp [partOfR, hg]
    have Hp : Hid (∀ w1, Rd w1 A (secCells xs) → Calls Try.prog 35 #[.slice A xs.length c, .int .i64 k] w1 fun e w' => e = .returned (.int .i64 (partLen xs k : Nat)) ∧ Below w1.heap.size w1 w') := fun w1 h1 => partsOf_any A c xs k w1 (by omega) hk h1
    clear hs hn
    go_enter Try.func15, Try.ntmps15
    go_wp2_with (first | (go_at_call 34; refine Hc.out.mono ?_; rintro e w1 ⟨rfl, hb1⟩) | (go_at_call 35; refine (Hp.out _ (hx.below hb1)).mono ?_; rintro e w2 ⟨rfl, hb2⟩))
    go_ret2
    exact ⟨by rw [HT.out]; rfl, btr hb1 hb2⟩
  · have hg' : okAt xs i = false := by simpa using hg
    have HT : Hid (partOfR xs i = (0, false)) := by show _ = _; simp [partOfR, hg']
    clear hs hn hx
    go_enter Try.func15, Try.ntmps15
    go_wp2_with (first | (go_at_call 34; refine Hc.out.mono ?_; rintro e w1 ⟨rfl, hb1⟩))
    go_ret2
    exact ⟨by rw [HT.out]; rfl, hb1⟩
set_option maxHeartbeats 400000 in
theorem partOf_spec (A : Option Addr) (c : Nat) (xs : List Sec) (i : Int) (w : World) (hn : xs.length ≤ maxLen) (hx : Rd w A (secCells xs)) (hs : ∀ s ∈ xs, s.t.size ≤ maxLen) :
    Calls Try.prog 14 #[.slice A xs.length c, .int .i64 i] w fun e w' => e = .returned (.tuple #[.int .i64 (partOfR xs i).1, .bool (partOfR xs i).2]) ∧ Below w.heap.size w w' := by
  have Hc := Lib.hid (l6Asked_any A c xs i w hn hx hs)
  by_cases hg : okAt xs i = true
  · obtain ⟨k, rfl, hk, h12⟩ := okAt_idx hg
    have HT : Hid (partOfR xs k = (((partLen xs k : Nat) : Int), true)) := by show _ = _; simp [partOfR, hg]
    have Hp : Hid (∀ w1, Rd w1 A (secCells xs) → Calls Try.prog 33 #[.slice A xs.length c, .int .i64 k] w1 fun e w' => e = .returned (.int .i64 (partLen xs k : Nat)) ∧ Below w1.heap.size w1 w') := fun w1 h1 => l6Part_any A c xs k w1 (by omega) hk h1
    clear hs hn
    go_enter Try.func14, Try.ntmps14
    go_wp2_with (first | (go_at_call 32; refine Hc.out.mono ?_; rintro e w1 ⟨rfl, hb1⟩) | (go_at_call 33; refine (Hp.out _ (hx.below hb1)).mono ?_; rintro e w2 ⟨rfl, hb2⟩))
    go_ret2
    exact ⟨by rw [HT.out]; rfl, btr hb1 hb2⟩
  · have hg' : okAt xs i = false := by simpa using hg
    have HT : Hid (partOfR xs i = (0, false)) := by show _ = _; simp [partOfR, hg']
    clear hs hn hx
    go_enter Try.func14, Try.ntmps14
    go_wp2_with (first | (go_at_call 32; refine Hc.out.mono ?_; rintro e w1 ⟨rfl, hb1⟩))
    go_ret2
    exact ⟨by rw [HT.out]; rfl, hb1⟩
set_option maxHeartbeats 400000 in
theorem belongs_any (A : Option Addr) (c : Nat) (xs : List Sec) (i : Int) (w : World) (hn : xs.length ≤ maxLen) (hx : Rd w A (secCells xs)) (hs : ∀ s ∈ xs, s.t.size ≤ maxLen) :
    Calls Try.prog 17 #[.slice A xs.length c, .int .i64 i] w fun e w' => e = .returned (.tuple #[.int .i64 (belongsR xs i).1, .bool (belongsR xs i).2]) ∧ Below w.heap.size w w' := by
  have Hc := Lib.hid (hasSection_any A c xs i w hn hx hs)
  by_cases hg : okAt xs i = true
  · obtain ⟨k, rfl, hk, h12⟩ := okAt_idx hg
    have Hp : Hid (∀ w1, Rd w1 A (secCells xs) → Calls Try.prog 37 #[.slice A xs.length c, .int .i64 k] w1 fun e w' => e = .returned (.int .i64 (upAt xs k)) ∧ Below w1.heap.size w1 w') := fun w1 h1 => belongsTo_any A c xs k w1 (by omega) hk h1
    clear hs hn
    by_cases hu : 0 ≤ upAt xs k
    · have HT : Hid (belongsR xs k = (upAt xs k, true)) := by show _ = _; simp [belongsR, hg, hu]
      go_enter Try.func17, Try.ntmps17
      go_wp2_with (first | (go_at_call 34; refine Hc.out.mono ?_; rintro e w1 ⟨rfl, hb1⟩; have hx1 := hx.below hb1; clear hx) | (go_at_call 37; refine (Hp.out _ hx1).mono ?_; rintro e w2 ⟨rfl, hb2⟩; replace hx1 := hx1.below hb2; replace hb1 := btr hb1 hb2; clear hb2))
      go_ret2
      exact ⟨by rw [HT.out]; rfl, hb1⟩
    · have HT : Hid (belongsR xs k = (0, false)) := by show _ = _; simp [belongsR, hu]
      go_enter Try.func17, Try.ntmps17
      go_wp2_with (first | (go_at_call 34; refine Hc.out.mono ?_; rintro e w1 ⟨rfl, hb1⟩; have hx1 := hx.below hb1; clear hx) | (go_at_call 37; refine (Hp.out _ hx1).mono ?_; rintro e w2 ⟨rfl, hb2⟩; replace hx1 := hx1.below hb2; replace hb1 := btr hb1 hb2; clear hb2))
      go_ret2
      exact ⟨by rw [HT.out]; rfl, hb1⟩
  · have hg' : okAt xs i = false := by simpa using hg
    have HT : Hid (belongsR xs i = (0, false)) := by show _ = _; simp [belongsR, hg']
    clear hs hn hx
    go_enter Try.func17, Try.ntmps17
    go_wp2_with (first | (go_at_call 34; refine Hc.out.mono ?_; rintro e w1 ⟨rfl, hb1⟩))
    go_ret2
    exact ⟨by rw [HT.out]; rfl, hb1⟩
set_option maxHeartbeats 400000 in
theorem belongs_spec (A : Option Addr) (c : Nat) (xs : List Sec) (i : Int) (w : World) (hn : xs.length ≤ maxLen) (hx : Rd w A (secCells xs)) (hs : ∀ s ∈ xs, s.t.size ≤ maxLen) :
    Calls Try.prog 16 #[.slice A xs.length c, .int .i64 i] w fun e w' => e = .returned (.tuple #[.int .i64 (belongsR xs i).1, .bool (belongsR xs i).2]) ∧ Below w.heap.size w w' := by
  have Hc := Lib.hid (l6Asked_any A c xs i w hn hx hs)
  by_cases hg : okAt xs i = true
  · obtain ⟨k, rfl, hk, h12⟩ := okAt_idx hg
    have Hp : Hid (∀ w1, Rd w1 A (secCells xs) → Calls Try.prog 36 #[.slice A xs.length c, .int .i64 k] w1 fun e w' => e = .returned (.int .i64 (upAt xs k)) ∧ Below w1.heap.size w1 w') := fun w1 h1 => l6Up_any A c xs k w1 (by omega) hk h1
    clear hs hn
    by_cases hu : 0 ≤ upAt xs k
    · have HT : Hid (belongsR xs k = (upAt xs k, true)) := by show _ = _; simp [belongsR, hg, hu]
      go_enter Try.func16, Try.ntmps16
      go_wp2_with (first | (go_at_call 32; refine Hc.out.mono ?_; rintro e w1 ⟨rfl, hb1⟩; have hx1 := hx.below hb1; clear hx) | (go_at_call 36; refine (Hp.out _ hx1).mono ?_; rintro e w2 ⟨rfl, hb2⟩; replace hx1 := hx1.below hb2; replace hb1 := btr hb1 hb2; clear hb2))
      go_ret2
      exact ⟨by rw [HT.out]; rfl, hb1⟩
    · have HT : Hid (belongsR xs k = (0, false)) := by show _ = _; simp [belongsR, hu]
      go_enter Try.func16, Try.ntmps16
      go_wp2_with (first | (go_at_call 32; refine Hc.out.mono ?_; rintro e w1 ⟨rfl, hb1⟩; have hx1 := hx.below hb1; clear hx) | (go_at_call 36; refine (Hp.out _ hx1).mono ?_; rintro e w2 ⟨rfl, hb2⟩; replace hx1 := hx1.below hb2; replace hb1 := btr hb1 hb2; clear hb2))
      go_ret2
      exact ⟨by rw [HT.out]; rfl, hb1⟩
  · have hg' : okAt xs i = false := by simpa using hg
    have HT : Hid (belongsR xs i = (0, false)) := by show _ = _; simp [belongsR, hg']
    clear hs hn hx
    go_enter Try.func16, Try.ntmps16
    go_wp2_with (first | (go_at_call 32; refine Hc.out.mono ?_; rintro e w1 ⟨rfl, hb1⟩))
    go_ret2
    exact ⟨by rw [HT.out]; rfl, hb1⟩
end Go.Proofs.Ythkkicpdchngmaa
