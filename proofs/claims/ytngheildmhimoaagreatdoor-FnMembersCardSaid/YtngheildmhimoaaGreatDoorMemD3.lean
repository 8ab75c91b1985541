/-
  FnMembers: the draws of its inputs, equality of lists. Conditions: none.
-/
import Derived.Test.YtngheildmhimoaaGreatDoorMemD2
import Derived.Test.YtngheildmhimoaaGreatDoorMemPars
namespace Go.My
open Go.RowKit
theorem textR_size (xs : List Mem) : (textR xs).1.size ≤ 372 := by
  unfold textR
  split
  · rename_i hg
    have h1 := textG_len (line := lineM) (m := 30) (fun r hr => lineM_size ((goodM_ok hg).1 r hr))
    have h2 := (goodM_ok hg).2
    show (textG lineM xs).toArray.size ≤ _
    simp; omega
  · exact Nat.zero_le _
end Go.My
namespace Go.Proofs.YtngheildmhimoaaGreatDoor
open Go.RowKit Go.My
set_option maxHeartbeats 8000000 in
theorem spoilt_any (g N : Nat) (s z : ByteArray) (w : World) (h : Cur w g N 47) (hN : N ≤ 400000000000) (hs : s.size ≤ 100000) (hz : 1 ≤ z.size) (hz2 : z.size ≤ 100) :
    Calls Tryz.prog 46 #[.pointer (some ⟨g, 0, none⟩), .string s, .string z] w fun e w' => ∃ t : ByteArray, e = .returned (.string t) ∧ t.size ≤ s.size + 1 ∧ Cur w' g (N + 6) 47 ∧ w.grownBy w' (some g) := by
  have hzI : (1 : Int) ≤ (z.size : Int) := by omega
  by_cases h0 : s = ⟨#[]⟩
  · subst h0
    go_enter Tryz.func46, Tryz.ntmps46
    go_wp2
    go_ret
    exact ⟨_, rfl, (by simp; exact Nat.le_trans (Nat.min_le_left _ _) (by decide)), h.more (by omega), World.grownBy.refl w _⟩
  · have hse : (s.toList == []) = false := ne_beq3 h0
    have hs0 : 0 < s.size := by
      rcases Nat.eq_zero_or_pos s.size with e | e
      · exact absurd (ByteArray.ext (Array.eq_empty_of_size_eq_zero e)) h0
      · exact e
    go_enter Tryz.func46, Tryz.ntmps46
    go_wp2_with fail
    refine (pick_any g N (s.size : Int) w h (by omega)).mono ?_
    rintro e w1 ⟨i0, rfl, hi, hc1, hg1⟩
    go_wp2_with fail
    refine (pick_any g _ (z.size : Int) w1 hc1 (by omega)).mono ?_
    rintro e w2 ⟨j0, rfl, hj, hc2, hg2⟩
    obtain ⟨i, rfl⟩ : ∃ m : Nat, i0 = m := ⟨i0.toNat, by omega⟩
    obtain ⟨j, rfl⟩ : ∃ m : Nat, j0 = m := ⟨j0.toNat, by omega⟩
    have hil : i < s.size := by have := hi.2.1 (by omega); omega
    have hjl : j < z.size := by have := hj.2.1 (by omega); omega
    have hjI : (j : Int) ≤ (z.size : Int) := by omega
    have hiI : (i : Int) ≤ (s.size : Int) := by omega
    have hi1 : (i : Int) + 1 ≤ (s.size : Int) := by omega
    have hiw : IntKind.i64.wrap ((i : Int) + 1) = (i : Int) + 1 := by rw [IntKind.wrap_i64]; omega
    have hx1 : (1 : Int) ≤ ((z.extract j z.size).size : Int) := by rw [ByteArray.size_extract]; omega
    have hx2 : ((z.extract j z.size).extract 0 1).size ≤ 1 := by rw [ByteArray.size_extract]; omega
    clear hi hj
    go_wp2_with fail
    refine (pick_any g _ 3 w2 hc2 (by omega)).mono ?_
    rintro e w3 ⟨v, rfl, hv, hc3, hg3⟩
    generalize (z.extract j z.size).extract 0 1 = y at *
    have hA : s.size + y.size ≤ 200000 := by omega
    have hgg := grown_trans (grown_trans hg1 hg2) hg3
    by_cases hv0 : v = 0
    · subst hv0
      go_wp2_with fail
      refine wp_region_after (by kernel_rfl) (by kernel_rfl) ?_
      repeat (go_big_quiet_step (fail))
      refine wpQuiet_nil ?_
      intro nq
      go_wp2
      go_ret
      exact ⟨_, rfl, (by simp only [ByteArray.size_append, ByteArray.size_extract]; omega), (hc3.below nq.bel).more (by omega), grown_below hgg nq.bel⟩
    have hv0' : (v == 0) = false := by simpa using hv0
    by_cases hv1 : v = 1
    · subst hv1
      go_wp2_with fail
      refine wp_region_after (by kernel_rfl) (by kernel_rfl) ?_
      repeat (go_big_quiet_step (fail))
      refine wpQuiet_nil ?_
      intro nq
      go_wp2
      go_ret
      exact ⟨_, rfl, (by simp only [ByteArray.size_append, ByteArray.size_extract]; omega), (hc3.below nq.bel).more (by omega), grown_below hgg nq.bel⟩
    have hv1' : (v == 1) = false := by simpa using hv1
    go_wp2_with fail
    refine wp_region_after (by kernel_rfl) (by kernel_rfl) ?_
    repeat (go_big_quiet_step (fail))
    refine wpQuiet_nil ?_
    intro nq
    go_wp2
    go_ret
    exact ⟨_, rfl, (by simp only [ByteArray.size_append, ByteArray.size_extract]; omega), (hc3.below nq.bel).more (by omega), grown_below hgg nq.bel⟩
set_option maxHeartbeats 8000000 in
theorem drawValid_any (A : Option Addr) (n c : Nat) (w : World) (hn : n ≤ maxLen) (hx : RdCode w A n) :
    Calls Tryz.prog 38 #[.slice A n c] w fun e w' => ∃ A' c', ∃ xs : List Mem, e = .returned (.slice A' xs.length c') ∧ xs.length ≤ 13 ∧ (∀ s ∈ xs, s.name.size ≤ 10) ∧ w'.ownsRow w.heap.size 54 3 (.slice A' xs.length c') xs.length (memCells xs) ∧ Below w.heap.size w w' := by
  have hc := cur_start (w := w) (cap := c) (t := 47) hx hn
  have hb0 : Below w.heap.size w (w.alloc (.cells #[.slice A n c, .int .i64 0, .int .u64 0] 47)) := bnew (Below.refl _ _) _
  have hB1 : w.heap.size < (w.alloc (.cells #[.slice A n c, .int .i64 0, .int .u64 0] 47)).heap.size := by simp
  go_enter Tryz.func38, Tryz.ntmps38
  go_wp2_with fail
  generalize w.alloc (.cells #[.slice A n c, .int .i64 0, .int .u64 0] 47) = W0 at *
  generalize hgg : w.heap.size = g at *
  refine (members_any g 0 W0 hc (by omega)).mono ?_
  rintro e W ⟨A', c', xs, rfl, hx13, HX, ho, hc, hg⟩
  have hb := cur_below (w := W0) (Below.refl g W0) hg (Nat.le_refl _) (Nat.le_of_lt hB1)
  have hlt := hB1
  clear hx
  generalize hBB : W0.heap.size = B0 at *
  clear hb
  have hbe := cur_below hb0 hg (Nat.le_refl g) (Nat.le_of_eq hgg.symm)
  go_wp2
  go_ret
  exact ⟨A', c', xs, rfl, hx13, HX, own_base ho (by omega), by rw [hgg]; exact hbe⟩
theorem drawText_any (A : Option Addr) (n c : Nat) (w : World) (hn : n ≤ maxLen) (hx : RdCode w A n) :
    Calls Tryz.prog 13 #[.slice A n c] w fun e w' => ∃ A' c', ∃ xs : List Mem, e = .returned (.slice A' xs.length c') ∧ xs.length ≤ 13 ∧ (∀ s ∈ xs, s.name.size ≤ 10) ∧ w'.ownsRow w.heap.size 54 3 (.slice A' xs.length c') xs.length (memCells xs) ∧ Below w.heap.size w w' := by
  have H := Lib.hid (drawValid_any A n c w hn hx)
  go_enter Tryz.func13, Tryz.ntmps13
  go_wp2_with fail
  refine H.out.mono ?_
  rintro e w1 ⟨A', c', xs, rfl, h1, h2, h3, h4⟩
  go_wp2
  go_ret
  exact ⟨A', c', xs, rfl, h1, h2, h3, h4⟩
theorem drawByName_any (A : Option Addr) (n c : Nat) (w : World) (hn : n ≤ maxLen) (hx : RdCode w A n) :
    Calls Tryz.prog 19 #[.slice A n c] w fun e w' => ∃ A' c', ∃ xs : List Mem, e = .returned (.slice A' xs.length c') ∧ xs.length ≤ 13 ∧ (∀ s ∈ xs, s.name.size ≤ 10) ∧ w'.ownsRow w.heap.size 54 3 (.slice A' xs.length c') xs.length (memCells xs) ∧ Below w.heap.size w w' := by
  have H := Lib.hid (drawValid_any A n c w hn hx)
  go_enter Tryz.func19, Tryz.ntmps19
  go_wp2_with fail
  refine H.out.mono ?_
  rintro e w1 ⟨A', c', xs, rfl, h1, h2, h3, h4⟩
  go_wp2
  go_ret
  exact ⟨A', c', xs, rfl, h1, h2, h3, h4⟩
set_option maxHeartbeats 8000000 in
theorem drawAdmit_any (A : Option Addr) (n c : Nat) (w : World) (hn : n ≤ maxLen) (hx : RdCode w A n) :
    Calls Tryz.prog 5 #[.slice A n c] w fun e w' => ∃ A' c', ∃ xs : List Mem, ∃ nm : ByteArray, e = .returned (.tuple #[.slice A' xs.length c', .string nm]) ∧ xs.length ≤ 13 ∧ (∀ s ∈ xs, s.name.size ≤ 10) ∧ nm.size ≤ 11 ∧ w'.ownsRow w.heap.size 54 3 (.slice A' xs.length c') xs.length (memCells xs) ∧ Below w.heap.size w w' := by
  have hc := cur_start (w := w) (cap := c) (t := 47) hx hn
  have hb0 : Below w.heap.size w (w.alloc (.cells #[.slice A n c, .int .i64 0, .int .u64 0] 47)) := bnew (Below.refl _ _) _
  have hB1 : w.heap.size < (w.alloc (.cells #[.slice A n c, .int .i64 0, .int .u64 0] 47)).heap.size := by simp
  go_enter Tryz.func5, Tryz.ntmps5
  go_wp2_with fail
  generalize w.alloc (.cells #[.slice A n c, .int .i64 0, .int .u64 0] 47) = W0 at *
  generalize hgg : w.heap.size = g at *
  refine (members_any g 0 W0 hc (by omega)).mono ?_
  rintro e W ⟨A', c', xs, rfl, hx13, HX, ho, hc, hg⟩
  have hb := cur_below (w := W0) (Below.refl g W0) hg (Nat.le_refl _) (Nat.le_of_lt hB1)
  have hlt := hB1
  clear hx
  generalize hBB : W0.heap.size = B0 at *
  clear hb
  go_wp2_with fail
  refine (one_any g _ 8 _ hc (by omega)).mono ?_
  rintro e w9 ⟨b, rfl, hc9, hg9⟩
  replace ho := World.ownsRow.kept ho hg9 (.inr (Ne.symm (own_ne ho hlt)))
  replace hg := grown_trans hg hg9
  replace hc := hc9
  clear hc9 hg9
  generalize w9 = W at *
  cases b with
  | true =>
    go_wp2_with fail
    have hbA := bnew (Below.refl W.heap.size W) (.cells #[.string ⟨#[]⟩, .string ⟨#[65]⟩, .string ⟨#[97, 98, 99, 100, 101, 102, 103, 104, 105, 106, 107]⟩, .string ⟨#[97, 32, 98]⟩] 9)
    refine (of_any g _ _ 4 4 11 _ _ (hc.below hbA) (by omega) rfl (by decide) (by decide) Rd.made (by decide) (fun ad e => by cases e; simp; have := hc.lt; omega)).mono ?_
    rintro e w9 ⟨nm, rfl, hnm, hc9, hg9⟩
    replace ho := World.ownsRow.kept (own_below ho hbA) hg9 (.inr (Ne.symm (own_ne ho hlt)))
    replace hg := grown_trans (grown_below hg hbA) hg9
    clear hbA
    replace hc := hc9
    clear hc9 hg9
    generalize w9 = W at *
    have hbe := cur_below hb0 hg (Nat.le_refl g) (Nat.le_of_eq hgg.symm)
    go_wp2
    exact bodyPost_ret (v := .tuple #[.slice A' xs.length c', .string nm]) (by simp [results, Tryz.results5, go_sem]) rfl ⟨A', c', xs, nm, rfl, hx13, HX, hnm, own_base ho (by omega), by rw [hgg]; exact hbe⟩
  | false =>
    go_wp2_with fail
    refine (word_any g _ _ hc (by omega)).mono ?_
    rintro e w9 ⟨nm, rfl, hnm, hc9, hg9⟩
    replace ho := World.ownsRow.kept ho hg9 (.inr (Ne.symm (own_ne ho hlt)))
    replace hg := grown_trans hg hg9
    replace hc := hc9
    clear hc9 hg9
    generalize w9 = W at *
    have hbe := cur_below hb0 hg (Nat.le_refl g) (Nat.le_of_eq hgg.symm)
    go_wp2
    exact bodyPost_ret (v := .tuple #[.slice A' xs.length c', .string nm]) (by simp [results, Tryz.results5, go_sem]) rfl ⟨A', c', xs, nm, rfl, hx13, HX, (by omega), own_base ho (by omega), by rw [hgg]; exact hbe⟩
set_option maxHeartbeats 8000000 in
theorem drawExpel_any (A : Option Addr) (n c : Nat) (w : World) (hn : n ≤ maxLen) (hx : RdCode w A n) :
    Calls Tryz.prog 11 #[.slice A n c] w fun e w' => ∃ A' c', ∃ xs : List Mem, ∃ num : Int, e = .returned (.tuple #[.slice A' xs.length c', .int .i64 num]) ∧ xs.length ≤ 13 ∧ (∀ s ∈ xs, s.name.size ≤ 10) ∧ w'.ownsRow w.heap.size 54 3 (.slice A' xs.length c') xs.length (memCells xs) ∧ Below w.heap.size w w' := by
  have hc := cur_start (w := w) (cap := c) (t := 47) hx hn
  have hb0 : Below w.heap.size w (w.alloc (.cells #[.slice A n c, .int .i64 0, .int .u64 0] 47)) := bnew (Below.refl _ _) _
  have hB1 : w.heap.size < (w.alloc (.cells #[.slice A n c, .int .i64 0, .int .u64 0] 47)).heap.size := by simp
  go_enter Tryz.func11, Tryz.ntmps11
  go_wp2_with fail
  generalize w.alloc (.cells #[.slice A n c, .int .i64 0, .int .u64 0] 47) = W0 at *
  generalize hgg : w.heap.size = g at *
  refine (members_any g 0 W0 hc (by omega)).mono ?_
  rintro e W ⟨A', c', xs, rfl, hx13, HX, ho, hc, hg⟩
  have hb := cur_below (w := W0) (Below.refl g W0) hg (Nat.le_refl _) (Nat.le_of_lt hB1)
  have hlt := hB1
  clear hx
  generalize hBB : W0.heap.size = B0 at *
  clear hb
  go_wp2_with fail
  refine (memberNumber_any g _ B0 A' c' xs W hc (by omega) hx13 ho hlt).mono ?_
  rintro e W1 ⟨num, rfl, hc1, hg1⟩
  replace ho := ho.kept hg1 (.inr (Ne.symm (own_ne ho hlt)))
  replace hg := grown_trans hg hg1
  replace hc := hc1
  clear hc1 hg1
  have hbe := cur_below hb0 hg (Nat.le_refl g) (Nat.le_of_eq hgg.symm)
  go_wp2
  exact bodyPost_ret (v := .tuple #[.slice A' xs.length c', .int .i64 num]) (by simp [results, Tryz.results11, go_sem]) rfl ⟨A', c', xs, num, rfl, hx13, HX, own_base ho (by omega), by rw [hgg]; exact hbe⟩
set_option maxHeartbeats 4000000 in
theorem drawParse_any (A : Option Addr) (n c : Nat) (w : World) (hn : n ≤ maxLen) (hx : RdCode w A n) :
    Calls Tryz.prog 17 #[.slice A n c] w fun e w' => ∃ t : ByteArray, e = .returned (.string t) ∧ t.size ≤ 1000 ∧ Below w.heap.size w w' := by
  have hc0 := cur_start (w := w) (cap := c) (t := 47) hx hn
  have hb0 : Below w.heap.size w (w.alloc (.cells #[.slice A n c, .int .i64 0, .int .u64 0] 47)) := bnew (Below.refl _ _) _
  go_enter Tryz.func17, Tryz.ntmps17
  go_wp2_with fail
  have hsz : w.heap.size < (w.alloc (.cells #[.slice A n c, .int .i64 0, .int .u64 0] 47)).heap.size := by simp
  generalize w.alloc (.cells #[.slice A n c, .int .i64 0, .int .u64 0] 47) = W0 at *
  refine (members_any _ 0 W0 hc0 (by omega)).mono ?_
  rintro e w1 ⟨A1, c1, xs, rfl, hl, hs, ho, hc1, hg1⟩
  have hb1 := cur_below hb0 hg1 (Nat.le_refl _) (Nat.le_refl _)
  have hT := textR_size xs
  go_wp2_with fail
  refine (specText_any A1 c1 xs w1 (by unfold maxLen; omega) (own_le ho) (own_rd ho) (fun s h => by have := hs s h; unfold maxLen; omega)).mono ?_
  rintro e w2 ⟨rfl, hb12⟩
  have hb2 := btr hb1 hb12
  have hc2 := hc1.below hb12
  generalize textR xs = R at *
  obtain ⟨S, ok⟩ := R
  simp only at hT
  go_wp2_with fail
  refine (one_any _ _ 4 _ hc2 (by omega)).mono ?_
  rintro e w5 ⟨b, rfl, hc3, hg3⟩
  have hb3 := cur_below hb2 hg3 (Nat.le_refl _) (Nat.le_refl _)
  cases b with
  | false =>
    go_wp2
    go_ret
    exact ⟨_, rfl, by omega, hb3⟩
  | true =>
    go_wp2_with fail
    refine (spoilt_any _ _ S _ _ hc3 (by omega) (by omega) (by decide) (by decide)).mono ?_
    rintro e w6 ⟨t, rfl, ht, hc4, hg4⟩
    have hb4 := cur_below hb3 hg4 (Nat.le_refl _) (Nat.le_refl _)
    go_wp2
    go_ret
    exact ⟨t, rfl, by omega, hb4⟩
set_option maxHeartbeats 4000000 in
set_option maxRecDepth 100000 in
theorem rMembers_any (A B : Option Addr) (c d : Nat) (xs : List Mem) (w : World) (hn : xs.length ≤ maxLen) (hx : Rd w A (memCells xs)) (hy : Rd w B (memCells xs)) :
    Calls Tryz.prog 8 #[.slice A xs.length c, .slice B xs.length d] w fun e w' => e = .returned (.bool true) ∧ Below w.heap.size w w' := by
  unfold maxLen at hn
  go_enter Tryz.func8, Tryz.ntmps8
  go_wp2_with fail
  go_loopw [5] (fun q wr => ∃ k : Nat, k ≤ xs.length ∧ q = .int .i64 k ∧ Below w.heap.size w wr) (fun q _ => xs.length - (intOf q).toNat)
  case atStart => exact ⟨0, by omega, rfl, Below.refl _ _⟩
  case round =>
    obtain ⟨k, hk, rfl, hb⟩ := hrel
    by_cases hlt : k < xs.length
    · obtain ⟨b, off, rfl, c0, c1, c2⟩ := Rd.mem (hx.below hb) hlt
      obtain ⟨b2, off2, rfl, d0, d1, d2⟩ := Rd.mem (hy.below hb) hlt
      have hkI : (k : Int) < (xs.length : Int) := by omega
      generalize xs[k] = s at *
      have g0 := cell_after c0
      have e0 := cell_after d0
      have g1 := cell_after c1
      have e1 := cell_after d1
      have g2 := cell_after c2
      have e2 := cell_after d2
      go_wp2_with fail
      refine wp_region_after (by kernel_rfl) (by kernel_rfl) ?_
      repeat (go_big_quiet_step (fail))
      refine wpQuiet_nil ?_
      intro nq
      have hb2 := hb.trans (nq.bel.mono hb.size)
      generalize nq.val = W1 at *
      go_wp2_with fail
      go_roundw
      case rel => exact ⟨k + 1, by omega, by go_num, hb2⟩
      case measure => simp [intOf]; omega
    · have hkI : ¬ (k : Int) < (xs.length : Int) := by omega
      go_wp2
      go_ret
      exact ⟨rfl, hb⟩
set_option maxHeartbeats 4000000 in
set_option maxRecDepth 100000 in
theorem rInts_any (A B : Option Addr) (c d : Nat) (xs : List Int) (w : World) (hn : xs.length ≤ maxLen) (hx : Rd w A (intCells xs)) (hy : Rd w B (intCells xs)) :
    Calls Tryz.prog 22 #[.slice A xs.length c, .slice B xs.length d] w fun e w' => e = .returned (.bool true) ∧ Below w.heap.size w w' := by
  unfold maxLen at hn
  go_enter Tryz.func22, Tryz.ntmps22
  go_wp2_with fail
  go_loopw [5] (fun q wr => ∃ k : Nat, k ≤ xs.length ∧ q = .int .i64 k ∧ Below w.heap.size w wr) (fun q _ => xs.length - (intOf q).toNat)
  case atStart => exact ⟨0, by omega, rfl, Below.refl _ _⟩
  case round =>
    obtain ⟨k, hk, rfl, hb⟩ := hrel
    by_cases hlt : k < xs.length
    · obtain ⟨b, off, rfl, c0⟩ := Rd.ints (hx.below hb) hlt
      obtain ⟨b2, off2, rfl, d0⟩ := Rd.ints (hy.below hb) hlt
      have hkI : (k : Int) < (xs.length : Int) := by omega
      generalize xs[k] = s at *
      have g0 := cell_after c0
      have e0 := cell_after d0
      go_wp2_with fail
      refine wp_region_after (by kernel_rfl) (by kernel_rfl) ?_
      repeat (go_big_quiet_step (fail))
      refine wpQuiet_nil ?_
      intro nq
      have hb2 := hb.trans (nq.bel.mono hb.size)
      generalize nq.val = W1 at *
      go_wp2_with fail
      go_roundw
      case rel => exact ⟨k + 1, by omega, by go_num, hb2⟩
      case measure => simp [intOf]; omega
    · have hkI : ¬ (k : Int) < (xs.length : Int) := by omega
      go_wp2
      go_ret
      exact ⟨rfl, hb⟩
end Go.Proofs.YtngheildmhimoaaGreatDoor
