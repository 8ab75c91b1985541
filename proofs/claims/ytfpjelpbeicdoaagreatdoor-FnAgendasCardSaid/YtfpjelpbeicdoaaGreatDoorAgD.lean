/-
  FnAgendas: a text with a byte spoilt, the draw of a text. Conditions: none.
-/
import Derived.Test.YtfpjelpbeicdoaaGreatDoorItmD3
import Derived.Test.YtfpjelpbeicdoaaGreatDoorAgPar3
namespace Go.My
open Go.RowKit
theorem textR_size (xs : List Itm) : (textR xs).1.size ≤ 510 := by
  unfold textR
  split
  · rename_i hg
    have h1 := textG_len (line := lineA) (m := 50) (fun r hr => lineA_size ((goodA_ok hg).1 r hr))
    have h2 := (goodA_ok hg).2
    show (textG lineA xs).toArray.size ≤ _
    simp; omega
  · exact Nat.zero_le _
end Go.My
namespace Go.Proofs.YtfpjelpbeicdoaaGreatDoor
open Go.RowKit Go.My
set_option maxHeartbeats 8000000 in
theorem spoilt_any (g N : Nat) (s z : ByteArray) (w : World) (h : Cur w g N 47) (hN : N ≤ 400000000000) (hs : s.size ≤ 100000) (hz : 1 ≤ z.size) (hz2 : z.size ≤ 100) :
    Calls Tryz.prog 42 #[.pointer (some ⟨g, 0, none⟩), .string s, .string z] w fun e w' => ∃ t : ByteArray, e = .returned (.string t) ∧ t.size ≤ s.size + 1 ∧ Cur w' g (N + 6) 47 ∧ w.grownBy w' (some g) := by
  have hzI : (1 : Int) ≤ (z.size : Int) := by omega
  by_cases h0 : s = ⟨#[]⟩
  · subst h0
    go_enter Tryz.func42, Tryz.ntmps42
    go_wp2
    go_ret
    exact ⟨_, rfl, (by simp; exact Nat.le_trans (Nat.min_le_left _ _) (by decide)), h.more (by omega), World.grownBy.refl w _⟩
  · have hse : (s.toList == []) = false := ne_beq3 h0
    have hs0 : 0 < s.size := by
      rcases Nat.eq_zero_or_pos s.size with e | e
      · exact absurd (ByteArray.ext (Array.eq_empty_of_size_eq_zero e)) h0
      · exact e
    go_enter Tryz.func42, Tryz.ntmps42
    go_wp2_with fail
    refine (pick_any g N (s.size : Int) w h (by omega)).mono ?_
    rintro e w1 ⟨i0, rfl, hi, hc1, hg1⟩
    go_wp2_with fail
    refine (pick_any g _ (z.size : Int) w1 hc1 (by omega)).mono ?_
    rintro e w2 ⟨j0, rfl, hj, hc2, hg2⟩
    obtain ⟨i, rfl⟩ : ∃ m : Nat, i0 = m := ⟨i0.toNat, by omega⟩
    obtain ⟨j, rfl⟩ : ∃ m : Nat, j0 = m := ⟨j0.toNat, by omega⟩
    have hil : i < s.size := by have := hi.2.1 (by omega); omega
    have hjl : j < z.size := by have := hj.2.1 (by omega); omega
    have hjI : (j : Int) ≤ (z.size : Int) := by omega
    have hiI : (i : Int) ≤ (s.size : Int) := by omega
    have hi1 : (i : Int) + 1 ≤ (s.size : Int) := by omega
    have hiw : IntKind.i64.wrap ((i : Int) + 1) = (i : Int) + 1 := by rw [IntKind.wrap_i64]; omega
    have hx1 : (1 : Int) ≤ ((z.extract j z.size).size : Int) := by rw [ByteArray.size_extract]; omega
    have hx2 : ((z.extract j z.size).extract 0 1).size ≤ 1 := by rw [ByteArray.size_extract]; omega
    clear hi hj
    go_wp2_with fail
    refine (pick_any g _ 3 w2 hc2 (by omega)).mono ?_
    rintro e w3 ⟨v, rfl, hv, hc3, hg3⟩
    generalize (z.extract j z.size).extract 0 1 = y at *
    have hA : s.size + y.size ≤ 200000 := by omega
    have hgg := grown_trans (grown_trans hg1 hg2) hg3
    by_cases hv0 : v = 0
    · subst hv0
      go_wp2_with fail
      refine wp_region_after (by kernel_rfl) (by kernel_rfl) ?_
      repeat (go_big_quiet_step (fail))
      refine wpQuiet_nil ?_
      intro nq
      go_wp2
      go_ret
      exact ⟨_, rfl, (by simp only [ByteArray.size_append, ByteArray.size_extract]; omega), (hc3.below nq.bel).more (by omega), grown_below hgg nq.bel⟩
    have hv0' : (v == 0) = false := by simpa using hv0
    by_cases hv1 : v = 1
    · subst hv1
      go_wp2_with fail
      refine wp_region_after (by kernel_rfl) (by kernel_rfl) ?_
      repeat (go_big_quiet_step (fail))
      refine wpQuiet_nil ?_
      intro nq
      go_wp2
      go_ret
      exact ⟨_, rfl, (by simp only [ByteArray.size_append, ByteArray.size_extract]; omega), (hc3.below nq.bel).more (by omega), grown_below hgg nq.bel⟩
    have hv1' : (v == 1) = false := by simpa using hv1
    go_wp2_with fail
    refine wp_region_after (by kernel_rfl) (by kernel_rfl) ?_
    repeat (go_big_quiet_step (fail))
    refine wpQuiet_nil ?_
    intro nq
    go_wp2
    go_ret
    exact ⟨_, rfl, (by simp only [ByteArray.size_append, ByteArray.size_extract]; omega), (hc3.below nq.bel).more (by omega), grown_below hgg nq.bel⟩
set_option maxHeartbeats 4000000 in
theorem drawParse_any (A : Option Addr) (n c : Nat) (w : World) (hn : n ≤ maxLen) (hx : RdCode w A n) :
    Calls Tryz.prog 20 #[.slice A n c] w fun e w' => ∃ t : ByteArray, e = .returned (.string t) ∧ t.size ≤ 1000 ∧ Below w.heap.size w w' := by
  have hc0 := cur_start (w := w) (cap := c) (t := 47) hx hn
  have hb0 : Below w.heap.size w (w.alloc (.cells #[.slice A n c, .int .i64 0, .int .u64 0] 47)) := bnew (Below.refl _ _) _
  go_enter Tryz.func20, Tryz.ntmps20
  go_wp2_with fail
  have hsz : w.heap.size < (w.alloc (.cells #[.slice A n c, .int .i64 0, .int .u64 0] 47)).heap.size := by simp
  generalize w.alloc (.cells #[.slice A n c, .int .i64 0, .int .u64 0] 47) = W0 at *
  refine (agenda_any _ 0 W0 hc0 (by omega)).mono ?_
  rintro e w1 ⟨A1, c1, xs, rfl, hl, hs, ho, hc1, hg1⟩
  have hb1 := cur_below hb0 hg1 (Nat.le_refl _) (Nat.le_refl _)
  have hT := textR_size xs
  go_wp2_with fail
  refine (specText_any A1 c1 xs w1 (by unfold maxLen; omega) (own_le ho) (own_rd ho) (fun s h => by have := hs s h; unfold maxLen; omega)).mono ?_
  rintro e w2 ⟨rfl, hb12⟩
  have hb2 := btr hb1 hb12
  have hc2 := hc1.below hb12
  generalize textR xs = R at *
  obtain ⟨S, ok⟩ := R
  simp only at hT
  go_wp2_with fail
  refine (one_any _ _ 4 _ hc2 (by omega)).mono ?_
  rintro e w5 ⟨b, rfl, hc3, hg3⟩
  have hb3 := cur_below hb2 hg3 (Nat.le_refl _) (Nat.le_refl _)
  cases b with
  | false =>
    go_wp2
    go_ret
    exact ⟨_, rfl, by omega, hb3⟩
  | true =>
    go_wp2_with fail
    refine (spoilt_any _ _ S _ _ hc3 (by omega) (by omega) (by decide) (by decide)).mono ?_
    rintro e w6 ⟨t, rfl, ht, hc4, hg4⟩
    have hb4 := cur_below hb3 hg4 (Nat.le_refl _) (Nat.le_refl _)
    go_wp2
    go_ret
    exact ⟨t, rfl, by omega, hb4⟩
theorem drawText_any (A : Option Addr) (n c : Nat) (w : World) (hn : n ≤ maxLen) (hx : RdCode w A n) :
    Calls Tryz.prog 14 #[.slice A n c] w fun e w' => ∃ A' c', ∃ xs : List Itm, e = .returned (.slice A' xs.length c') ∧ xs.length ≤ 11 ∧ (∀ s ∈ xs, s.title.size ≤ 11) ∧ w'.ownsRow w.heap.size 34 4 (.slice A' xs.length c') xs.length (itmCells xs) ∧ Below w.heap.size w w' := by
  have H := Lib.hid (drawValid_any A n c w hn hx)
  go_enter Tryz.func14, Tryz.ntmps14
  go_wp2_with fail
  refine H.out.mono ?_
  rintro e w1 ⟨A', c', xs, rfl, h1, h2, h3, h4⟩
  go_wp2
  go_ret
  exact ⟨A', c', xs, rfl, h1, h2, h3, h4⟩
end Go.Proofs.YtfpjelpbeicdoaaGreatDoor
