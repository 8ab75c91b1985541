/-
  Draws of the laws of agendas; equality of lists. Conditions: none.
-/
import Derived.Test.YtfpjelpbeicdoaaGreatDoorItmD2
import Derived.Test.YtfpjelpbeicdoaaGreatDoorItm3
namespace Go.Proofs.YtfpjelpbeicdoaaGreatDoor
open Go.RowKit Go.My
set_option maxHeartbeats 4000000 in
theorem minute5_any (g N : Nat) (w : World) (h : Cur w g N 47) (hN : N ≤ 500000000000) :
    Calls Tryz.prog 23 #[.pointer (some ⟨g, 0, none⟩)] w fun e w' => ∃ v : Int, e = .returned (.int .i64 v) ∧ Cur w' g (N + 5) 47 ∧ w.grownBy w' (some g) := by
  have hc := h
  have hg := World.grownBy.refl w (some g)
  clear h
  go_enter Tryz.func23, Tryz.ntmps23
  go_wp2_with fail
  have hbA := bnew (Below.refl w.heap.size w) (.cells #[.int .i64 0, .int .i64 530, .int .i64 540, .int .i64 560, .int .i64 600, .int .i64 1439, .int .i64 (-1), .int .i64 1440] 3)
  have hRd : Rd (w.alloc (.cells #[.int .i64 0, .int .i64 530, .int .i64 540, .int .i64 560, .int .i64 600, .int .i64 1439, .int .i64 (-1), .int .i64 1440] 3)) (some ⟨w.heap.size, 0, none⟩) [.int .i64 0, .int .i64 530, .int .i64 540, .int .i64 560, .int .i64 600, .int .i64 1439, .int .i64 (-1), .int .i64 1440] := Rd.made
  have hlt2 := hc.lt
  have hsz := hbA.size
  replace hc := hc.below hbA
  replace hg := grown_below hg hbA
  generalize w.alloc (.cells #[.int .i64 0, .int .i64 530, .int .i64 540, .int .i64 560, .int .i64 600, .int .i64 1439, .int .i64 (-1), .int .i64 1440] 3) = W2 at *
  generalize hWs : w.heap.size = bA at hRd hlt2 hsz ⊢
  refine (pick_any g _ 24 _ hc (by omega)).mono ?_
  rintro e W3 ⟨v, rfl, hv, hc3, hg3⟩
  have hRd3 := hRd.grown hg3 (fun ad e => by cases e; simp; omega)
  replace hg := grown_trans hg hg3
  obtain ⟨q, hq, hq2⟩ : ∃ q : Nat, v / 11 = (q : Int) ∧ q ≤ 2 := ⟨(v / 11).toNat, by omega, by omega⟩
  have hqw : IntKind.i64.wrap (v / 11) = (q : Int) := by rw [IntKind.wrap_i64]; omega
  have hqt : v.tdiv 11 = (q : Int) := by rw [Int.tdiv_eq_ediv_of_nonneg hv.1]; exact hq
  have hsw : IntKind.i64.wrap (6 + (q : Int)) = ((6 + q : Nat) : Int) := by rw [IntKind.wrap_i64]; omega
  go_wp2_with fail
  refine (among_any g _ _ (6 + q) 8 (List.take (6 + q) [.int .i64 0, .int .i64 530, .int .i64 540, .int .i64 560, .int .i64 600, .int .i64 1439, .int .i64 (-1), .int .i64 1440]) (fun _ => true) _ hc3 (by omega) (by simp; omega) (by omega) (by omega) (by have := hRd3.take (6 + q); exact this) (by rcases q with _ | _ | _ | q; rfl; rfl; rfl; omega) (fun ad e => by cases e; simp; omega)).mono ?_
  rintro e W4 ⟨o, rfl, -, hc4, hg4⟩
  replace hg := grown_trans hg hg4
  go_wp2
  go_ret
  exact ⟨o, rfl, hc4.more (by omega), hg⟩
set_option maxHeartbeats 8000000 in
theorem drawValid_any (A : Option Addr) (n c : Nat) (w : World) (hn : n ≤ maxLen) (hx : RdCode w A n) :
    Calls Tryz.prog 29 #[.slice A n c] w fun e w' => ∃ A' c', ∃ xs : List Itm, e = .returned (.slice A' xs.length c') ∧ xs.length ≤ 11 ∧ (∀ s ∈ xs, s.title.size ≤ 11) ∧ w'.ownsRow w.heap.size 34 4 (.slice A' xs.length c') xs.length (itmCells xs) ∧ Below w.heap.size w w' := by
  have hc := cur_start (w := w) (cap := c) (t := 47) hx hn
  have hb0 : Below w.heap.size w (w.alloc (.cells #[.slice A n c, .int .i64 0, .int .u64 0] 47)) := bnew (Below.refl _ _) _
  have hB1 : w.heap.size < (w.alloc (.cells #[.slice A n c, .int .i64 0, .int .u64 0] 47)).heap.size := by simp
  go_enter Tryz.func29, Tryz.ntmps29
  go_wp2_with fail
  generalize w.alloc (.cells #[.slice A n c, .int .i64 0, .int .u64 0] 47) = W0 at *
  generalize hgg : w.heap.size = g at *
  refine (agenda_any g 0 W0 hc (by omega)).mono ?_
  rintro e W ⟨A', c', xs, rfl, hx11, HX, ho, hc, hg⟩
  have hlt := hB1
  clear hx
  generalize hBB : W0.heap.size = B0 at *
  have hbe := cur_below hb0 hg (Nat.le_refl g) (Nat.le_of_eq hgg.symm)
  go_wp2
  go_ret
  exact ⟨A', c', xs, rfl, hx11, HX, own_base ho (by omega), by rw [hgg]; exact hbe⟩
set_option maxHeartbeats 8000000 in
theorem drawTimes_any (A : Option Addr) (n c : Nat) (w : World) (hn : n ≤ maxLen) (hx : RdCode w A n) :
    Calls Tryz.prog 5 #[.slice A n c] w fun e w' => ∃ A' c', ∃ xs : List Itm, ∃ t : Int, e = .returned (.tuple #[.slice A' xs.length c', .int .i64 t]) ∧ xs.length ≤ 11 ∧ (∀ s ∈ xs, s.title.size ≤ 11) ∧ w'.ownsRow w.heap.size 34 4 (.slice A' xs.length c') xs.length (itmCells xs) ∧ Below w.heap.size w w' := by
  have hc := cur_start (w := w) (cap := c) (t := 47) hx hn
  have hb0 : Below w.heap.size w (w.alloc (.cells #[.slice A n c, .int .i64 0, .int .u64 0] 47)) := bnew (Below.refl _ _) _
  have hB1 : w.heap.size < (w.alloc (.cells #[.slice A n c, .int .i64 0, .int .u64 0] 47)).heap.size := by simp
  go_enter Tryz.func5, Tryz.ntmps5
  go_wp2_with fail
  generalize w.alloc (.cells #[.slice A n c, .int .i64 0, .int .u64 0] 47) = W0 at *
  generalize hgg : w.heap.size = g at *
  refine (agenda_any g 0 W0 hc (by omega)).mono ?_
  rintro e W ⟨A', c', xs, rfl, hx11, HX, ho, hc, hg⟩
  have hlt := hB1
  clear hx
  generalize hBB : W0.heap.size = B0 at *
  go_wp2_with fail
  refine (minute5_any g _ _ hc (by omega)).mono ?_
  rintro e w9 ⟨t, rfl, hc9, hg9⟩
  replace ho := World.ownsRow.kept ho hg9 (.inr (Ne.symm (own_ne ho hlt)))
  replace hg := grown_trans hg hg9
  replace hc := hc9
  clear hc9 hg9
  generalize w9 = W at *
  have hbe := cur_below hb0 hg (Nat.le_refl g) (Nat.le_of_eq hgg.symm)
  go_wp2
  exact bodyPost_ret (v := .tuple #[.slice A' xs.length c', .int .i64 t]) (by simp [results, Tryz.results5, go_sem]) rfl ⟨A', c', xs, t, rfl, hx11, HX, own_base ho (by omega), by rw [hgg]; exact hbe⟩
set_option maxHeartbeats 4000000 in
set_option maxRecDepth 100000 in
theorem rAgendas_any (A B : Option Addr) (c d : Nat) (xs : List Itm) (w : World) (hn : xs.length ≤ maxLen) (hx : Rd w A (itmCells xs)) (hy : Rd w B (itmCells xs)) :
    Calls Tryz.prog 19 #[.slice A xs.length c, .slice B xs.length d] w fun e w' => e = .returned (.bool true) ∧ Below w.heap.size w w' := by
  unfold maxLen at hn
  go_enter Tryz.func19, Tryz.ntmps19
  go_wp2_with fail
  go_loopw [5] (fun q wr => ∃ k : Nat, k ≤ xs.length ∧ q = .int .i64 k ∧ Below w.heap.size w wr) (fun q _ => xs.length - (intOf q).toNat)
  case atStart => exact ⟨0, by omega, rfl, Below.refl _ _⟩
  case round =>
    obtain ⟨k, hk, rfl, hb⟩ := hrel
    by_cases hlt : k < xs.length
    · obtain ⟨b, off, rfl, c0, c1, c2, c3⟩ := Rd.itm (hx.below hb) hlt
      obtain ⟨b2, off2, rfl, d0, d1, d2, d3⟩ := Rd.itm (hy.below hb) hlt
      have hkI : (k : Int) < (xs.length : Int) := by omega
      generalize xs[k] = s at *
      have g0 := cell_after c0
      have e0 := cell_after d0
      have g1 := cell_after c1
      have e1 := cell_after d1
      have g2 := cell_after c2
      have e2 := cell_after d2
      have g3 := cell_after c3
      have e3 := cell_after d3
      go_wp2_with fail
      refine wp_region_after (by kernel_rfl) (by kernel_rfl) ?_
      repeat (go_big_quiet_step (fail))
      refine wpQuiet_nil ?_
      intro nq
      have hb2 := hb.trans (nq.bel.mono hb.size)
      generalize nq.val = W1 at *
      go_wp2_with fail
      go_roundw
      case rel => exact ⟨k + 1, by omega, by go_num, hb2⟩
      case measure => simp [intOf]; omega
    · have hkI : ¬ (k : Int) < (xs.length : Int) := by omega
      go_wp2
      go_ret
      exact ⟨rfl, hb⟩
set_option maxHeartbeats 4000000 in
set_option maxRecDepth 100000 in
theorem rInts_any (A B : Option Addr) (c d : Nat) (xs : List Int) (w : World) (hn : xs.length ≤ maxLen) (hx : Rd w A (intCells xs)) (hy : Rd w B (intCells xs)) :
    Calls Tryz.prog 8 #[.slice A xs.length c, .slice B xs.length d] w fun e w' => e = .returned (.bool true) ∧ Below w.heap.size w w' := by
  unfold maxLen at hn
  go_enter Tryz.func8, Tryz.ntmps8
  go_wp2_with fail
  go_loopw [5] (fun q wr => ∃ k : Nat, k ≤ xs.length ∧ q = .int .i64 k ∧ Below w.heap.size w wr) (fun q _ => xs.length - (intOf q).toNat)
  case atStart => exact ⟨0, by omega, rfl, Below.refl _ _⟩
  case round =>
    obtain ⟨k, hk, rfl, hb⟩ := hrel
    by_cases hlt : k < xs.length
    · obtain ⟨b, off, rfl, c0⟩ := Rd.ints (hx.below hb) hlt
      obtain ⟨b2, off2, rfl, d0⟩ := Rd.ints (hy.below hb) hlt
      have hkI : (k : Int) < (xs.length : Int) := by omega
      generalize xs[k] = s at *
      have g0 := cell_after c0
      have e0 := cell_after d0
      go_wp2_with fail
      refine wp_region_after (by kernel_rfl) (by kernel_rfl) ?_
      repeat (go_big_quiet_step (fail))
      refine wpQuiet_nil ?_
      intro nq
      have hb2 := hb.trans (nq.bel.mono hb.size)
      generalize nq.val = W1 at *
      go_wp2_with fail
      go_roundw
      case rel => exact ⟨k + 1, by omega, by go_num, hb2⟩
      case measure => simp [intOf]; omega
    · have hkI : ¬ (k : Int) < (xs.length : Int) := by omega
      go_wp2
      go_ret
      exact ⟨rfl, hb⟩
end Go.Proofs.YtfpjelpbeicdoaaGreatDoor
