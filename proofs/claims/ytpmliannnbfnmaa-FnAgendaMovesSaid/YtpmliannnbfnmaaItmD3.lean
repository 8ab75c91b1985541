/-
  Draws of the laws of agendas; equality of lists. Conditions: none.
-/
import Derived.Test.YtpmliannnbfnmaaItmD2
import Derived.Test.YtpmliannnbfnmaaItm3
namespace Go.Proofs.Ytpmliannnbfnmaa
open Go.RowKit Go.My
set_option maxHeartbeats 4000000 in
theorem minute5_any (g N : Nat) (w : World) (h : Cur w g N 61) (hN : N ≤ 500000000000) :
    Calls Try.prog 50 #[.pointer (some ⟨g, 0, none⟩)] w fun e w' => ∃ v : Int, e = .returned (.int .i64 v) ∧ Cur w' g (N + 5) 61 ∧ w.grownBy w' (some g) := by
  have hc := h
  have hg := World.grownBy.refl w (some g)
  clear h
  go_enter Try.func50, Try.ntmps50
  go_wp2_with fail
  have hbA := bnew (Below.refl w.heap.size w) (.cells #[.int .i64 0, .int .i64 530, .int .i64 540, .int .i64 560, .int .i64 600, .int .i64 1439, .int .i64 (-1), .int .i64 1440] 3)
  have hRd : Rd (w.alloc (.cells #[.int .i64 0, .int .i64 530, .int .i64 540, .int .i64 560, .int .i64 600, .int .i64 1439, .int .i64 (-1), .int .i64 1440] 3)) (some ⟨w.heap.size, 0, none⟩) [.int .i64 0, .int .i64 530, .int .i64 540, .int .i64 560, .int .i64 600, .int .i64 1439, .int .i64 (-1), .int .i64 1440] := Rd.made
  have hlt2 := hc.lt
  have hsz := hbA.size
  replace hc := hc.below hbA
  replace hg := grown_below hg hbA
  generalize w.alloc (.cells #[.int .i64 0, .int .i64 530, .int .i64 540, .int .i64 560, .int .i64 600, .int .i64 1439, .int .i64 (-1), .int .i64 1440] 3) = W2 at *
  generalize hWs : w.heap.size = bA at hRd hlt2 hsz ⊢
  refine (pick_any g _ 24 _ hc (by omega)).mono ?_
  rintro e W3 ⟨v, rfl, hv, hc3, hg3⟩
  have hRd3 := hRd.grown hg3 (fun ad e => by cases e; simp; omega)
  replace hg := grown_trans hg hg3
  obtain ⟨q, hq, hq2⟩ : ∃ q : Nat, v / 11 = (q : Int) ∧ q ≤ 2 := ⟨(v / 11).toNat, by omega, by omega⟩
  have hqw : IntKind.i64.wrap (v / 11) = (q : Int) := by rw [IntKind.wrap_i64]; omega
  have hqt : v.tdiv 11 = (q : Int) := by rw [Int.tdiv_eq_ediv_of_nonneg hv.1]; exact hq
  have hsw : IntKind.i64.wrap (6 + (q : Int)) = ((6 + q : Nat) : Int) := by rw [IntKind.wrap_i64]; omega
  go_wp2_with fail
  refine (among_any g _ _ (6 + q) 8 (List.take (6 + q) [.int .i64 0, .int .i64 530, .int .i64 540, .int .i64 560, .int .i64 600, .int .i64 1439, .int .i64 (-1), .int .i64 1440]) (fun _ => true) _ hc3 (by omega) (by simp; omega) (by omega) (by omega) (by have := hRd3.take (6 + q); exact this) (by rcases q with _ | _ | _ | q; rfl; rfl; rfl; omega) (fun ad e => by cases e; simp; omega)).mono ?_
  rintro e W4 ⟨o, rfl, -, hc4, hg4⟩
  replace hg := grown_trans hg hg4
  go_wp2
  go_ret
  exact ⟨o, rfl, hc4.more (by omega), hg⟩
set_option maxHeartbeats 8000000 in
theorem drawValid_any (A : Option Addr) (n c : Nat) (w : World) (hn : n ≤ maxLen) (hx : RdCode w A n) :
    Calls Try.prog 44 #[.slice A n c] w fun e w' => ∃ A' c', ∃ xs : List Itm, e = .returned (.slice A' xs.length c') ∧ xs.length ≤ 11 ∧ (∀ s ∈ xs, s.title.size ≤ 11) ∧ w'.ownsRow w.heap.size 38 4 (.slice A' xs.length c') xs.length (itmCells xs) ∧ Below w.heap.size w w' := by
  have hc := cur_start (w := w) (cap := c) (t := 61) hx hn
  have hb0 : Below w.heap.size w (w.alloc (.cells #[.slice A n c, .int .i64 0, .int .u64 0] 61)) := bnew (Below.refl _ _) _
  have hB1 : w.heap.size < (w.alloc (.cells #[.slice A n c, .int .i64 0, .int .u64 0] 61)).heap.size := by simp
  go_enter Try.func44, Try.ntmps44
  go_wp2_with fail
  generalize w.alloc (.cells #[.slice A n c, .int .i64 0, .int .u64 0] 61) = W0 at *
  generalize hgg : w.heap.size = g at *
  refine (agenda_any g 0 W0 hc (by omega)).mono ?_
  rintro e W ⟨A', c', xs, rfl, hx11, HX, ho, hc, hg⟩
  have hlt := hB1
  clear hx
  generalize hBB : W0.heap.size = B0 at *
  have hbe := cur_below hb0 hg (Nat.le_refl g) (Nat.le_of_eq hgg.symm)
  go_wp2
  go_ret
  exact ⟨A', c', xs, rfl, hx11, HX, own_base ho (by omega), by rw [hgg]; exact hbe⟩
theorem drawOrder_any (A : Option Addr) (n c : Nat) (w : World) (hn : n ≤ maxLen) (hx : RdCode w A n) :
    Calls Try.prog 18 #[.slice A n c] w fun e w' => ∃ A' c', ∃ xs : List Itm, e = .returned (.slice A' xs.length c') ∧ xs.length ≤ 11 ∧ (∀ s ∈ xs, s.title.size ≤ 11) ∧ w'.ownsRow w.heap.size 38 4 (.slice A' xs.length c') xs.length (itmCells xs) ∧ Below w.heap.size w w' := by
  have H := Lib.hid (drawValid_any A n c w hn hx)
  go_enter Try.func18, Try.ntmps18
  go_wp2_with fail
  refine H.out.mono ?_
  rintro e w1 ⟨A', c', xs, rfl, h1, h2, h3, h4⟩
  go_wp2
  go_ret
  exact ⟨A', c', xs, rfl, h1, h2, h3, h4⟩
set_option maxHeartbeats 8000000 in
theorem drawTimes_any (A : Option Addr) (n c : Nat) (w : World) (hn : n ≤ maxLen) (hx : RdCode w A n) :
    Calls Try.prog 45 #[.slice A n c] w fun e w' => ∃ A' c', ∃ xs : List Itm, ∃ t : Int, e = .returned (.tuple #[.slice A' xs.length c', .int .i64 t]) ∧ xs.length ≤ 11 ∧ (∀ s ∈ xs, s.title.size ≤ 11) ∧ w'.ownsRow w.heap.size 38 4 (.slice A' xs.length c') xs.length (itmCells xs) ∧ Below w.heap.size w w' := by
  have hc := cur_start (w := w) (cap := c) (t := 61) hx hn
  have hb0 : Below w.heap.size w (w.alloc (.cells #[.slice A n c, .int .i64 0, .int .u64 0] 61)) := bnew (Below.refl _ _) _
  have hB1 : w.heap.size < (w.alloc (.cells #[.slice A n c, .int .i64 0, .int .u64 0] 61)).heap.size := by simp
  go_enter Try.func45, Try.ntmps45
  go_wp2_with fail
  generalize w.alloc (.cells #[.slice A n c, .int .i64 0, .int .u64 0] 61) = W0 at *
  generalize hgg : w.heap.size = g at *
  refine (agenda_any g 0 W0 hc (by omega)).mono ?_
  rintro e W ⟨A', c', xs, rfl, hx11, HX, ho, hc, hg⟩
  have hlt := hB1
  clear hx
  generalize hBB : W0.heap.size = B0 at *
  go_wp2_with fail
  refine (minute5_any g _ _ hc (by omega)).mono ?_
  rintro e w9 ⟨t, rfl, hc9, hg9⟩
  replace ho := World.ownsRow.kept ho hg9 (.inr (Ne.symm (own_ne ho hlt)))
  replace hg := grown_trans hg hg9
  replace hc := hc9
  clear hc9 hg9
  generalize w9 = W at *
  have hbe := cur_below hb0 hg (Nat.le_refl g) (Nat.le_of_eq hgg.symm)
  go_wp2
  exact bodyPost_ret (v := .tuple #[.slice A' xs.length c', .int .i64 t]) (by simp [results, Try.results45, go_sem]) rfl ⟨A', c', xs, t, rfl, hx11, HX, own_base ho (by omega), by rw [hgg]; exact hbe⟩
theorem drawLate_any (A : Option Addr) (n c : Nat) (w : World) (hn : n ≤ maxLen) (hx : RdCode w A n) :
    Calls Try.prog 19 #[.slice A n c] w fun e w' => ∃ A' c', ∃ xs : List Itm, ∃ t : Int, e = .returned (.tuple #[.slice A' xs.length c', .int .i64 t]) ∧ xs.length ≤ 11 ∧ (∀ s ∈ xs, s.title.size ≤ 11) ∧ w'.ownsRow w.heap.size 38 4 (.slice A' xs.length c') xs.length (itmCells xs) ∧ Below w.heap.size w w' := by
  have H := Lib.hid (drawTimes_any A n c w hn hx)
  go_enter Try.func19, Try.ntmps19
  go_wp2_with fail
  refine H.out.mono ?_
  rintro e w1 ⟨A', c', xs, t, rfl, h1, h2, h3, h4⟩
  go_wp2
  exact bodyPost_ret (v := .tuple #[.slice A' xs.length c', .int .i64 t]) (by simp [results, Try.results19, go_sem]) rfl ⟨A', c', xs, t, rfl, h1, h2, h3, h4⟩
set_option maxHeartbeats 8000000 in
theorem drawUntil_any (A : Option Addr) (n c : Nat) (w : World) (hn : n ≤ maxLen) (hx : RdCode w A n) :
    Calls Try.prog 23 #[.slice A n c] w fun e w' => ∃ A' c', ∃ xs : List Itm, ∃ t z : Int, e = .returned (.tuple #[.slice A' xs.length c', .int .i64 t, .int .i64 z]) ∧ xs.length ≤ 11 ∧ (∀ s ∈ xs, s.title.size ≤ 11) ∧ w'.ownsRow w.heap.size 38 4 (.slice A' xs.length c') xs.length (itmCells xs) ∧ Below w.heap.size w w' := by
  have hc := cur_start (w := w) (cap := c) (t := 61) hx hn
  have hb0 : Below w.heap.size w (w.alloc (.cells #[.slice A n c, .int .i64 0, .int .u64 0] 61)) := bnew (Below.refl _ _) _
  have hB1 : w.heap.size < (w.alloc (.cells #[.slice A n c, .int .i64 0, .int .u64 0] 61)).heap.size := by simp
  go_enter Try.func23, Try.ntmps23
  go_wp2_with fail
  generalize w.alloc (.cells #[.slice A n c, .int .i64 0, .int .u64 0] 61) = W0 at *
  generalize hgg : w.heap.size = g at *
  refine (agenda_any g 0 W0 hc (by omega)).mono ?_
  rintro e W ⟨A', c', xs, rfl, hx11, HX, ho, hc, hg⟩
  have hlt := hB1
  clear hx
  generalize hBB : W0.heap.size = B0 at *
  go_wp2_with fail
  refine (minute5_any g _ _ hc (by omega)).mono ?_
  rintro e w9 ⟨t, rfl, hc9, hg9⟩
  replace ho := World.ownsRow.kept ho hg9 (.inr (Ne.symm (own_ne ho hlt)))
  replace hg := grown_trans hg hg9
  replace hc := hc9
  clear hc9 hg9
  generalize w9 = W at *
  go_wp2_with fail
  have hbA := bnew (Below.refl W.heap.size W) (.cells #[.int .i64 t, .int .i64 (wrap64 (t + 30)), .int .i64 (wrap64 (t + 100)), .int .i64 700, .int .i64 10000, .int .i64 (wrap64 (t - 1)), .int .i64 10001] 3)
  refine (among_any g _ _ 7 7 _ (fun _ => true) _ (hc.below hbA) (by omega) rfl (by decide) (by decide) Rd.made rfl (fun ad e => by cases e; simp; have := hc.lt; omega)).mono ?_
  rintro e w9 ⟨z, rfl, -, hc9, hg9⟩
  replace ho := World.ownsRow.kept (own_below ho hbA) hg9 (.inr (Ne.symm (own_ne ho hlt)))
  replace hg := grown_trans (grown_below hg hbA) hg9
  clear hbA
  replace hc := hc9
  clear hc9 hg9
  generalize w9 = W at *
  have hbe := cur_below hb0 hg (Nat.le_refl g) (Nat.le_of_eq hgg.symm)
  go_wp2
  exact bodyPost_ret (v := .tuple #[.slice A' xs.length c', .int .i64 t, .int .i64 z]) (by simp [results, Try.results23, go_sem]) rfl ⟨A', c', xs, t, z, rfl, hx11, HX, own_base ho (by omega), by rw [hgg]; exact hbe⟩
set_option maxHeartbeats 8000000 in
theorem drawMove_any (A : Option Addr) (n c : Nat) (w : World) (hn : n ≤ maxLen) (hx : RdCode w A n) :
    Calls Try.prog 16 #[.slice A n c] w fun e w' => ∃ A' c', ∃ xs : List Itm, ∃ id z : Int, e = .returned (.tuple #[.slice A' xs.length c', .int .i64 id, .int .i64 z]) ∧ xs.length ≤ 11 ∧ (∀ s ∈ xs, s.title.size ≤ 11) ∧ w'.ownsRow w.heap.size 38 4 (.slice A' xs.length c') xs.length (itmCells xs) ∧ Below w.heap.size w w' := by
  have hc := cur_start (w := w) (cap := c) (t := 61) hx hn
  have hb0 : Below w.heap.size w (w.alloc (.cells #[.slice A n c, .int .i64 0, .int .u64 0] 61)) := bnew (Below.refl _ _) _
  have hB1 : w.heap.size < (w.alloc (.cells #[.slice A n c, .int .i64 0, .int .u64 0] 61)).heap.size := by simp
  go_enter Try.func16, Try.ntmps16
  go_wp2_with fail
  generalize w.alloc (.cells #[.slice A n c, .int .i64 0, .int .u64 0] 61) = W0 at *
  generalize hgg : w.heap.size = g at *
  refine (agenda_any g 0 W0 hc (by omega)).mono ?_
  rintro e W ⟨A', c', xs, rfl, hx11, HX, ho, hc, hg⟩
  have hlt := hB1
  clear hx
  generalize hBB : W0.heap.size = B0 at *
  go_wp2_with fail
  have hbA := bnew (Below.refl W.heap.size W) (.cells #[.int .i64 0, .int .i64 1, .int .i64 2, .int .i64 50] 3)
  refine (among_any g _ _ 4 4 _ (fun _ => true) _ (hc.below hbA) (by omega) rfl (by decide) (by decide) Rd.made (by decide) (fun ad e => by cases e; simp; have := hc.lt; omega)).mono ?_
  rintro e w9 ⟨id, rfl, -, hc9, hg9⟩
  replace ho := World.ownsRow.kept (own_below ho hbA) hg9 (.inr (Ne.symm (own_ne ho hlt)))
  replace hg := grown_trans (grown_below hg hbA) hg9
  clear hbA
  replace hc := hc9
  clear hc9 hg9
  generalize w9 = W at *
  by_cases hl0 : (0 : Int) < (xs.length : Int)
  · go_wp2_with fail
    refine (one_any g _ 8 _ hc (by omega)).mono ?_
    rintro e w9 ⟨b, rfl, hc9, hg9⟩
    replace ho := World.ownsRow.kept ho hg9 (.inr (Ne.symm (own_ne ho hlt)))
    replace hg := grown_trans hg hg9
    replace hc := hc9
    clear hc9 hg9
    generalize w9 = W at *
    cases b with
    | true =>
      have hlw : IntKind.i64.wrap ((xs.length : Int) + 1) = (xs.length : Int) + 1 := by rw [IntKind.wrap_i64]; omega
      go_wp2_with fail
      refine (pick_any g _ ((xs.length : Int) + 1) _ hc (by omega)).mono ?_
      rintro e w9 ⟨v, rfl, hv, hc9, hg9⟩
      replace ho := World.ownsRow.kept ho hg9 (.inr (Ne.symm (own_ne ho hlt)))
      replace hg := grown_trans hg hg9
      replace hc := hc9
      clear hc9 hg9
      generalize w9 = W at *
      go_wp2_with fail
      refine (pick_any g _ 16 _ hc (by omega)).mono ?_
      rintro e w9 ⟨v2, rfl, hv2, hc9, hg9⟩
      replace ho := World.ownsRow.kept ho hg9 (.inr (Ne.symm (own_ne ho hlt)))
      replace hg := grown_trans hg hg9
      replace hc := hc9
      clear hc9 hg9
      generalize w9 = W at *
      obtain ⟨q, hq, hq2⟩ : ∃ q : Nat, v2 / 15 = (q : Int) ∧ q ≤ 1 := ⟨(v2 / 15).toNat, by omega, by omega⟩
      have hqw : IntKind.i64.wrap (v2 / 15) = (q : Int) := by rw [IntKind.wrap_i64]; omega
      have hqt : v2.tdiv 15 = (q : Int) := by rw [Int.tdiv_eq_ediv_of_nonneg hv2.1]; exact hq
      have hv3 : v < (xs.length : Int) + 1 := hv.2.1 (by omega)
      have hsw : IntKind.i64.wrap (v - (q : Int)) = v - (q : Int) := by rw [IntKind.wrap_i64]; omega
      have hbe := cur_below hb0 hg (Nat.le_refl g) (Nat.le_of_eq hgg.symm)
      go_wp2
      exact bodyPost_ret (v := .tuple #[.slice A' xs.length c', .int .i64 id, .int .i64 (v - (q : Int))]) (by simp [results, Try.results16, go_sem]) rfl ⟨A', c', xs, id, v - (q : Int), rfl, hx11, HX, own_base ho (by omega), by rw [hgg]; exact hbe⟩
    | false =>
      go_wp2_with fail
      refine (pick_any g _ (xs.length : Int) _ hc (by omega)).mono ?_
      rintro e w9 ⟨vk, rfl, hvk, hc9, hg9⟩
      replace ho := World.ownsRow.kept ho hg9 (.inr (Ne.symm (own_ne ho hlt)))
      replace hg := grown_trans hg hg9
      replace hc := hc9
      clear hc9 hg9
      generalize w9 = W at *
      obtain ⟨k, rfl⟩ : ∃ m : Nat, vk = m := ⟨vk.toNat, by omega⟩
      have hk : k < xs.length := by have := hvk.2.1 (by omega); omega
      have hkI : (k : Int) < (xs.length : Int) := by omega
      obtain ⟨bb, off, rfl, c0, c1, c2, c3⟩ := Rd.itm (own_rd ho) hk
      generalize xs[k] = s at *
      have hlw : IntKind.i64.wrap ((xs.length : Int) + 1) = (xs.length : Int) + 1 := by rw [IntKind.wrap_i64]; omega
      go_wp2_with fail
      refine (pick_any g _ ((xs.length : Int) + 1) _ hc (by omega)).mono ?_
      rintro e w9 ⟨v, rfl, hv, hc9, hg9⟩
      replace ho := World.ownsRow.kept ho hg9 (.inr (Ne.symm (own_ne ho hlt)))
      replace hg := grown_trans hg hg9
      replace hc := hc9
      clear hc9 hg9
      generalize w9 = W at *
      go_wp2_with fail
      refine (pick_any g _ 16 _ hc (by omega)).mono ?_
      rintro e w9 ⟨v2, rfl, hv2, hc9, hg9⟩
      replace ho := World.ownsRow.kept ho hg9 (.inr (Ne.symm (own_ne ho hlt)))
      replace hg := grown_trans hg hg9
      replace hc := hc9
      clear hc9 hg9
      generalize w9 = W at *
      obtain ⟨q, hq, hq2⟩ : ∃ q : Nat, v2 / 15 = (q : Int) ∧ q ≤ 1 := ⟨(v2 / 15).toNat, by omega, by omega⟩
      have hqw : IntKind.i64.wrap (v2 / 15) = (q : Int) := by rw [IntKind.wrap_i64]; omega
      have hqt : v2.tdiv 15 = (q : Int) := by rw [Int.tdiv_eq_ediv_of_nonneg hv2.1]; exact hq
      have hv3 : v < (xs.length : Int) + 1 := hv.2.1 (by omega)
      have hsw : IntKind.i64.wrap (v - (q : Int)) = v - (q : Int) := by rw [IntKind.wrap_i64]; omega
      have hbe := cur_below hb0 hg (Nat.le_refl g) (Nat.le_of_eq hgg.symm)
      go_wp2
      exact bodyPost_ret (v := .tuple #[.slice (some ⟨bb, off, none⟩) xs.length c', .int .i64 s.id, .int .i64 (v - (q : Int))]) (by simp [results, Try.results16, go_sem]) rfl ⟨some ⟨bb, off, none⟩, c', xs, s.id, v - (q : Int), rfl, hx11, HX, own_base ho (by omega), by rw [hgg]; exact hbe⟩
  · have hlw : IntKind.i64.wrap ((xs.length : Int) + 1) = (xs.length : Int) + 1 := by rw [IntKind.wrap_i64]; omega
    go_wp2_with fail
    refine (pick_any g _ ((xs.length : Int) + 1) _ hc (by omega)).mono ?_
    rintro e w9 ⟨v, rfl, hv, hc9, hg9⟩
    replace ho := World.ownsRow.kept ho hg9 (.inr (Ne.symm (own_ne ho hlt)))
    replace hg := grown_trans hg hg9
    replace hc := hc9
    clear hc9 hg9
    generalize w9 = W at *
    go_wp2_with fail
    refine (pick_any g _ 16 _ hc (by omega)).mono ?_
    rintro e w9 ⟨v2, rfl, hv2, hc9, hg9⟩
    replace ho := World.ownsRow.kept ho hg9 (.inr (Ne.symm (own_ne ho hlt)))
    replace hg := grown_trans hg hg9
    replace hc := hc9
    clear hc9 hg9
    generalize w9 = W at *
    obtain ⟨q, hq, hq2⟩ : ∃ q : Nat, v2 / 15 = (q : Int) ∧ q ≤ 1 := ⟨(v2 / 15).toNat, by omega, by omega⟩
    have hqw : IntKind.i64.wrap (v2 / 15) = (q : Int) := by rw [IntKind.wrap_i64]; omega
    have hqt : v2.tdiv 15 = (q : Int) := by rw [Int.tdiv_eq_ediv_of_nonneg hv2.1]; exact hq
    have hv3 : v < (xs.length : Int) + 1 := hv.2.1 (by omega)
    have hsw : IntKind.i64.wrap (v - (q : Int)) = v - (q : Int) := by rw [IntKind.wrap_i64]; omega
    have hbe := cur_below hb0 hg (Nat.le_refl g) (Nat.le_of_eq hgg.symm)
    go_wp2
    exact bodyPost_ret (v := .tuple #[.slice A' xs.length c', .int .i64 id, .int .i64 (v - (q : Int))]) (by simp [results, Try.results16, go_sem]) rfl ⟨A', c', xs, id, v - (q : Int), rfl, hx11, HX, own_base ho (by omega), by rw [hgg]; exact hbe⟩
set_option maxHeartbeats 4000000 in
set_option maxRecDepth 100000 in
theorem rAgendas_any (A B : Option Addr) (c d : Nat) (xs : List Itm) (w : World) (hn : xs.length ≤ maxLen) (hx : Rd w A (itmCells xs)) (hy : Rd w B (itmCells xs)) :
    Calls Try.prog 17 #[.slice A xs.length c, .slice B xs.length d] w fun e w' => e = .returned (.bool true) ∧ Below w.heap.size w w' := by
  unfold maxLen at hn
  go_enter Try.func17, Try.ntmps17
  go_wp2_with fail
  go_loopw [5] (fun q wr => ∃ k : Nat, k ≤ xs.length ∧ q = .int .i64 k ∧ Below w.heap.size w wr) (fun q _ => xs.length - (intOf q).toNat)
  case atStart => exact ⟨0, by omega, rfl, Below.refl _ _⟩
  case round =>
    obtain ⟨k, hk, rfl, hb⟩ := hrel
    by_cases hlt : k < xs.length
    · obtain ⟨b, off, rfl, c0, c1, c2, c3⟩ := Rd.itm (hx.below hb) hlt
      obtain ⟨b2, off2, rfl, d0, d1, d2, d3⟩ := Rd.itm (hy.below hb) hlt
      have hkI : (k : Int) < (xs.length : Int) := by omega
      generalize xs[k] = s at *
      have g0 := cell_after c0
      have e0 := cell_after d0
      have g1 := cell_after c1
      have e1 := cell_after d1
      have g2 := cell_after c2
      have e2 := cell_after d2
      have g3 := cell_after c3
      have e3 := cell_after d3
      go_wp2_with fail
      refine wp_region_after (by kernel_rfl) (by kernel_rfl) ?_
      repeat (go_big_quiet_step (fail))
      refine wpQuiet_nil ?_
      intro nq
      have hb2 := hb.trans (nq.bel.mono hb.size)
      generalize nq.val = W1 at *
      go_wp2_with fail
      go_roundw
      case rel => exact ⟨k + 1, by omega, by go_num, hb2⟩
      case measure => simp [intOf]; omega
    · have hkI : ¬ (k : Int) < (xs.length : Int) := by omega
      go_wp2
      go_ret
      exact ⟨rfl, hb⟩
set_option maxHeartbeats 4000000 in
set_option maxRecDepth 100000 in
theorem rInts_any (A B : Option Addr) (c d : Nat) (xs : List Int) (w : World) (hn : xs.length ≤ maxLen) (hx : Rd w A (intCells xs)) (hy : Rd w B (intCells xs)) :
    Calls Try.prog 22 #[.slice A xs.length c, .slice B xs.length d] w fun e w' => e = .returned (.bool true) ∧ Below w.heap.size w w' := by
  unfold maxLen at hn
  go_enter Try.func22, Try.ntmps22
  go_wp2_with fail
  go_loopw [5] (fun q wr => ∃ k : Nat, k ≤ xs.length ∧ q = .int .i64 k ∧ Below w.heap.size w wr) (fun q _ => xs.length - (intOf q).toNat)
  case atStart => exact ⟨0, by omega, rfl, Below.refl _ _⟩
  case round =>
    obtain ⟨k, hk, rfl, hb⟩ := hrel
    by_cases hlt : k < xs.length
    · obtain ⟨b, off, rfl, c0⟩ := Rd.ints (hx.below hb) hlt
      obtain ⟨b2, off2, rfl, d0⟩ := Rd.ints (hy.below hb) hlt
      have hkI : (k : Int) < (xs.length : Int) := by omega
      generalize xs[k] = s at *
      have g0 := cell_after c0
      have e0 := cell_after d0
      go_wp2_with fail
      refine wp_region_after (by kernel_rfl) (by kernel_rfl) ?_
      repeat (go_big_quiet_step (fail))
      refine wpQuiet_nil ?_
      intro nq
      have hb2 := hb.trans (nq.bel.mono hb.size)
      generalize nq.val = W1 at *
      go_wp2_with fail
      go_roundw
      case rel => exact ⟨k + 1, by omega, by go_num, hb2⟩
      case measure => simp [intOf]; omega
    · have hkI : ¬ (k : Int) < (xs.length : Int) := by omega
      go_wp2
      go_ret
      exact ⟨rfl, hb⟩
end Go.Proofs.Ytpmliannnbfnmaa
