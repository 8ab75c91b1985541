/-
  Contracts of the cursor that the draws read from: what each draw may yield. Conditions: the cursor has gone on less than 2^40 times.
-/
import Derived.Test.YtdbcbaahjhaonaaBase
import Derived.Test.YtdbcbaahjhaonaaRow
import Derived.Test.YtdbcbaahjhaonaaLoose
import Derived.Laws.Bits64b
import Derived.Laws.Shifts
namespace Go.My
open Go.RowKit
theorem cell_bel {w w' : World} {p : Addr} {v : Value} (h : w.cell? p = some v) (hb : Below w.heap.size w w') : w'.cell? p = some v := (hb.cell (World.block_lt_of_cell? w _ h)).trans h
theorem blk_frozen {w : World} {g : Nat} {e : TypeId} {L : List Value} (h : Blk w g e L) (o : Nat) : w.frozen? ⟨g, o, none⟩ = false := by
  unfold World.frozen?; rw [show w.heap[g]? = _ from h]; simp
theorem blk_cell {w : World} {g : Nat} {e : TypeId} {L : List Value} (h : Blk w g e L) {j : Nat} {v : Value} (hj : L[j]? = some v) : w.cell? ⟨g, j, none⟩ = some v := by
  rw [cell_of_row w g j _ e (0, 0) h]; simpa using hj
theorem blk_made {w : World} {g : Nat} {e : TypeId} (cs : Array Value) (hg : g = w.heap.size) : Blk (w.alloc (.cells cs e)) g e cs.toList := by
  subst hg; unfold Blk; exact heap_alloc_new w _
/-- Bytes that can be read. -/
def CodeAt (w : World) (g : Nat) (A : Option Addr) (len : Nat) : Prop := len = 0 ∨ ∃ b off, A = some ⟨b, off, none⟩ ∧ b < g ∧ ∀ j, j < len → ∃ v : Int, 0 ≤ v ∧ v < 256 ∧ w.cell? ⟨b, off + j, none⟩ = some (.int .u8 v)
/-- A cursor in block g that has gone on N times at the most. -/
def Cur (w : World) (g N : Nat) (t : TypeId) : Prop := ∃ (A : Option Addr) (len cap a : Nat) (s : Int), Blk w g t [.slice A len cap, .int .i64 (a : Int), .int .u64 s] ∧ len ≤ 9223372036854775807 ∧ a ≤ N ∧ 0 ≤ s ∧ s < 18446744073709551616 ∧ CodeAt w g A len
theorem CodeAt.grown {w w' : World} {g len : Nat} {A : Option Addr} (h : CodeAt w g A len) (hg : w.grownBy w' (some g)) : CodeAt w' g A len := by
  rcases h with h | ⟨b, off, rfl, hb, hc⟩
  · exact .inl h
  · refine .inr ⟨b, off, rfl, hb, fun j hj => ?_⟩
    obtain ⟨v, h0, h1, h2⟩ := hc j hj
    exact ⟨v, h0, h1, hg.cell h2 (by simp; omega)⟩
theorem CodeAt.below {w w' : World} {g len : Nat} {A : Option Addr} (h : CodeAt w g A len) (hg : Below w.heap.size w w') : CodeAt w' g A len := h.grown ⟨hg.os, hg.tape, hg.output, hg.size, fun k hk _ => hg.block k hk⟩
theorem Cur.below {w w' : World} {g N : Nat} {t : TypeId} (h : Cur w g N t) (hb : Below w.heap.size w w') : Cur w' g N t := by
  obtain ⟨A, len, cap, a, s, h1, h2, h3, h4, h5, h6⟩ := h
  exact ⟨A, len, cap, a, s, h1.below hb, h2, h3, h4, h5, h6.below hb⟩
/-- Behind a step that writes into a later block alone. -/
theorem Cur.kept {w w' : World} {g N : Nat} {t : TypeId} {row : Option Nat} (h : Cur w g N t) (hg : w.grownBy w' row) (hr : ∀ k, row = some k → g < k) : Cur w' g N t := by
  obtain ⟨A, len, cap, a, s, h1, h2, h3, h4, h5, h6⟩ := h
  refine ⟨A, len, cap, a, s, h1.grown hg (fun e => by have := hr g e.symm; omega), h2, h3, h4, h5, ?_⟩
  rcases h6 with h | ⟨b, off, rfl, hb, hc⟩
  · exact .inl h
  · refine .inr ⟨b, off, rfl, hb, fun j hj => ?_⟩
    obtain ⟨v, h0, h1', h2'⟩ := hc j hj
    exact ⟨v, h0, h1', hg.cell h2' (fun e => by have := hr b e.symm; omega)⟩
/-- The bytes that a draw is given. -/
def RdCode (w : World) (A : Option Addr) (len : Nat) : Prop := len = 0 ∨ ∃ b off, A = some ⟨b, off, none⟩ ∧ ∀ j, j < len → ∃ v : Int, 0 ≤ v ∧ v < 256 ∧ w.cell? ⟨b, off + j, none⟩ = some (.int .u8 v)
theorem RdCode.below {w w' : World} {A : Option Addr} {len : Nat} (h : RdCode w A len) (hb : Below w.heap.size w w') : RdCode w' A len := by
  rcases h with h | ⟨b, off, rfl, hc⟩
  · exact .inl h
  · refine .inr ⟨b, off, rfl, fun j hj => ?_⟩
    obtain ⟨v, h0, h1, h2⟩ := hc j hj
    exact ⟨v, h0, h1, (hb.cell (World.block_lt_of_cell? w _ h2)).trans h2⟩
theorem cur_start {w : World} {A : Option Addr} {len cap : Nat} {t : TypeId} (h : RdCode w A len) (hl : len ≤ maxLen) : Cur (w.alloc (.cells #[.slice A len cap, .int .i64 0, .int .u64 0] t)) w.heap.size 0 t := by
  refine ⟨A, len, cap, 0, 0, by have := blk_made (w := w) (e := t) #[.slice A len cap, .int .i64 0, .int .u64 0] rfl; simpa using this, by unfold maxLen at hl; omega, Nat.le_refl _, Int.le_refl _, by decide, ?_⟩
  rcases h.below (bnew (Below.refl w.heap.size w) (.cells #[.slice A len cap, .int .i64 0, .int .u64 0] t)) with h1 | ⟨b, off, rfl, hc⟩
  · exact .inl h1
  · by_cases h0 : len = 0
    · exact .inl h0
    · rcases h with h2 | ⟨b2, off2, e2, hc2⟩
      · exact .inl h2
      · cases e2
        obtain ⟨v, _, _, hv⟩ := hc2 0 (by omega)
        exact .inr ⟨b, off, rfl, World.block_lt_of_cell? w _ hv, hc⟩
/-- Behind a cursor's draw all that was there ahead of the cursor is as it was. -/
theorem cur_below {w w1 w2 : World} {g B : Nat} (hb : Below B w w1) (hg : w1.grownBy w2 (some g)) (hB : B ≤ g) (hBs : B ≤ w.heap.size) : Below B w w2 := hb.grown hg (Nat.le_trans hBs hb.size) (fun k hk => by cases hk; exact hB)
theorem Cur.more {w : World} {g N M : Nat} {t : TypeId} (h : Cur w g N t) (hm : N ≤ M) : Cur w g M t := by
  obtain ⟨A, len, cap, a, s, h1, h2, h3, h4, h5, h6⟩ := h
  exact ⟨A, len, cap, a, s, h1, h2, by omega, h4, h5, h6⟩
theorem Cur.lt {w : World} {g N : Nat} {t : TypeId} (h : Cur w g N t) : g < w.heap.size := by
  obtain ⟨A, len, cap, a, s, h1, _⟩ := h
  exact h1.lt
theorem three_set {w : World} {g : Nat} {e : TypeId} {x y z u v : Value} (h : Blk w g e [x, y, z]) : Blk ((w.setCell ⟨g, 1, none⟩ u).setCell ⟨g, 2, none⟩ v) g e [x, u, v] := by
  unfold Blk at *
  have a := heap_setCell_same w g 1 _ e u h
  have b := heap_setCell_same _ g 2 _ e v a
  simpa using b
theorem low_byte {s : Int} (h0 : 0 ≤ s) (h1 : s < 18446744073709551616) : 0 ≤ bits .and .u64 s 255 ∧ bits .and .u64 s 255 ≤ 255 := by
  obtain ⟨n, rfl⟩ : ∃ n : Nat, s = n := ⟨s.toNat, by omega⟩
  have := bits_and_u64_nat n 255 (by omega) (by omega)
  rw [show ((255 : Nat) : Int) = 255 from rfl] at this
  rw [this]
  have h2 : n &&& 255 ≤ 255 := Nat.and_le_right
  omega
def isInt (p : Int → Bool) (u : Value) : Bool := match u with | .int .i64 v => p v | _ => false
def isStr (m : Nat) (u : Value) : Bool := match u with | .string s => decide (s.size ≤ m) | _ => false
theorem isInt_get {p : Int → Bool} {u : Value} (h : isInt p u = true) : ∃ v, u = .int .i64 v ∧ p v = true := by
  unfold isInt at h
  split at h
  · exact ⟨_, rfl, h⟩
  · cases h
theorem isStr_get {m : Nat} {u : Value} (h : isStr m u = true) : ∃ s, u = .string s ∧ s.size ≤ m := by
  unfold isStr at h
  split at h
  · exact ⟨_, rfl, by simpa using h⟩
  · cases h
/-- One cell of a row. -/
theorem Rd.one {w : World} {A : Option Addr} {cs : List Value} (h : Rd w A cs) {k : Nat} (hk : k < cs.length) : ∃ b off, A = some ⟨b, off, none⟩ ∧ w.cell? ⟨b, off + k, none⟩ = some cs[k] := by
  rcases h with h | ⟨b, off, rfl, hc⟩
  · subst h; simp at hk
  · exact ⟨b, off, rfl, hc k hk⟩
end Go.My
namespace Go.Proofs.Ytdbcbaahjhaonaa
open Go.RowKit Go.My
set_option maxHeartbeats 4000000 in
set_option maxRecDepth 100000 in
theorem next_any (g N : Nat) (w : World) (h : Cur w g N 80) (hN : N ≤ 1099511627776) :
    Calls Try.prog 98 #[.pointer (some ⟨g, 0, none⟩)] w fun e w' => ∃ v : Int, e = .returned (.int .i64 v) ∧ (0 ≤ v ∧ v ≤ 255) ∧ Cur w' g (N + 1) 80 ∧ w.grownBy w' (some g) := by
  obtain ⟨A, len, cap, a, s, hB, hlen, ha, hs0, hs1, hC⟩ := h
  have k0 := blk_cell hB (j := 0) rfl
  have k1 := blk_cell hB (j := 1) rfl
  have k2 := blk_cell hB (j := 2) rfl
  have haw : IntKind.i64.wrap ((a : Int) + 1) = (a : Int) + 1 := by rw [IntKind.wrap_i64]; omega
  go_enter Try.func98, Try.ntmps98
  go_wp2_with fail
  have g0 := cell_after k0
  have g1 := cell_after k1
  by_cases hal : a < len
  · obtain ⟨b, off, rfl, hbg, hc⟩ := hC.resolve_left (by omega)
    obtain ⟨v, hv0, hv1, kv⟩ := hc a hal
    have gv := cell_after kv
    have haI : (a : Int) < (len : Int) := by omega
    refine wp_region_after (by kernel_rfl) (by kernel_rfl) ?_
    repeat (go_big_quiet_step (fail))
    refine wpQuiet_nil ?_
    intro nq
    have hbx := nq.bel
    have hb1 := nq.bel
    generalize nq.val = w1 at *
    clear g0 g1 gv
    replace k0 := cell_bel k0 hbx
    replace k1 := cell_bel k1 hbx
    replace k2 := cell_bel k2 hbx
    replace kv := cell_bel kv hbx
    replace hB := hB.below hbx
    clear hbx
    have g0 := cell_after k0
    have g1 := cell_after k1
    have gv := cell_after kv
    go_wp2_with fail
    refine wp_region_after (by kernel_rfl) (by kernel_rfl) ?_
    repeat (go_big_quiet_step (fail))
    refine wpQuiet_nil ?_
    intro nq
    have hbx := nq.bel
    have hb12 := btr hb1 nq.bel
    generalize nq.val = w2 at *
    clear g0 g1 gv hb1
    replace k0 := cell_bel k0 hbx
    replace k1 := cell_bel k1 hbx
    replace k2 := cell_bel k2 hbx
    replace kv := cell_bel kv hbx
    replace hB := hB.below hbx
    clear hbx
    have z1 := blk_frozen hB 1
    have z2 := blk_frozen hB 2
    go_wp2_with fail
    have B5 := three_set (u := .int .i64 ((a : Int) + 1)) (v := .int .u64 (IntKind.u64.wrap (IntKind.u64.wrap (IntKind.u64.wrap (s * 6364136223846793005) + v) + 909909))) hB
    have hg5 : w.grownBy ((w2.setCell ⟨g, 1, none⟩ (.int .i64 ((a : Int) + 1))).setCell ⟨g, 2, none⟩ (.int .u64 (IntKind.u64.wrap (IntKind.u64.wrap (IntKind.u64.wrap (s * 6364136223846793005) + v) + 909909)))) (some g) := grown_set (grown_set (grown_wide (grown_of_below hb12)) 1 _) 2 _
    have hC5 := hC.grown hg5
    obtain ⟨s5, hs5⟩ : ∃ s5, s5 = (IntKind.u64.wrap (IntKind.u64.wrap (IntKind.u64.wrap (s * 6364136223846793005) + v) + 909909)) := ⟨_, rfl⟩
    have hS : 0 ≤ s5 ∧ s5 < 18446744073709551616 := by rw [hs5, IntKind.wrap_u64]; omega
    rw [← hs5] at B5 hg5 hC5 ⊢
    clear hs5 z1 z2 hb12 hB
    generalize (w2.setCell ⟨g, 1, none⟩ (.int .i64 ((a : Int) + 1))).setCell ⟨g, 2, none⟩ (.int .u64 s5) = w5 at *
    clear k0 k1 k2 kv
    have k0 := blk_cell B5 (j := 0) rfl
    have k1 := blk_cell B5 (j := 1) rfl
    have k2 := blk_cell B5 (j := 2) rfl
    have g0 := cell_after k0
    have g1 := cell_after k1
    have h2I : (a : Int) + 1 ≤ (len : Int) := by omega
    refine wp_region_after (by kernel_rfl) (by kernel_rfl) ?_
    repeat (go_big_quiet_step (fail))
    refine wpQuiet_nil ?_
    intro nq
    have hbx := nq.bel
    generalize nq.val = w6 at *
    clear g0 g1
    go_wp2
    go_ret
    exact ⟨v, rfl, by omega, ⟨some ⟨b, off, none⟩, len, cap, a + 1, s5, by have := B5.below hbx; simpa using this, hlen, by omega, hS.1, hS.2, hC5.below hbx⟩, grown_below hg5 hbx⟩
  · have haI : ¬ (a : Int) < (len : Int) := by omega
    refine wp_region_after (by kernel_rfl) (by kernel_rfl) ?_
    repeat (go_big_quiet_step (fail))
    refine wpQuiet_nil ?_
    intro nq
    have hbx := nq.bel
    have hb1 := nq.bel
    generalize nq.val = w1 at *
    clear g0 g1
    replace k0 := cell_bel k0 hbx
    replace k1 := cell_bel k1 hbx
    replace k2 := cell_bel k2 hbx
    replace hB := hB.below hbx
    clear hbx
    have hb12 := hb1
    clear hb1
    have z1 := blk_frozen hB 1
    have z2 := blk_frozen hB 2
    go_wp2_with fail
    have B5 := three_set (u := .int .i64 ((a : Int) + 1)) (v := .int .u64 (IntKind.u64.wrap (IntKind.u64.wrap (IntKind.u64.wrap (s * 6364136223846793005)) + 909909))) hB
    have hg5 : w.grownBy ((w1.setCell ⟨g, 1, none⟩ (.int .i64 ((a : Int) + 1))).setCell ⟨g, 2, none⟩ (.int .u64 (IntKind.u64.wrap (IntKind.u64.wrap (IntKind.u64.wrap (s * 6364136223846793005)) + 909909)))) (some g) := grown_set (grown_set (grown_wide (grown_of_below hb12)) 1 _) 2 _
    have hC5 := hC.grown hg5
    obtain ⟨s5, hs5⟩ : ∃ s5, s5 = (IntKind.u64.wrap (IntKind.u64.wrap (IntKind.u64.wrap (s * 6364136223846793005)) + 909909)) := ⟨_, rfl⟩
    have hS : 0 ≤ s5 ∧ s5 < 18446744073709551616 := by rw [hs5, IntKind.wrap_u64]; omega
    rw [← hs5] at B5 hg5 hC5 ⊢
    clear hs5 z1 z2 hb12 hB
    generalize (w1.setCell ⟨g, 1, none⟩ (.int .i64 ((a : Int) + 1))).setCell ⟨g, 2, none⟩ (.int .u64 s5) = w5 at *
    clear k0 k1 k2
    have k0 := blk_cell B5 (j := 0) rfl
    have k1 := blk_cell B5 (j := 1) rfl
    have k2 := blk_cell B5 (j := 2) rfl
    have g0 := cell_after k0
    have g1 := cell_after k1
    have h2I : ¬ (a : Int) + 1 ≤ (len : Int) := by omega
    refine wp_region_after (by kernel_rfl) (by kernel_rfl) ?_
    repeat (go_big_quiet_step (fail))
    refine wpQuiet_nil ?_
    intro nq
    have hbx := nq.bel
    generalize nq.val = w6 at *
    clear g0 g1
    have k2' := cell_bel k2 hbx
    have hlow := low_byte (s := s5 / 1099511627776) (by omega) (by omega)
    have hww : wrap64 (bits BinOp.and IntKind.u64 (s5 / 1099511627776) 255) = bits BinOp.and IntKind.u64 (s5 / 1099511627776) 255 := by
      generalize bits BinOp.and IntKind.u64 (s5 / 1099511627776) 255 = y at *
      unfold wrap64; omega
    go_wp2
    go_ret
    exact ⟨_, rfl, hlow, ⟨A, len, cap, a + 1, s5, by have := B5.below hbx; simpa using this, hlen, by omega, hS.1, hS.2, hC5.below hbx⟩, grown_below hg5 hbx⟩
set_option maxHeartbeats 2000000 in
theorem pick_any (g N : Nat) (n : Int) (w : World) (h : Cur w g N 80) (hN : N ≤ 549755813888) :
    Calls Try.prog 93 #[.pointer (some ⟨g, 0, none⟩), .int .i64 n] w fun e w' => ∃ v : Int, e = .returned (.int .i64 v) ∧ (0 ≤ v ∧ (1 ≤ n → v < n) ∧ (n ≤ 1 → v = 0)) ∧ Cur w' g (N + 2) 80 ∧ w.grownBy w' (some g) := by
  by_cases h1 : n ≤ 1
  · go_enter Try.func93, Try.ntmps93
    go_wp2
    go_ret
    exact ⟨0, rfl, by omega, h.more (by omega), World.grownBy.refl w _⟩
  · have HN := Lib.hid (next_any g N w h (by omega))
    have hn0 : (n == 0) = false := by simp; omega
    have hn0' : ¬ n = 0 := by omega
    by_cases h2 : 200 < n
    · have HN2 : Hid (∀ w1, Cur w1 g (N + 1) 80 → _) := fun w1 h => next_any g (N + 1) w1 h (by omega)
      clear h
      go_enter Try.func93, Try.ntmps93
      go_wp2_with fail
      refine HN.out.mono ?_
      rintro e w1 ⟨x, rfl, hx, hc1, hg1⟩
      go_wp2_with fail
      refine (HN2.out _ hc1).mono ?_
      rintro e w2 ⟨y, rfl, hy, hc2, hg2⟩
      have hw : IntKind.i64.wrap (IntKind.i64.wrap (x * 256) + y) = x * 256 + y := by rw [IntKind.wrap_i64, IntKind.wrap_i64]; omega
      have hw1 : IntKind.i64.wrap (x * 256) = x * 256 := by rw [IntKind.wrap_i64]; omega
      have hw2 : IntKind.i64.wrap (x * 256 + y) = x * 256 + y := by rw [IntKind.wrap_i64]; omega
      have ht1 := Int.emod_nonneg (x * 256 + y) (show n ≠ 0 by omega)
      have ht2 := Int.emod_lt_of_pos (x * 256 + y) (show 0 < n by omega)
      go_wp2
      go_ret
      exact ⟨_, rfl, ⟨ht1, fun _ => ht2, fun h => by omega⟩, hc2.more (by omega), grown_trans hg1 hg2⟩
    · go_enter Try.func93, Try.ntmps93
      go_wp2_with fail
      refine HN.out.mono ?_
      rintro e w1 ⟨x, rfl, hx, hc1, hg1⟩
      have ht1 := Int.emod_nonneg x (show n ≠ 0 by omega)
      have ht2 := Int.emod_lt_of_pos x (show 0 < n by omega)
      go_wp2
      go_ret
      exact ⟨_, rfl, ⟨ht1, fun _ => ht2, fun h => by omega⟩, hc1.more (by omega), hg1⟩
theorem one_any (g N : Nat) (n : Int) (w : World) (h : Cur w g N 80) (hN : N ≤ 549755813888) :
    Calls Try.prog 94 #[.pointer (some ⟨g, 0, none⟩), .int .i64 n] w fun e w' => ∃ b : Bool, e = .returned (.bool b) ∧ Cur w' g (N + 2) 80 ∧ w.grownBy w' (some g) := by
  have HP := Lib.hid (pick_any g N n w h hN)
  clear h
  go_enter Try.func94, Try.ntmps94
  go_wp2_with (go_at_call 93; refine HP.out.mono ?_; rintro e w1 ⟨x, rfl, hx, hc1, hg1⟩)
  go_ret
  exact ⟨_, rfl, hc1, hg1⟩
theorem among_any (g N : Nat) (A : Option Addr) (n c : Nat) (cs : List Value) (p : Int → Bool) (w : World) (h : Cur w g N 80) (hN : N ≤ 549755813888) (hl : cs.length = n) (h0 : 0 < n) (hn : n ≤ 1024) (hx : Rd w A cs) (hcs : cs.all (isInt p) = true) (hA : ∀ ad, A = some ad → ad.block ≠ g) :
    Calls Try.prog 96 #[.pointer (some ⟨g, 0, none⟩), .slice A n c] w fun e w' => ∃ v : Int, e = .returned (.int .i64 v) ∧ p v = true ∧ Cur w' g (N + 2) 80 ∧ w.grownBy w' (some g) := by
  have HP := Lib.hid (pick_any g N (n : Int) w h hN)
  have HA := Lib.hid hA
  have HL := Lib.hid hl
  clear h hA hl
  go_enter Try.func96, Try.ntmps96
  go_wp2_with fail
  refine HP.out.mono ?_
  rintro e w1 ⟨x, rfl, hx1, hc1, hg1⟩
  obtain ⟨k, rfl⟩ : ∃ k : Nat, x = k := ⟨x.toNat, by omega⟩
  have hk : k < cs.length := by rw [HL.out]; omega
  have hx2 := hx.grown hg1 (fun ad e => by simpa using HA.out ad e)
  obtain ⟨b, off, rfl, c0⟩ := Rd.one hx2 hk
  have hkI : (k : Int) < (n : Int) := by omega
  obtain ⟨v, hv, hp⟩ := isInt_get (List.all_eq_true.1 hcs _ (List.getElem_mem hk))
  rw [hv] at c0
  clear hv hcs
  go_wp2
  go_ret
  exact ⟨v, rfl, hp, hc1, hg1⟩
end Go.Proofs.Ytdbcbaahjhaonaa
