/-
  FnRules: the draws of its inputs, and the comparison of two rows of rules. Conditions: none.
-/
import Derived.Test.YtfaphackdhdcaaaDoorRulD
namespace Go.Proofs.YtfaphackdhdcaaaDoor
open Go.RowKit Go.My
set_option maxHeartbeats 4000000 in
theorem drawRules0_any (A : Option Addr) (n c : Nat) (w : World) (hn : n ≤ maxLen) (hx : RdCode w A n) :
    Calls Tryd.prog 51 #[.slice A n c] w fun e w' => ∃ A' c', ∃ xs : List Rul, e = .returned (.slice A' xs.length c') ∧ xs.length ≤ 10 ∧ (∀ s ∈ xs, s.name.size ≤ 11) ∧ w'.ownsRow w.heap.size 27 7 (.slice A' xs.length c') xs.length (rulCells xs) ∧ Below w.heap.size w w' := by
  have hc0 := cur_start (w := w) (cap := c) (t := 66) hx hn
  have hb0 : Below w.heap.size w (w.alloc (.cells #[.slice A n c, .int .i64 0, .int .u64 0] 66)) := bnew (Below.refl _ _) _
  go_enter Tryd.func51, Tryd.ntmps51
  go_wp2_with fail
  have hsz : w.heap.size ≤ (w.alloc (.cells #[.slice A n c, .int .i64 0, .int .u64 0] 66)).heap.size := hb0.size
  generalize w.alloc (.cells #[.slice A n c, .int .i64 0, .int .u64 0] 66) = W0 at *
  refine (rules_any _ 0 W0 hc0 (by omega)).mono ?_
  rintro e w1 ⟨A1, c1, xs, rfl, hl, hs, ho, hc1, hg1⟩
  have hb1 := cur_below hb0 hg1 (Nat.le_refl _) (Nat.le_refl _)
  go_wp2
  go_ret
  exact ⟨A1, c1, xs, rfl, hl, hs, own_base ho hsz, hb1⟩
set_option maxHeartbeats 4000000 in
theorem drawRules_any (A : Option Addr) (n c : Nat) (w : World) (hn : n ≤ maxLen) (hx : RdCode w A n) :
    Calls Tryd.prog 28 #[.slice A n c] w fun e w' => ∃ A' c', ∃ xs : List Rul, e = .returned (.slice A' xs.length c') ∧ xs.length ≤ 10 ∧ (∀ s ∈ xs, s.name.size ≤ 11) ∧ w'.ownsRow w.heap.size 27 7 (.slice A' xs.length c') xs.length (rulCells xs) ∧ Below w.heap.size w w' := by
  have H := Lib.hid (drawRules0_any A n c w hn hx)
  go_enter Tryd.func28, Tryd.ntmps28
  go_wp2_with fail
  refine H.out.mono ?_
  rintro e w1 ⟨A1, c1, xs, rfl, hl, hs, ho, hb1⟩
  go_wp2
  go_ret
  exact ⟨A1, c1, xs, rfl, hl, hs, ho, hb1⟩
set_option maxHeartbeats 4000000 in
theorem drawRule0_any (A : Option Addr) (n c : Nat) (w : World) (hn : n ≤ maxLen) (hx : RdCode w A n) :
    Calls Tryd.prog 45 #[.slice A n c] w fun e w' => ∃ m : Rul, e = .returned (.agg #[.int .i64 m.id, .string m.name, .int .i64 m.rank, .bool m.sec, .bool m.deb, .bool m.am, .int .i64 m.need]) ∧ m.name.size ≤ 11 ∧ Below w.heap.size w w' := by
  have hbz := bnew (Below.refl w.heap.size w) (.cells #[.int .i64 0, .string ⟨#[]⟩, .int .i64 0, .bool false, .bool false, .bool false, .int .i64 0] 27)
  have hc0 := cur_start (w := (w.alloc (.cells #[.int .i64 0, .string ⟨#[]⟩, .int .i64 0, .bool false, .bool false, .bool false, .int .i64 0] 27))) (cap := c) (t := 66) (hx.below hbz) hn
  have hb0 : Below w.heap.size w ((w.alloc (.cells #[.int .i64 0, .string ⟨#[]⟩, .int .i64 0, .bool false, .bool false, .bool false, .int .i64 0] 27)).alloc (.cells #[.slice A n c, .int .i64 0, .int .u64 0] 66)) := bnew hbz _
  have RB0 : Blk (w.alloc (.cells #[.int .i64 0, .string ⟨#[]⟩, .int .i64 0, .bool false, .bool false, .bool false, .int .i64 0] 27)) w.heap.size 27 [.int .i64 0, .string ⟨#[]⟩, .int .i64 0, .bool false, .bool false, .bool false, .int .i64 0] := blk_made #[.int .i64 0, .string ⟨#[]⟩, .int .i64 0, .bool false, .bool false, .bool false, .int .i64 0] rfl
  have RB := RB0.below (bnew (Below.refl _ _) (.cells #[.slice A n c, .int .i64 0, .int .u64 0] 66))
  have hgw : (w.alloc (.cells #[.int .i64 0, .string ⟨#[]⟩, .int .i64 0, .bool false, .bool false, .bool false, .int .i64 0] 27)).heap.size = w.heap.size + 1 := by simp
  clear RB0
  go_enter Tryd.func45, Tryd.ntmps45
  go_wp2_with fail
  rw [hgw] at hc0
  generalize (w.alloc (.cells #[.int .i64 0, .string ⟨#[]⟩, .int .i64 0, .bool false, .bool false, .bool false, .int .i64 0] 27)).alloc (.cells #[.slice A n c, .int .i64 0, .int .u64 0] 66) = W0 at *
  refine (rule_any _ 0 W0 hc0 (by omega)).mono ?_
  rintro e w1 ⟨m, rfl, hm, hc1, hg1⟩
  have hb1 := cur_below hb0 hg1 (Nat.le_succ _) (Nat.le_refl _)
  replace RB := RB.grown hg1 (by simp)
  have g0 := blk_cell RB (j := 0) rfl
  have z0 := blk_frozen RB 0
  have g1 := blk_cell RB (j := 1) rfl
  have z1 := blk_frozen RB 1
  have g2 := blk_cell RB (j := 2) rfl
  have z2 := blk_frozen RB 2
  have g3 := blk_cell RB (j := 3) rfl
  have z3 := blk_frozen RB 3
  have g4 := blk_cell RB (j := 4) rfl
  have z4 := blk_frozen RB 4
  have g5 := blk_cell RB (j := 5) rfl
  have z5 := blk_frozen RB 5
  have g6 := blk_cell RB (j := 6) rfl
  have z6 := blk_frozen RB 6
  go_wp2
  exact bodyPost_ret (v := .agg #[.int .i64 m.id, .string m.name, .int .i64 m.rank, .bool m.sec, .bool m.deb, .bool m.am, .int .i64 m.need]) (by simp [results, Tryd.results45, go_sem, g0, g1, g2, g3, g4, g5, g6]) rfl ⟨m, rfl, hm, (((((((hb1).setCell (Nat.le_refl _) _).setCell (Nat.le_refl _) _).setCell (Nat.le_refl _) _).setCell (Nat.le_refl _) _).setCell (Nat.le_refl _) _).setCell (Nat.le_refl _) _).setCell (Nat.le_refl _) _⟩
set_option maxHeartbeats 4000000 in
theorem drawRule_any (A : Option Addr) (n c : Nat) (w : World) (hn : n ≤ maxLen) (hx : RdCode w A n) :
    Calls Tryd.prog 25 #[.slice A n c] w fun e w' => ∃ m : Rul, e = .returned (.agg #[.int .i64 m.id, .string m.name, .int .i64 m.rank, .bool m.sec, .bool m.deb, .bool m.am, .int .i64 m.need]) ∧ m.name.size ≤ 11 ∧ Below w.heap.size w w' := by
  have hbz := bnew (Below.refl w.heap.size w) (.cells #[.int .i64 0, .string ⟨#[]⟩, .int .i64 0, .bool false, .bool false, .bool false, .int .i64 0] 27)
  have RB : Blk (w.alloc (.cells #[.int .i64 0, .string ⟨#[]⟩, .int .i64 0, .bool false, .bool false, .bool false, .int .i64 0] 27)) w.heap.size 27 [.int .i64 0, .string ⟨#[]⟩, .int .i64 0, .bool false, .bool false, .bool false, .int .i64 0] := blk_made #[.int .i64 0, .string ⟨#[]⟩, .int .i64 0, .bool false, .bool false, .bool false, .int .i64 0] rfl
  have H := Lib.hid (drawRule0_any A n c (w.alloc (.cells #[.int .i64 0, .string ⟨#[]⟩, .int .i64 0, .bool false, .bool false, .bool false, .int .i64 0] 27)) hn (hx.below hbz))
  go_enter Tryd.func25, Tryd.ntmps25
  go_wp2_with fail
  refine H.out.mono ?_
  rintro e w1 ⟨m, rfl, hm, hb01⟩
  have hb1 := btr hbz hb01
  replace RB := RB.below hb01
  have g0 := blk_cell RB (j := 0) rfl
  have z0 := blk_frozen RB 0
  have g1 := blk_cell RB (j := 1) rfl
  have z1 := blk_frozen RB 1
  have g2 := blk_cell RB (j := 2) rfl
  have z2 := blk_frozen RB 2
  have g3 := blk_cell RB (j := 3) rfl
  have z3 := blk_frozen RB 3
  have g4 := blk_cell RB (j := 4) rfl
  have z4 := blk_frozen RB 4
  have g5 := blk_cell RB (j := 5) rfl
  have z5 := blk_frozen RB 5
  have g6 := blk_cell RB (j := 6) rfl
  have z6 := blk_frozen RB 6
  go_wp2
  exact bodyPost_ret (v := .agg #[.int .i64 m.id, .string m.name, .int .i64 m.rank, .bool m.sec, .bool m.deb, .bool m.am, .int .i64 m.need]) (by simp [results, Tryd.results25, go_sem, g0, g1, g2, g3, g4, g5, g6]) rfl ⟨m, rfl, hm, (((((((hb1).setCell (Nat.le_refl _) _).setCell (Nat.le_refl _) _).setCell (Nat.le_refl _) _).setCell (Nat.le_refl _) _).setCell (Nat.le_refl _) _).setCell (Nat.le_refl _) _).setCell (Nat.le_refl _) _⟩
set_option maxHeartbeats 4000000 in
theorem drawParse_any (A : Option Addr) (n c : Nat) (w : World) (hn : n ≤ maxLen) (hx : RdCode w A n) :
    Calls Tryd.prog 27 #[.slice A n c] w fun e w' => ∃ t : ByteArray, e = .returned (.string t) ∧ t.size ≤ 1000 ∧ Below w.heap.size w w' := by
  have hc0 := cur_start (w := w) (cap := c) (t := 66) hx hn
  have hb0 : Below w.heap.size w (w.alloc (.cells #[.slice A n c, .int .i64 0, .int .u64 0] 66)) := bnew (Below.refl _ _) _
  go_enter Tryd.func27, Tryd.ntmps27
  go_wp2_with fail
  have hsz : w.heap.size < (w.alloc (.cells #[.slice A n c, .int .i64 0, .int .u64 0] 66)).heap.size := by simp
  generalize w.alloc (.cells #[.slice A n c, .int .i64 0, .int .u64 0] 66) = W0 at *
  refine (rule_any _ 0 W0 hc0 (by omega)).mono ?_
  rintro e w1 ⟨m, rfl, hm, hc1, hg1⟩
  have hb1 := cur_below hb0 hg1 (Nat.le_refl _) (Nat.le_refl _)
  have hs1 := hg1.size
  have hbM := bnew (Below.refl w1.heap.size w1) (.cells #[.int .i64 m.id, .string m.name, .int .i64 m.rank, .bool m.sec, .bool m.deb, .bool m.am, .int .i64 m.need] 27)
  have RB : Blk (w1.alloc (.cells #[.int .i64 m.id, .string m.name, .int .i64 m.rank, .bool m.sec, .bool m.deb, .bool m.am, .int .i64 m.need] 27)) w1.heap.size 27 [.int .i64 m.id, .string m.name, .int .i64 m.rank, .bool m.sec, .bool m.deb, .bool m.am, .int .i64 m.need] := blk_made #[.int .i64 m.id, .string m.name, .int .i64 m.rank, .bool m.sec, .bool m.deb, .bool m.am, .int .i64 m.need] rfl
  have g0 := blk_cell RB (j := 0) rfl
  have z0 := blk_frozen RB 0
  have g1 := blk_cell RB (j := 1) rfl
  have z1 := blk_frozen RB 1
  have g2 := blk_cell RB (j := 2) rfl
  have z2 := blk_frozen RB 2
  have g3 := blk_cell RB (j := 3) rfl
  have z3 := blk_frozen RB 3
  have g4 := blk_cell RB (j := 4) rfl
  have z4 := blk_frozen RB 4
  have g5 := blk_cell RB (j := 5) rfl
  have z5 := blk_frozen RB 5
  have g6 := blk_cell RB (j := 6) rfl
  have z6 := blk_frozen RB 6
  have hc1b := hc1.below hbM
  have hb1b := btr hb1 hbM
  have HS := Lib.hid (l2Single_any m (w1.alloc (.cells #[.int .i64 m.id, .string m.name, .int .i64 m.rank, .bool m.sec, .bool m.deb, .bool m.am, .int .i64 m.need] 27)) (by unfold maxLen; omega))
  cases hr : rulOk m with
  | true =>
    rw [hr] at HS
    go_wp2_with fail
    refine HS.out.mono ?_
    rintro e w2 ⟨rfl, hb12⟩
    replace RB := RB.below hb12
    have hbX := btr hb1b hb12
    have hcX := hc1b.below hb12
    clear g0 z0 g1 z1 g2 z2 g3 z3 g4 z4 g5 z5 g6 z6
    have g0 := blk_cell RB (j := 0) rfl
    have z0 := blk_frozen RB 0
    have g1 := blk_cell RB (j := 1) rfl
    have z1 := blk_frozen RB 1
    have g2 := blk_cell RB (j := 2) rfl
    have z2 := blk_frozen RB 2
    have g3 := blk_cell RB (j := 3) rfl
    have z3 := blk_frozen RB 3
    have g4 := blk_cell RB (j := 4) rfl
    have z4 := blk_frozen RB 4
    have g5 := blk_cell RB (j := 5) rfl
    have z5 := blk_frozen RB 5
    have g6 := blk_cell RB (j := 6) rfl
    have z6 := blk_frozen RB 6
    go_wp2_with fail
    refine (l2Line_any m w2 hr).mono ?_
    rintro e w3 ⟨rfl, hbL⟩
    have hsl := line_size hr
    generalize lineB m = S at *
    have hb2 := btr hbX hbL
    have hc2 := hcX.below hbL
    go_wp2_with fail
    refine (one_any _ _ 4 _ hc2 (by omega)).mono ?_
    rintro e w5 ⟨b, rfl, hc3, hg3⟩
    have hb3 := cur_below hb2 hg3 (Nat.le_refl _) (Nat.le_refl _)
    cases b with
    | false =>
      go_wp2
      go_ret
      exact ⟨_, rfl, by omega, hb3⟩
    | true =>
      go_wp2_with fail
      refine (spoilt_any _ _ S _ _ hc3 (by omega) (by omega) (by decide) (by decide)).mono ?_
      rintro e w6 ⟨t, rfl, ht, hc4, hg4⟩
      have hb4 := cur_below hb3 hg4 (Nat.le_refl _) (Nat.le_refl _)
      go_wp2
      go_ret
      exact ⟨t, rfl, by omega, hb4⟩
  | false =>
    rw [hr] at HS
    go_wp2_with fail
    refine HS.out.mono ?_
    rintro e w2 ⟨rfl, hb12⟩
    replace RB := RB.below hb12
    have hbX0 := btr hb1b hb12
    have hcX0 := hc1b.below hb12
    clear g0 z0 g1 z1 g2 z2 g3 z3 g4 z4 g5 z5 g6 z6
    have g0 := blk_cell RB (j := 0) rfl
    have z0 := blk_frozen RB 0
    have g1 := blk_cell RB (j := 1) rfl
    have z1 := blk_frozen RB 1
    have g2 := blk_cell RB (j := 2) rfl
    have z2 := blk_frozen RB 2
    have g3 := blk_cell RB (j := 3) rfl
    have z3 := blk_frozen RB 3
    have g4 := blk_cell RB (j := 4) rfl
    have z4 := blk_frozen RB 4
    have g5 := blk_cell RB (j := 5) rfl
    have z5 := blk_frozen RB 5
    have g6 := blk_cell RB (j := 6) rfl
    have z6 := blk_frozen RB 6
    have hle : w.heap.size ≤ w1.heap.size := by omega
    have hlt : w.heap.size < w1.heap.size := by omega
    go_wp2_with fail
    refine (l2Line_any (⟨4, ⟨#[114, 101, 102, 101, 114]⟩, 2, false, true, false, 2⟩ : Rul) _ (by decide)).mono ?_
    rintro e w3 ⟨rfl, hbL⟩
    have hbX := (((((((hbX0).setCell (show w.heap.size ≤ (⟨w1.heap.size, 0, none⟩ : Addr).block from hle) (.int .i64 4)).setCell (show w.heap.size ≤ (⟨w1.heap.size, 1, none⟩ : Addr).block from hle) (.string ⟨#[114, 101, 102, 101, 114]⟩)).setCell (show w.heap.size ≤ (⟨w1.heap.size, 2, none⟩ : Addr).block from hle) (.int .i64 2)).setCell (show w.heap.size ≤ (⟨w1.heap.size, 3, none⟩ : Addr).block from hle) (.bool false)).setCell (show w.heap.size ≤ (⟨w1.heap.size, 4, none⟩ : Addr).block from hle) (.bool true)).setCell (show w.heap.size ≤ (⟨w1.heap.size, 5, none⟩ : Addr).block from hle) (.bool false)).setCell (show w.heap.size ≤ (⟨w1.heap.size, 6, none⟩ : Addr).block from hle) (.int .i64 2)
    have hcX := (((((((hcX0).set hlt 0 (.int .i64 4)).set hlt 1 (.string ⟨#[114, 101, 102, 101, 114]⟩)).set hlt 2 (.int .i64 2)).set hlt 3 (.bool false)).set hlt 4 (.bool true)).set hlt 5 (.bool false)).set hlt 6 (.int .i64 2)
    have hsl : (lineB (⟨4, ⟨#[114, 101, 102, 101, 114]⟩, 2, false, true, false, 2⟩ : Rul)).size ≤ 80 := line_size (by decide)
    generalize lineB (⟨4, ⟨#[114, 101, 102, 101, 114]⟩, 2, false, true, false, 2⟩ : Rul) = S at *
    have hb2 := btr hbX hbL
    have hc2 := hcX.below hbL
    go_wp2_with fail
    refine (one_any _ _ 4 _ hc2 (by omega)).mono ?_
    rintro e w5 ⟨b, rfl, hc3, hg3⟩
    have hb3 := cur_below hb2 hg3 (Nat.le_refl _) (Nat.le_refl _)
    cases b with
    | false =>
      go_wp2
      go_ret
      exact ⟨_, rfl, by omega, hb3⟩
    | true =>
      go_wp2_with fail
      refine (spoilt_any _ _ S _ _ hc3 (by omega) (by omega) (by decide) (by decide)).mono ?_
      rintro e w6 ⟨t, rfl, ht, hc4, hg4⟩
      have hb4 := cur_below hb3 hg4 (Nat.le_refl _) (Nat.le_refl _)
      go_wp2
      go_ret
      exact ⟨t, rfl, by omega, hb4⟩
set_option maxHeartbeats 4000000 in
theorem drawParses_any (A : Option Addr) (n c : Nat) (w : World) (hn : n ≤ maxLen) (hx : RdCode w A n) :
    Calls Tryd.prog 31 #[.slice A n c] w fun e w' => ∃ t : ByteArray, e = .returned (.string t) ∧ t.size ≤ 1000 ∧ Below w.heap.size w w' := by
  have hc0 := cur_start (w := w) (cap := c) (t := 66) hx hn
  have hb0 : Below w.heap.size w (w.alloc (.cells #[.slice A n c, .int .i64 0, .int .u64 0] 66)) := bnew (Below.refl _ _) _
  go_enter Tryd.func31, Tryd.ntmps31
  go_wp2_with fail
  have hsz : w.heap.size < (w.alloc (.cells #[.slice A n c, .int .i64 0, .int .u64 0] 66)).heap.size := by simp
  generalize w.alloc (.cells #[.slice A n c, .int .i64 0, .int .u64 0] 66) = W0 at *
  refine (rules_any _ 0 W0 hc0 (by omega)).mono ?_
  rintro e w1 ⟨A1, c1, xs, rfl, hl, hs, ho, hc1, hg1⟩
  have hb1 := cur_below hb0 hg1 (Nat.le_refl _) (Nat.le_refl _)
  have HS := Lib.hid (l2Good_any A1 c1 xs w1 (by unfold maxLen; omega) (own_le ho) (own_rd ho) (fun s h => by have := hs s h; unfold maxLen; omega))
  cases hr : goodRul xs with
  | true =>
    rw [hr] at HS
    go_wp2_with fail
    refine HS.out.mono ?_
    rintro e w2 ⟨rfl, hb12⟩
    have hbX := btr hb1 hb12
    have hcX := hc1.below hb12
    have ho2 := own_below ho hb12
    have hok := (good_ok hr).1
    have h8 := (good_ok hr).2
    go_wp2_with fail
    refine (l2Text_any A1 c1 xs w2 h8 (own_rd ho2) hok).mono ?_
    rintro e w3 ⟨rfl, hbL⟩
    have hsl : (⟨(textL xs).toArray⟩ : ByteArray).size ≤ 648 := by have := textL_len hok; show (textL xs).toArray.size ≤ _; simp; omega
    generalize (⟨(textL xs).toArray⟩ : ByteArray) = S at *
    have hb2 := btr hbX hbL
    have hc2 := hcX.below hbL
    go_wp2_with fail
    refine (one_any _ _ 4 _ hc2 (by omega)).mono ?_
    rintro e w5 ⟨b, rfl, hc3, hg3⟩
    have hb3 := cur_below hb2 hg3 (Nat.le_refl _) (Nat.le_refl _)
    cases b with
    | false =>
      go_wp2
      go_ret
      exact ⟨_, rfl, by omega, hb3⟩
    | true =>
      go_wp2_with fail
      refine (spoilt_any _ _ S _ _ hc3 (by omega) (by omega) (by decide) (by decide)).mono ?_
      rintro e w6 ⟨t, rfl, ht, hc4, hg4⟩
      have hb4 := cur_below hb3 hg4 (Nat.le_refl _) (Nat.le_refl _)
      go_wp2
      go_ret
      exact ⟨t, rfl, by omega, hb4⟩
  | false =>
    rw [hr] at HS
    go_wp2_with fail
    refine HS.out.mono ?_
    rintro e w2 ⟨rfl, hb12⟩
    have hbN := bnew (Below.refl w2.heap.size w2) (.cells #[.int .i64 1, .string ⟨#[109, 97, 105, 110]⟩, .int .i64 0, .bool false, .bool false, .bool false, .int .i64 1, .int .i64 2, .string ⟨#[116, 97, 98, 108, 101]⟩, .int .i64 4, .bool true, .bool false, .bool false, .int .i64 1] 27)
    have hbX := btr (btr hb1 hb12) hbN
    have hcX := (hc1.below hb12).below hbN
    have hok : ∀ s ∈ ([⟨1, ⟨#[109, 97, 105, 110]⟩, 0, false, false, false, 1⟩, ⟨2, ⟨#[116, 97, 98, 108, 101]⟩, 4, true, false, false, 1⟩] : List Rul), rulOk s = true := by decide
    go_wp2_with fail
    refine (l2Text_any (some ⟨w2.heap.size, 0, none⟩) 2 ([⟨1, ⟨#[109, 97, 105, 110]⟩, 0, false, false, false, 1⟩, ⟨2, ⟨#[116, 97, 98, 108, 101]⟩, 4, true, false, false, 1⟩] : List Rul) _ (by decide) (rd_new' w2 #[.int .i64 1, .string ⟨#[109, 97, 105, 110]⟩, .int .i64 0, .bool false, .bool false, .bool false, .int .i64 1, .int .i64 2, .string ⟨#[116, 97, 98, 108, 101]⟩, .int .i64 4, .bool true, .bool false, .bool false, .int .i64 1] 27) hok).mono ?_
    rintro e w3 ⟨rfl, hbL⟩
    have hsl : (⟨(textL ([⟨1, ⟨#[109, 97, 105, 110]⟩, 0, false, false, false, 1⟩, ⟨2, ⟨#[116, 97, 98, 108, 101]⟩, 4, true, false, false, 1⟩] : List Rul)).toArray⟩ : ByteArray).size ≤ 648 := by have := textL_len hok; show (textL _).toArray.size ≤ _; simp at this ⊢; omega
    generalize (⟨(textL ([⟨1, ⟨#[109, 97, 105, 110]⟩, 0, false, false, false, 1⟩, ⟨2, ⟨#[116, 97, 98, 108, 101]⟩, 4, true, false, false, 1⟩] : List Rul)).toArray⟩ : ByteArray) = S at *
    have hb2 := btr hbX hbL
    have hc2 := hcX.below hbL
    go_wp2_with fail
    refine (one_any _ _ 4 _ hc2 (by omega)).mono ?_
    rintro e w5 ⟨b, rfl, hc3, hg3⟩
    have hb3 := cur_below hb2 hg3 (Nat.le_refl _) (Nat.le_refl _)
    cases b with
    | false =>
      go_wp2
      go_ret
      exact ⟨_, rfl, by omega, hb3⟩
    | true =>
      go_wp2_with fail
      refine (spoilt_any _ _ S _ _ hc3 (by omega) (by omega) (by decide) (by decide)).mono ?_
      rintro e w6 ⟨t, rfl, ht, hc4, hg4⟩
      have hb4 := cur_below hb3 hg4 (Nat.le_refl _) (Nat.le_refl _)
      go_wp2
      go_ret
      exact ⟨t, rfl, by omega, hb4⟩
set_option maxHeartbeats 4000000 in
theorem vRules_same (A A2 : Option Addr) (c c2 : Nat) (xs : List Rul) (w : World) (hn : xs.length ≤ 1000) (hx : Rd w A (rulCells xs)) (hx2 : Rd w A2 (rulCells xs)) :
    Calls Tryd.prog 30 #[.slice A xs.length c, .slice A2 xs.length c2] w fun e w' => e = .returned (.bool true) ∧ Below w.heap.size w w' := by
  go_enter Tryd.func30, Tryd.ntmps30
  go_wp2_with fail
  go_loopw [5] (fun q wr => ∃ k : Nat, k ≤ xs.length ∧ q = .int .i64 k ∧ Below w.heap.size w wr) (fun q _ => xs.length - (intOf q).toNat)
  case atStart => exact ⟨0, by omega, rfl, Below.refl _ _⟩
  case round =>
    obtain ⟨k, hk, rfl, hb⟩ := hrel
    by_cases hlt : k < xs.length
    · obtain ⟨b, off, rfl, k0, k1, k2, k3, k4, k5, k6⟩ := Rd.rul (hx.below hb) hlt
      obtain ⟨b2, off2, rfl, l0, l1, l2, l3, l4, l5, l6⟩ := Rd.rul (hx2.below hb) hlt
      have hkI : (k : Int) < (xs.length : Int) := by omega
      have hwk : IntKind.i64.wrap ((k : Int) + 1) = (k : Int) + 1 := by rw [IntKind.wrap_i64]; omega
      generalize xs[k] = t at *
      have g0 := cell_after k0
      have h0 := cell_after l0
      have g1 := cell_after k1
      have h1 := cell_after l1
      have g2 := cell_after k2
      have h2 := cell_after l2
      have g3 := cell_after k3
      have h3 := cell_after l3
      have g4 := cell_after k4
      have h4 := cell_after l4
      have g5 := cell_after k5
      have h5 := cell_after l5
      have g6 := cell_after k6
      have h6 := cell_after l6
      go_wp2_with fail
      refine wp_region_after (by kernel_rfl) (by kernel_rfl) ?_
      repeat (go_big_quiet_step (fail))
      refine wpQuiet_nil ?_
      intro nq
      go_wp2_with fail
      go_roundw
      case rel => exact ⟨k + 1, by omega, by go_num, btr hb nq.bel⟩
      case measure => simp [intOf]; omega
    · have hkI : ¬ (k : Int) < (xs.length : Int) := by omega
      go_wp2
      go_ret
      exact ⟨rfl, hb⟩
end Go.Proofs.YtfaphackdhdcaaaDoor
