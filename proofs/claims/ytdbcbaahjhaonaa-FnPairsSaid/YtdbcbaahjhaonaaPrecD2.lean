/-
  The draws of a kind, of a precedence and of the laws' inputs. Conditions: none.
-/
import Derived.Test.YtdbcbaahjhaonaaPrecD
namespace Go.My
open Go.RowKit
/-- A store into a result that lies ahead of the cursor. -/
theorem Cur.setres {w : World} {g N r n m c d : Nat} {t e : TypeId} {x y : Int} {A B : Option Addr} (h : Cur w g N t) (hr : r ≠ g) (hb : Blk w r e [.int .i64 x, .slice A n c]) :
    Cur ((w.setCell ⟨r, 0, none⟩ (.int .i64 y)).setCell ⟨r, 1, none⟩ (.slice B m d)) g N t := by
  obtain ⟨A1, len, cap, a, s, h1, h2, h3, h4, h5, h6⟩ := h
  refine ⟨A1, len, cap, a, s, (h1.oset (Ne.symm hr) 0 _).oset (Ne.symm hr) 1 _, h2, h3, h4, h5, ?_⟩
  rcases h6 with h | ⟨b, off, rfl, hbg, hc⟩
  · exact .inl h
  · refine .inr ⟨b, off, rfl, hbg, fun j hj => ?_⟩
    obtain ⟨v, h0, h1', hcell⟩ := hc j hj
    have hne : b ≠ r := by
      rintro rfl
      rw [cell_of_row w b (off + j) _ e (0, 0) hb] at hcell
      match off + j, hcell with
      | 0, hcell => simp at hcell
      | 1, hcell => simp at hcell
      | k + 2, hcell => simp at hcell
    refine ⟨v, h0, h1', ?_⟩
    rw [World.cell?_setCell_other _ _ _ _ (by intro e; first | exact hne (congrArg Addr.block e) | exact hne (congrArg Addr.block e).symm), World.cell?_setCell_other _ _ _ _ (by intro e; first | exact hne (congrArg Addr.block e) | exact hne (congrArg Addr.block e).symm)]
    exact hcell
end Go.My
namespace Go.Proofs.Ytdbcbaahjhaonaa
open Go.RowKit Go.My
set_option maxHeartbeats 4000000 in
theorem kindOf_any (g N : Nat) (K : Int) (A : Option Addr) (n c : Nat) (w : World) (h : Cur w g N 80) (hN : N ≤ 500000000000) :
    Calls Try.prog 82 #[.pointer (some ⟨g, 0, none⟩), .agg #[.int .i64 K, .slice A n c]] w fun e w' => ∃ v : Int, e = .returned (.int .i64 v) ∧ Cur w' g (N + 4) 80 ∧ w.grownBy w' (some g) := by
  have hlt := h.lt
  have hbw := bnew (Below.refl w.heap.size w) (.cells #[.int .i64 K, .slice A n c] 27)
  have BB : Blk (w.alloc (.cells #[.int .i64 K, .slice A n c] 27)) w.heap.size 27 [.int .i64 K, .slice A n c] := blk_made #[.int .i64 K, .slice A n c] rfl
  have hc := h.below hbw
  have hg : w.grownBy (w.alloc (.cells #[.int .i64 K, .slice A n c] 27)) (some g) := grown_wide (grown_alloc w (.cells #[.int .i64 K, .slice A n c] 27))
  clear hbw h
  go_enter Try.func82, Try.ntmps82
  go_wp2_with fail
  generalize w.alloc (.cells #[.int .i64 K, .slice A n c] 27) = W at *
  generalize w.heap.size = b at *
  refine (one_any g N 12 W hc (by omega)).mono ?_
  rintro e w9 ⟨q, rfl, hc9, hg9⟩
  replace BB := BB.grown hg9 (by simp; omega)
  replace hg := grown_trans hg hg9
  clear hc hg9
  have k0 := blk_cell BB (j := 0) rfl
  cases q with
  | true =>
    have hbA := bnew (Below.refl w9.heap.size w9) (.cells #[.int .i64 (-1), .int .i64 8, .int .i64 K] 3)
    have hcW := hc9.lt
    go_wp2_with fail
    refine (among_any g _ _ 3 3 _ (fun _ => true) _ (hc9.below hbA) (by omega) rfl (by decide) (by decide) Rd.made rfl (fun ad e => by cases e; simp; omega)).mono ?_
    rintro e w8 ⟨a, rfl, -, hc8, hg8⟩
    go_wp2
    go_ret
    exact ⟨a, rfl, hc8.more (by omega), grown_trans (grown_below hg hbA) hg8⟩
  | false =>
    go_wp2_with (go_at_call 73; refine (l1Most_any 1 K _).mono ?_; rintro e w8 ⟨rfl, rfl⟩)
    refine (pick_any g _ _ _ hc9 (by omega)).mono ?_
    rintro e w8 ⟨a, rfl, ha, hc8, hg8⟩
    go_wp2
    go_ret
    exact ⟨a, rfl, hc8.more (by omega), grown_trans hg hg8⟩
set_option maxHeartbeats 4000000 in
theorem drawPrec_any (A : Option Addr) (n c : Nat) (w : World) (hn : n ≤ maxLen) (hx : RdCode w A n) :
    Calls Try.prog 80 #[.slice A n c] w fun e w' => ∃ A' c', ∃ p : Prec, e = .returned (.agg #[.int .i64 p.kinds, .slice A' p.over.length c']) ∧ p.over.length ≤ 60 ∧ w'.ownsRow w.heap.size 52 2 (.slice A' p.over.length c') p.over.length (prCells p.over) ∧ Below w.heap.size w w' := by
  have hbz := bnew (Below.refl w.heap.size w) (.cells #[.int .i64 0, .slice none 0 0] 27)
  have hc0 := cur_start (w := (w.alloc (.cells #[.int .i64 0, .slice none 0 0] 27))) (cap := c) (t := 80) (hx.below hbz) hn
  have hb0 : Below w.heap.size w ((w.alloc (.cells #[.int .i64 0, .slice none 0 0] 27)).alloc (.cells #[.slice A n c, .int .i64 0, .int .u64 0] 80)) := bnew hbz _
  have RB0 : Blk (w.alloc (.cells #[.int .i64 0, .slice none 0 0] 27)) w.heap.size 27 [.int .i64 0, .slice none 0 0] := blk_made #[.int .i64 0, .slice none 0 0] rfl
  have RB := RB0.below (bnew (Below.refl _ _) (.cells #[.slice A n c, .int .i64 0, .int .u64 0] 80))
  have hgw : (w.alloc (.cells #[.int .i64 0, .slice none 0 0] 27)).heap.size = w.heap.size + 1 := by simp
  have hW0 : ((w.alloc (.cells #[.int .i64 0, .slice none 0 0] 27)).alloc (.cells #[.slice A n c, .int .i64 0, .int .u64 0] 80)).heap.size = w.heap.size + 2 := by simp
  clear RB0
  go_enter Try.func80, Try.ntmps80
  go_wp2_with fail
  rw [hgw] at hc0
  generalize (w.alloc (.cells #[.int .i64 0, .slice none 0 0] 27)).alloc (.cells #[.slice A n c, .int .i64 0, .int .u64 0] 80) = W0 at *
  refine (precedence_any _ 0 W0 hc0 (by omega)).mono ?_
  rintro e w1 ⟨A', c', p, rfl, hl, ho, hc1, hg1⟩
  have hb1 := cur_below hb0 hg1 (Nat.le_succ _) (Nat.le_refl _)
  replace RB := RB.grown hg1 (by simp)
  rw [hW0] at ho
  have g0 := blk_cell RB (j := 0) rfl
  have z0 := blk_frozen RB 0
  have g1 := blk_cell RB (j := 1) rfl
  have z1 := blk_frozen RB 1
  have hnr : some w.heap.size ≠ (Value.slice A' p.over.length c').ownBlock := own_ne ho (by omega)
  go_wp2
  exact bodyPost_ret (v := .agg #[.int .i64 p.kinds, .slice A' p.over.length c']) (by simp [results, Try.results80, go_sem, g0, g1]) rfl ⟨A', c', p, rfl, hl, own_base (own_setN (own_setN ho hnr 0 (.int .i64 p.kinds)) hnr 1 (.slice A' p.over.length c')) (by omega), ((hb1).setCell (Nat.le_refl _) _).setCell (Nat.le_refl _) _⟩
set_option maxHeartbeats 4000000 in
theorem drawCycle_any (A : Option Addr) (n c : Nat) (w : World) (hn : n ≤ maxLen) (hx : RdCode w A n) :
    Calls Try.prog 44 #[.slice A n c] w fun e w' => ∃ A' c', ∃ p : Prec, e = .returned (.agg #[.int .i64 p.kinds, .slice A' p.over.length c']) ∧ p.over.length ≤ 60 ∧ w'.ownsRow w.heap.size 52 2 (.slice A' p.over.length c') p.over.length (prCells p.over) ∧ Below w.heap.size w w' := by
  have hbz := bnew (Below.refl w.heap.size w) (.cells #[.int .i64 0, .slice none 0 0] 27)
  have RB : Blk (w.alloc (.cells #[.int .i64 0, .slice none 0 0] 27)) w.heap.size 27 [.int .i64 0, .slice none 0 0] := blk_made #[.int .i64 0, .slice none 0 0] rfl
  have H := Lib.hid (drawPrec_any A n c (w.alloc (.cells #[.int .i64 0, .slice none 0 0] 27)) hn (hx.below hbz))
  have hgw : (w.alloc (.cells #[.int .i64 0, .slice none 0 0] 27)).heap.size = w.heap.size + 1 := by simp
  go_enter Try.func44, Try.ntmps44
  go_wp2_with fail
  refine H.out.mono ?_
  rintro e w1 ⟨A', c', p, rfl, hl, ho, hb01⟩
  have hb1 := btr hbz hb01
  replace RB := RB.below hb01
  rw [hgw] at ho
  have g0 := blk_cell RB (j := 0) rfl
  have z0 := blk_frozen RB 0
  have g1 := blk_cell RB (j := 1) rfl
  have z1 := blk_frozen RB 1
  have hnr : some w.heap.size ≠ (Value.slice A' p.over.length c').ownBlock := own_ne ho (by omega)
  go_wp2
  exact bodyPost_ret (v := .agg #[.int .i64 p.kinds, .slice A' p.over.length c']) (by simp [results, Try.results44, go_sem, g0, g1]) rfl ⟨A', c', p, rfl, hl, own_base (own_setN (own_setN ho hnr 0 (.int .i64 p.kinds)) hnr 1 (.slice A' p.over.length c')) (by omega), ((hb1).setCell (Nat.le_refl _) _).setCell (Nat.le_refl _) _⟩
set_option maxHeartbeats 4000000 in
theorem drawNeed_any (A : Option Addr) (n c : Nat) (w : World) (hn : n ≤ maxLen) (hx : RdCode w A n) :
    Calls Try.prog 47 #[.slice A n c] w fun e w' => ∃ A' c', ∃ p : Prec, e = .returned (.agg #[.int .i64 p.kinds, .slice A' p.over.length c']) ∧ p.over.length ≤ 60 ∧ w'.ownsRow w.heap.size 52 2 (.slice A' p.over.length c') p.over.length (prCells p.over) ∧ Below w.heap.size w w' := by
  have hbz := bnew (Below.refl w.heap.size w) (.cells #[.int .i64 0, .slice none 0 0] 27)
  have RB : Blk (w.alloc (.cells #[.int .i64 0, .slice none 0 0] 27)) w.heap.size 27 [.int .i64 0, .slice none 0 0] := blk_made #[.int .i64 0, .slice none 0 0] rfl
  have H := Lib.hid (drawPrec_any A n c (w.alloc (.cells #[.int .i64 0, .slice none 0 0] 27)) hn (hx.below hbz))
  have hgw : (w.alloc (.cells #[.int .i64 0, .slice none 0 0] 27)).heap.size = w.heap.size + 1 := by simp
  go_enter Try.func47, Try.ntmps47
  go_wp2_with fail
  refine H.out.mono ?_
  rintro e w1 ⟨A', c', p, rfl, hl, ho, hb01⟩
  have hb1 := btr hbz hb01
  replace RB := RB.below hb01
  rw [hgw] at ho
  have g0 := blk_cell RB (j := 0) rfl
  have z0 := blk_frozen RB 0
  have g1 := blk_cell RB (j := 1) rfl
  have z1 := blk_frozen RB 1
  have hnr : some w.heap.size ≠ (Value.slice A' p.over.length c').ownBlock := own_ne ho (by omega)
  go_wp2
  exact bodyPost_ret (v := .agg #[.int .i64 p.kinds, .slice A' p.over.length c']) (by simp [results, Try.results47, go_sem, g0, g1]) rfl ⟨A', c', p, rfl, hl, own_base (own_setN (own_setN ho hnr 0 (.int .i64 p.kinds)) hnr 1 (.slice A' p.over.length c')) (by omega), ((hb1).setCell (Nat.le_refl _) _).setCell (Nat.le_refl _) _⟩
set_option maxHeartbeats 16000000 in
theorem drawYields_any (A : Option Addr) (n c : Nat) (w : World) (hn : n ≤ maxLen) (hx : RdCode w A n) :
    Calls Try.prog 83 #[.slice A n c] w fun e w' => ∃ A' c', ∃ p : Prec, ∃ v1 : Int, e = .returned (.tuple #[.agg #[.int .i64 p.kinds, .slice A' p.over.length c'], .int .i64 v1]) ∧ p.over.length ≤ 60 ∧ w'.ownsRow w.heap.size 52 2 (.slice A' p.over.length c') p.over.length (prCells p.over) ∧ Below w.heap.size w w' := by
  have hbz := bnew (Below.refl w.heap.size w) (.cells #[.int .i64 0, .slice none 0 0] 27)
  have hc0 := cur_start (w := (w.alloc (.cells #[.int .i64 0, .slice none 0 0] 27))) (cap := c) (t := 80) (hx.below hbz) hn
  have hb0 : Below w.heap.size w ((w.alloc (.cells #[.int .i64 0, .slice none 0 0] 27)).alloc (.cells #[.slice A n c, .int .i64 0, .int .u64 0] 80)) := bnew hbz _
  have RB0 : Blk (w.alloc (.cells #[.int .i64 0, .slice none 0 0] 27)) w.heap.size 27 [.int .i64 0, .slice none 0 0] := blk_made #[.int .i64 0, .slice none 0 0] rfl
  have RB := RB0.below (bnew (Below.refl _ _) (.cells #[.slice A n c, .int .i64 0, .int .u64 0] 80))
  have hgw : (w.alloc (.cells #[.int .i64 0, .slice none 0 0] 27)).heap.size = w.heap.size + 1 := by simp
  have hW0 : ((w.alloc (.cells #[.int .i64 0, .slice none 0 0] 27)).alloc (.cells #[.slice A n c, .int .i64 0, .int .u64 0] 80)).heap.size = w.heap.size + 2 := by simp
  clear RB0
  go_enter Try.func83, Try.ntmps83
  go_wp2_with fail
  rw [hgw] at hc0
  generalize (w.alloc (.cells #[.int .i64 0, .slice none 0 0] 27)).alloc (.cells #[.slice A n c, .int .i64 0, .int .u64 0] 80) = W0 at *
  refine (precedence_any _ 0 W0 hc0 (by omega)).mono ?_
  rintro e w1 ⟨A', c', p, rfl, hl, ho, hc1, hg1⟩
  have hb1 := cur_below hb0 hg1 (Nat.le_succ _) (Nat.le_refl _)
  replace RB := RB.grown hg1 (by simp)
  rw [hW0] at ho
  have hbP := bnew (Below.refl w1.heap.size w1) (.cells #[.int .i64 p.kinds, .slice A' p.over.length c'] 27)
  have BB0 : Blk (w1.alloc (.cells #[.int .i64 p.kinds, .slice A' p.over.length c'] 27)) w1.heap.size 27 [.int .i64 p.kinds, .slice A' p.over.length c'] := blk_made #[.int .i64 p.kinds, .slice A' p.over.length c'] rfl
  have hs1 := hg1.size
  have hc2 := hc1.below hbP
  have hb2 := btr hb1 hbP
  replace RB := RB.below hbP
  replace ho := own_below ho hbP
  go_wp2_with fail
  generalize w1.alloc (.cells #[.int .i64 p.kinds, .slice A' p.over.length c'] 27) = W at *
  have hrb : w.heap.size ≠ w1.heap.size := by omega
  have hgb : w.heap.size + 1 < w1.heap.size := by omega
  generalize w1.heap.size = b at *
  clear hs1 hbP hb1 hc1 hg1 hW0 hb0 hbz hgw hc0 hx
  have hnr : some w.heap.size ≠ (Value.slice A' p.over.length c').ownBlock := own_ne ho (by omega)
  have hng : some (w.heap.size + 1) ≠ (Value.slice A' p.over.length c').ownBlock := own_ne ho (by omega)
  have hog : (Value.slice A' p.over.length c').ownBlock = none ∨ (Value.slice A' p.over.length c').ownBlock ≠ some (w.heap.size + 1) := .inr (Ne.symm hng)
  have hrg : some w.heap.size ≠ some (w.heap.size + 1) := by simp
  have hrg2 : w.heap.size ≠ w.heap.size + 1 := by omega
  have hbg : some b ≠ some (w.heap.size + 1) := by simp; omega
  have hw2 : w.heap.size ≤ w.heap.size + 2 := by omega
  have hbd := (Below.refl W.heap.size W).drew
  have RBd := RB.below hbd
  have BBd := BB0.below hbd
  have hcd := hc2.below hbd
  have hod := own_below ho hbd
  have hbd2 := btr hb2 hbd
  have hsd := (Below.refl ((W.setCell ⟨w.heap.size, 0, none⟩ (.int .i64 p.kinds)).setCell ⟨w.heap.size, 1, none⟩ (.slice A' p.over.length c')).heap.size ((W.setCell ⟨w.heap.size, 0, none⟩ (.int .i64 p.kinds)).setCell ⟨w.heap.size, 1, none⟩ (.slice A' p.over.length c'))).drew
  have RBs : Blk ((W.setCell ⟨w.heap.size, 0, none⟩ (.int .i64 p.kinds)).setCell ⟨w.heap.size, 1, none⟩ (.slice A' p.over.length c')).drew w.heap.size 27 [.int .i64 p.kinds, .slice A' p.over.length c'] := Blk.below (Blk.setj (Blk.setj RB 0 (.int .i64 p.kinds)) 1 (.slice A' p.over.length c')) hsd
  have BBs : Blk ((W.setCell ⟨w.heap.size, 0, none⟩ (.int .i64 p.kinds)).setCell ⟨w.heap.size, 1, none⟩ (.slice A' p.over.length c')).drew b 27 [.int .i64 p.kinds, .slice A' p.over.length c'] := Blk.below ((BB0.oset (g := b) (h := w.heap.size) (Ne.symm hrb) 0 (.int .i64 p.kinds)).oset (g := b) (h := w.heap.size) (Ne.symm hrb) 1 (.slice A' p.over.length c')) hsd
  have hcs := (Cur.setres (y := p.kinds) (B := A') (m := p.over.length) (d := c') hc2 hrg2 RB).below hsd
  have hos := own_below (own_setN (own_setN ho hnr 0 (.int .i64 p.kinds)) hnr 1 (.slice A' p.over.length c')) hsd
  have hbs2 := btr ((hb2.setCell (p := ⟨w.heap.size, 0, none⟩) (Nat.le_refl _) (.int .i64 p.kinds)).setCell (p := ⟨w.heap.size, 1, none⟩) (Nat.le_refl _) (.slice A' p.over.length c')) hsd
  have k0 := blk_cell BBd (j := 0) rfl
  have k1 := blk_cell BBd (j := 1) rfl
  have ks0 := blk_cell BBs (j := 0) rfl
  have ks1 := blk_cell BBs (j := 1) rfl
  have q0 := blk_cell RBd (j := 0) rfl
  have q1 := blk_cell RBd (j := 1) rfl
  have zq0 := blk_frozen RBd 0
  have zq1 := blk_frozen RBd 1
  go_wp2_with fail
  go_region_with (first | (go_at_call 82; refine (kindOf_any (w.heap.size + 1) _ p.kinds A' p.over.length c' W.drew hcd (by omega)).mono ?_; rintro e w8 ⟨v1, rfl, hc8, hg8⟩; have RB8 := RBd.grown hg8 hrg; have BB8 := BBd.grown hg8 hbg; have ho8 := World.ownsRow.kept hod hg8 hog; have hb8 := cur_below hbd2 hg8 (Nat.le_succ _) (Nat.le_refl _); have g0 := blk_cell RB8 (j := 0) rfl; have g1 := blk_cell RB8 (j := 1) rfl; have z0 := blk_frozen RB8 0; have z1 := blk_frozen RB8 1; have k0 := blk_cell BB8 (j := 0) rfl; have k1 := blk_cell BB8 (j := 1) rfl) | (go_at_call 82; refine (kindOf_any (w.heap.size + 1) _ p.kinds A' p.over.length c' ((W.setCell ⟨w.heap.size, 0, none⟩ (.int .i64 p.kinds)).setCell ⟨w.heap.size, 1, none⟩ (.slice A' p.over.length c')).drew hcs (by omega)).mono ?_; rintro e w8 ⟨v1, rfl, hc8, hg8⟩; have RB8 := RBs.grown hg8 hrg; have BB8 := BBs.grown hg8 hbg; have ho8 := World.ownsRow.kept hos hg8 hog; have hb8 := cur_below hbs2 hg8 (Nat.le_succ _) (Nat.le_refl _); have g0 := blk_cell RB8 (j := 0) rfl; have g1 := blk_cell RB8 (j := 1) rfl; have z0 := blk_frozen RB8 0; have z1 := blk_frozen RB8 1; have k0 := blk_cell BB8 (j := 0) rfl; have k1 := blk_cell BB8 (j := 1) rfl))
  all_goals go_wp2
  all_goals first
    | exact bodyPost_ret (v := .tuple #[.agg #[.int .i64 p.kinds, .slice A' p.over.length c'], .int .i64 v1]) (by simp [results, Try.results83, go_sem, g0, g1]) rfl ⟨A', c', p, v1, rfl, hl, own_base (own_setN (own_setN ho8 hnr 0 (.int .i64 p.kinds)) hnr 1 (.slice A' p.over.length c')) hw2, (hb8.setCell (Nat.le_refl _) _).setCell (Nat.le_refl _) _⟩
    | exact bodyPost_ret (v := .tuple #[.agg #[.int .i64 p.kinds, .slice A' p.over.length c'], .int .i64 v1]) (by simp [results, Try.results83, go_sem, g0, g1]) rfl ⟨A', c', p, v1, rfl, hl, own_base ho8 hw2, hb8⟩
set_option maxHeartbeats 16000000 in
theorem drawAdd_any (A : Option Addr) (n c : Nat) (w : World) (hn : n ≤ maxLen) (hx : RdCode w A n) :
    Calls Try.prog 49 #[.slice A n c] w fun e w' => ∃ A' c', ∃ p : Prec, ∃ v1 v2 : Int, e = .returned (.tuple #[.agg #[.int .i64 p.kinds, .slice A' p.over.length c'], .int .i64 v1, .int .i64 v2]) ∧ p.over.length ≤ 60 ∧ w'.ownsRow w.heap.size 52 2 (.slice A' p.over.length c') p.over.length (prCells p.over) ∧ Below w.heap.size w w' := by
  have hbz := bnew (Below.refl w.heap.size w) (.cells #[.int .i64 0, .slice none 0 0] 27)
  have hc0 := cur_start (w := (w.alloc (.cells #[.int .i64 0, .slice none 0 0] 27))) (cap := c) (t := 80) (hx.below hbz) hn
  have hb0 : Below w.heap.size w ((w.alloc (.cells #[.int .i64 0, .slice none 0 0] 27)).alloc (.cells #[.slice A n c, .int .i64 0, .int .u64 0] 80)) := bnew hbz _
  have RB0 : Blk (w.alloc (.cells #[.int .i64 0, .slice none 0 0] 27)) w.heap.size 27 [.int .i64 0, .slice none 0 0] := blk_made #[.int .i64 0, .slice none 0 0] rfl
  have RB := RB0.below (bnew (Below.refl _ _) (.cells #[.slice A n c, .int .i64 0, .int .u64 0] 80))
  have hgw : (w.alloc (.cells #[.int .i64 0, .slice none 0 0] 27)).heap.size = w.heap.size + 1 := by simp
  have hW0 : ((w.alloc (.cells #[.int .i64 0, .slice none 0 0] 27)).alloc (.cells #[.slice A n c, .int .i64 0, .int .u64 0] 80)).heap.size = w.heap.size + 2 := by simp
  clear RB0
  go_enter Try.func49, Try.ntmps49
  go_wp2_with fail
  rw [hgw] at hc0
  generalize (w.alloc (.cells #[.int .i64 0, .slice none 0 0] 27)).alloc (.cells #[.slice A n c, .int .i64 0, .int .u64 0] 80) = W0 at *
  refine (precedence_any _ 0 W0 hc0 (by omega)).mono ?_
  rintro e w1 ⟨A', c', p, rfl, hl, ho, hc1, hg1⟩
  have hb1 := cur_below hb0 hg1 (Nat.le_succ _) (Nat.le_refl _)
  replace RB := RB.grown hg1 (by simp)
  rw [hW0] at ho
  have hbP := bnew (Below.refl w1.heap.size w1) (.cells #[.int .i64 p.kinds, .slice A' p.over.length c'] 27)
  have BB0 : Blk (w1.alloc (.cells #[.int .i64 p.kinds, .slice A' p.over.length c'] 27)) w1.heap.size 27 [.int .i64 p.kinds, .slice A' p.over.length c'] := blk_made #[.int .i64 p.kinds, .slice A' p.over.length c'] rfl
  have hs1 := hg1.size
  have hc2 := hc1.below hbP
  have hb2 := btr hb1 hbP
  replace RB := RB.below hbP
  replace ho := own_below ho hbP
  go_wp2_with fail
  generalize w1.alloc (.cells #[.int .i64 p.kinds, .slice A' p.over.length c'] 27) = W at *
  have hrb : w.heap.size ≠ w1.heap.size := by omega
  have hgb : w.heap.size + 1 < w1.heap.size := by omega
  generalize w1.heap.size = b at *
  clear hs1 hbP hb1 hc1 hg1 hW0 hb0 hbz hgw hc0 hx
  have hnr : some w.heap.size ≠ (Value.slice A' p.over.length c').ownBlock := own_ne ho (by omega)
  have hng : some (w.heap.size + 1) ≠ (Value.slice A' p.over.length c').ownBlock := own_ne ho (by omega)
  have hog : (Value.slice A' p.over.length c').ownBlock = none ∨ (Value.slice A' p.over.length c').ownBlock ≠ some (w.heap.size + 1) := .inr (Ne.symm hng)
  have hrg : some w.heap.size ≠ some (w.heap.size + 1) := by simp
  have hrg2 : w.heap.size ≠ w.heap.size + 1 := by omega
  have hbg : some b ≠ some (w.heap.size + 1) := by simp; omega
  have hw2 : w.heap.size ≤ w.heap.size + 2 := by omega
  have hbd := (Below.refl W.heap.size W).drew
  have RBd := RB.below hbd
  have BBd := BB0.below hbd
  have hcd := hc2.below hbd
  have hod := own_below ho hbd
  have hbd2 := btr hb2 hbd
  have hsd := (Below.refl ((W.setCell ⟨w.heap.size, 0, none⟩ (.int .i64 p.kinds)).setCell ⟨w.heap.size, 1, none⟩ (.slice A' p.over.length c')).heap.size ((W.setCell ⟨w.heap.size, 0, none⟩ (.int .i64 p.kinds)).setCell ⟨w.heap.size, 1, none⟩ (.slice A' p.over.length c'))).drew
  have RBs : Blk ((W.setCell ⟨w.heap.size, 0, none⟩ (.int .i64 p.kinds)).setCell ⟨w.heap.size, 1, none⟩ (.slice A' p.over.length c')).drew w.heap.size 27 [.int .i64 p.kinds, .slice A' p.over.length c'] := Blk.below (Blk.setj (Blk.setj RB 0 (.int .i64 p.kinds)) 1 (.slice A' p.over.length c')) hsd
  have BBs : Blk ((W.setCell ⟨w.heap.size, 0, none⟩ (.int .i64 p.kinds)).setCell ⟨w.heap.size, 1, none⟩ (.slice A' p.over.length c')).drew b 27 [.int .i64 p.kinds, .slice A' p.over.length c'] := Blk.below ((BB0.oset (g := b) (h := w.heap.size) (Ne.symm hrb) 0 (.int .i64 p.kinds)).oset (g := b) (h := w.heap.size) (Ne.symm hrb) 1 (.slice A' p.over.length c')) hsd
  have hcs := (Cur.setres (y := p.kinds) (B := A') (m := p.over.length) (d := c') hc2 hrg2 RB).below hsd
  have hos := own_below (own_setN (own_setN ho hnr 0 (.int .i64 p.kinds)) hnr 1 (.slice A' p.over.length c')) hsd
  have hbs2 := btr ((hb2.setCell (p := ⟨w.heap.size, 0, none⟩) (Nat.le_refl _) (.int .i64 p.kinds)).setCell (p := ⟨w.heap.size, 1, none⟩) (Nat.le_refl _) (.slice A' p.over.length c')) hsd
  have k0 := blk_cell BBd (j := 0) rfl
  have k1 := blk_cell BBd (j := 1) rfl
  have ks0 := blk_cell BBs (j := 0) rfl
  have ks1 := blk_cell BBs (j := 1) rfl
  have q0 := blk_cell RBd (j := 0) rfl
  have q1 := blk_cell RBd (j := 1) rfl
  have zq0 := blk_frozen RBd 0
  have zq1 := blk_frozen RBd 1
  go_wp2_with fail
  go_region_with (first | (go_at_call 82; refine (kindOf_any (w.heap.size + 1) _ p.kinds A' p.over.length c' W.drew hcd (by omega)).mono ?_; rintro e w8 ⟨v1, rfl, hc8, hg8⟩; have RB8 := RBd.grown hg8 hrg; have BB8 := BBd.grown hg8 hbg; have ho8 := World.ownsRow.kept hod hg8 hog; have hb8 := cur_below hbd2 hg8 (Nat.le_succ _) (Nat.le_refl _); have g0 := blk_cell RB8 (j := 0) rfl; have g1 := blk_cell RB8 (j := 1) rfl; have z0 := blk_frozen RB8 0; have z1 := blk_frozen RB8 1; have k0 := blk_cell BB8 (j := 0) rfl; have k1 := blk_cell BB8 (j := 1) rfl) | (go_at_call 82; refine (kindOf_any (w.heap.size + 1) _ p.kinds A' p.over.length c' ((W.setCell ⟨w.heap.size, 0, none⟩ (.int .i64 p.kinds)).setCell ⟨w.heap.size, 1, none⟩ (.slice A' p.over.length c')).drew hcs (by omega)).mono ?_; rintro e w8 ⟨v1, rfl, hc8, hg8⟩; have RB8 := RBs.grown hg8 hrg; have BB8 := BBs.grown hg8 hbg; have ho8 := World.ownsRow.kept hos hg8 hog; have hb8 := cur_below hbs2 hg8 (Nat.le_succ _) (Nat.le_refl _); have g0 := blk_cell RB8 (j := 0) rfl; have g1 := blk_cell RB8 (j := 1) rfl; have z0 := blk_frozen RB8 0; have z1 := blk_frozen RB8 1; have k0 := blk_cell BB8 (j := 0) rfl; have k1 := blk_cell BB8 (j := 1) rfl) | (go_at_call 82; refine (kindOf_any (w.heap.size + 1) _ p.kinds A' p.over.length c' w8 hc8 (by omega)).mono ?_; rintro e w9 ⟨v2, rfl, hc9, hg9⟩; have RB9 := RB8.grown hg9 hrg; have BB9 := BB8.grown hg9 hbg; have ho9 := World.ownsRow.kept ho8 hg9 hog; have hb9 := cur_below hb8 hg9 (Nat.le_succ _) (Nat.le_refl _); have g0 := blk_cell RB9 (j := 0) rfl; have g1 := blk_cell RB9 (j := 1) rfl; have z0 := blk_frozen RB9 0; have z1 := blk_frozen RB9 1; have k0 := blk_cell BB9 (j := 0) rfl; have k1 := blk_cell BB9 (j := 1) rfl) | (go_at_call 82; refine (kindOf_any (w.heap.size + 1) _ p.kinds A' p.over.length c' ((w8.setCell ⟨w.heap.size, 0, none⟩ (.int .i64 p.kinds)).setCell ⟨w.heap.size, 1, none⟩ (.slice A' p.over.length c')) (Cur.setres (y := p.kinds) (B := A') (m := p.over.length) (d := c') hc8 hrg2 RB8) (by omega)).mono ?_; rintro e w9 ⟨v2, rfl, hc9, hg9⟩; have RB9 := Blk.grown (Blk.setj (Blk.setj RB8 0 (.int .i64 p.kinds)) 1 (.slice A' p.over.length c')) hg9 hrg; have BB9 := Blk.grown ((BB8.oset (g := b) (h := w.heap.size) (Ne.symm hrb) 0 (.int .i64 p.kinds)).oset (g := b) (h := w.heap.size) (Ne.symm hrb) 1 (.slice A' p.over.length c')) hg9 hbg; have ho9 := World.ownsRow.kept (own_setN (own_setN ho8 hnr 0 (.int .i64 p.kinds)) hnr 1 (.slice A' p.over.length c')) hg9 hog; have hb9 := cur_below ((hb8.setCell (p := ⟨w.heap.size, 0, none⟩) (Nat.le_refl _) (.int .i64 p.kinds)).setCell (p := ⟨w.heap.size, 1, none⟩) (Nat.le_refl _) (.slice A' p.over.length c')) hg9 (Nat.le_succ _) (Nat.le_refl _); have g0 := blk_cell RB9 (j := 0) rfl; have g1 := blk_cell RB9 (j := 1) rfl; have z0 := blk_frozen RB9 0; have z1 := blk_frozen RB9 1; have k0 := blk_cell BB9 (j := 0) rfl; have k1 := blk_cell BB9 (j := 1) rfl))
  all_goals go_wp2
  all_goals first
    | exact bodyPost_ret (v := .tuple #[.agg #[.int .i64 p.kinds, .slice A' p.over.length c'], .int .i64 v1, .int .i64 v2]) (by simp [results, Try.results49, go_sem, g0, g1]) rfl ⟨A', c', p, v1, v2, rfl, hl, own_base (own_setN (own_setN ho9 hnr 0 (.int .i64 p.kinds)) hnr 1 (.slice A' p.over.length c')) hw2, (hb9.setCell (Nat.le_refl _) _).setCell (Nat.le_refl _) _⟩
    | exact bodyPost_ret (v := .tuple #[.agg #[.int .i64 p.kinds, .slice A' p.over.length c'], .int .i64 v1, .int .i64 v2]) (by simp [results, Try.results49, go_sem, g0, g1]) rfl ⟨A', c', p, v1, v2, rfl, hl, own_base ho9 hw2, hb9⟩
set_option maxHeartbeats 4000000 in
theorem drawBlocked_any (A : Option Addr) (n c : Nat) (w : World) (hn : n ≤ maxLen) (hx : RdCode w A n) :
    Calls Try.prog 50 #[.slice A n c] w fun e w' => ∃ A' c', ∃ p : Prec, ∃ v1 : Int, e = .returned (.tuple #[.agg #[.int .i64 p.kinds, .slice A' p.over.length c'], .int .i64 v1]) ∧ p.over.length ≤ 60 ∧ w'.ownsRow w.heap.size 52 2 (.slice A' p.over.length c') p.over.length (prCells p.over) ∧ Below w.heap.size w w' := by
  have hbz := bnew (Below.refl w.heap.size w) (.cells #[.int .i64 0, .slice none 0 0] 27)
  have RB : Blk (w.alloc (.cells #[.int .i64 0, .slice none 0 0] 27)) w.heap.size 27 [.int .i64 0, .slice none 0 0] := blk_made #[.int .i64 0, .slice none 0 0] rfl
  have H := Lib.hid (drawYields_any A n c (w.alloc (.cells #[.int .i64 0, .slice none 0 0] 27)) hn (hx.below hbz))
  have hgw : (w.alloc (.cells #[.int .i64 0, .slice none 0 0] 27)).heap.size = w.heap.size + 1 := by simp
  go_enter Try.func50, Try.ntmps50
  go_wp2_with fail
  refine H.out.mono ?_
  rintro e w1 ⟨A', c', p, v1, rfl, hl, ho, hb01⟩
  have hb1 := btr hbz hb01
  replace RB := RB.below hb01
  rw [hgw] at ho
  have g0 := blk_cell RB (j := 0) rfl
  have z0 := blk_frozen RB 0
  have g1 := blk_cell RB (j := 1) rfl
  have z1 := blk_frozen RB 1
  have hnr : some w.heap.size ≠ (Value.slice A' p.over.length c').ownBlock := own_ne ho (by omega)
  go_wp2
  exact bodyPost_ret (v := .tuple #[.agg #[.int .i64 p.kinds, .slice A' p.over.length c'], .int .i64 v1]) (by simp [results, Try.results50, go_sem, g0, g1]) rfl ⟨A', c', p, v1, rfl, hl, own_base (own_setN (own_setN ho hnr 0 (.int .i64 p.kinds)) hnr 1 (.slice A' p.over.length c')) (by omega), ((hb1).setCell (Nat.le_refl _) _).setCell (Nat.le_refl _) _⟩
end Go.Proofs.Ytdbcbaahjhaonaa
