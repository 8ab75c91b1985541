/-
  Draws of members. Conditions: the cursor has gone on less than 2^39 times.
-/
import Derived.Test.YtngheildmhimoaaGreatDoorCur
import Derived.Test.YtngheildmhimoaaGreatDoorMemb3
import Derived.Test.YtngheildmhimoaaGreatDoorMemb4
import Derived.Test.YtngheildmhimoaaGreatDoorIntS
import Derived.Test.YtngheildmhimoaaGreatDoorLaw
namespace Go.My
open Go.RowKit
theorem set3 {w : World} {g : Nat} {e : TypeId} {x y z : Value} (h : Blk w g e [x, y, z]) (v : Value) : Blk (w.setCell ⟨g, 2, none⟩ v) g e [x, y, v] := by
  unfold Blk at *; simpa using heap_setCell_same w g 2 _ e v h
theorem set1 {w : World} {g : Nat} {e : TypeId} {x y z : Value} (h : Blk w g e [x, y, z]) (v : Value) : Blk (w.setCell ⟨g, 0, none⟩ v) g e [v, y, z] := by
  unfold Blk at *; simpa using heap_setCell_same w g 0 _ e v h
theorem set123 {w : World} {g : Nat} {e : TypeId} {x y z u v t : Value} (h : Blk w g e [x, y, z]) : Blk (((w.setCell ⟨g, 0, none⟩ u).setCell ⟨g, 1, none⟩ v).setCell ⟨g, 2, none⟩ t) g e [u, v, t] := by
  unfold Blk at *
  have a := heap_setCell_same w g 0 _ e u h
  have b := heap_setCell_same _ g 1 _ e v a
  have c := heap_setCell_same _ g 2 _ e t b
  simpa using c
theorem Blk.oset {w : World} {g h : Nat} {e : TypeId} {L : List Value} (hb : Blk w g e L) (hne : g ≠ h) (j : Nat) (v : Value) : Blk (w.setCell ⟨h, j, none⟩ v) g e L := hb.grown (grown_set (World.grownBy.refl w (some h)) j v) (by simpa using hne)
theorem Cur.set {w : World} {g N : Nat} {t : TypeId} (h : Cur w g N t) {k : Nat} (hk : g < k) (j : Nat) (v : Value) : Cur (w.setCell ⟨k, j, none⟩ v) g N t := h.kept (grown_set (World.grownBy.refl w (some k)) j v) (fun q hq => by cases hq; exact hk)
theorem grown_set_new {w w' : World} {row : Option Nat} (h : w.grownBy w' row) {k : Nat} (hk : w.heap.size ≤ k) (j : Nat) (v : Value) : w.grownBy (w'.setCell ⟨k, j, none⟩ v) row :=
  grown_new h (grown_set (World.grownBy.refl w' (some k)) j v) hk
theorem own_top {w : World} {B : Nat} {e : TypeId} {size n : Nat} {v : Value} {xs : List Value} (ho : w.ownsRow B e size v n xs) : ∀ k, v.ownBlock = some k → k < w.heap.size := fun k hk => (ho.lt k hk).2
theorem own_kept2 {w w' : World} {B M : Nat} {e e2 : TypeId} {size n s2 n2 : Nat} {v v2 : Value} {xs ys : List Value} (ho : w.ownsRow B e size v n xs) (ht : ∀ k, v.ownBlock = some k → k < M) (hg : w.grownBy w' v2.ownBlock) (h2 : w.ownsRow M e2 s2 v2 n2 ys) : w'.ownsRow B e size v n xs := by
  refine ho.kept hg ?_
  cases hv : v.ownBlock with
  | none => exact .inl rfl
  | some k => exact .inr (fun e => by have := (h2.lt k e.symm).1; have := ht k hv; omega)
theorem grown_own {w w1 w2 : World} {row : Option Nat} {B : Nat} {e : TypeId} {size n : Nat} {v : Value} {xs : List Value} (h : w.grownBy w1 row) (ho : w1.ownsRow B e size v n xs) (h2 : w1.grownBy w2 v.ownBlock) (hB : w.heap.size ≤ B) : w.grownBy w2 row := by
  cases hv : v.ownBlock with
  | none => rw [hv] at h2; exact grown_trans h (grown_wide h2)
  | some k => rw [hv] at h2; exact grown_new h h2 (Nat.le_trans hB (ho.lt k hv).1)
theorem Cur.own {w w' : World} {g N B : Nat} {t e : TypeId} {size n : Nat} {v : Value} {xs : List Value} (h : Cur w g N t) (hg : w.grownBy w' v.ownBlock) (ho : w.ownsRow B e size v n xs) (hB : g < B) : Cur w' g N t := h.kept hg (fun k hk => by have := (ho.lt k hk).1; omega)
end Go.My
namespace Go.Proofs.YtngheildmhimoaaGreatDoor
open Go.RowKit Go.My
set_option maxHeartbeats 8000000 in
theorem memberOf_any (g N : Nat) (num : Int) (w : World) (h : Cur w g N 47) (hN : N ≤ 500000000000) :
    Calls Tryz.prog 57 #[.pointer (some ⟨g, 0, none⟩), .int .i64 num] w fun e w' => ∃ m : Mem, e = .returned (.agg #[.int .i64 m.num, .string m.name, .int .i64 m.off]) ∧ m.name.size ≤ 10 ∧ Cur w' g (N + 10) 47 ∧ w.grownBy w' (some g) := by
  have hlt := h.lt
  go_enter Tryz.func57, Tryz.ntmps57
  go_wp2_with fail
  have hbz := bnew (Below.refl w.heap.size w) (.cells #[.int .i64 0, .string ⟨#[]⟩, .int .i64 0] 54)
  refine (word_any g N _ (h.below hbz) (by omega)).mono ?_
  rintro e w1 ⟨s, rfl, hs, hc, hg1⟩
  have hg := grown_trans (grown_wide (row := some g) (grown_alloc w (.cells #[.int .i64 0, .string ⟨#[]⟩, .int .i64 0] 54))) hg1
  have RB : Blk w1 w.heap.size 54 [.int .i64 0, .string ⟨#[]⟩, .int .i64 0] := (blk_made #[.int .i64 0, .string ⟨#[]⟩, .int .i64 0] rfl).grown hg1 (by simp; omega)
  have hsz := hg.size
  have hlr := RB.lt
  clear hg1 h hbz
  go_wp2_with fail
  have BB : Blk (w1.alloc (.cells #[.int .i64 num, .string s, .int .i64 0] 54)) w1.heap.size 54 [.int .i64 num, .string s, .int .i64 0] := blk_made #[.int .i64 num, .string s, .int .i64 0] rfl
  have hbw := bnew (Below.refl w1.heap.size w1) (.cells #[.int .i64 num, .string s, .int .i64 0] 54)
  replace RB := RB.below hbw
  replace hc := hc.below hbw
  replace hg := grown_below hg hbw
  have hgb : g < w1.heap.size := by omega
  have hwb : w.heap.size ≤ w1.heap.size := by omega
  have hgr := hlt
  have hrb : w.heap.size < w1.heap.size := hlr
  clear hbw hsz hlr hlt
  generalize w1.alloc (.cells #[.int .i64 num, .string s, .int .i64 0] 54) = W at *
  generalize w1.heap.size = b at *
  generalize hr : w.heap.size = r at RB hgr hrb ⊢
  have hwr : w.heap.size ≤ r := by omega
  clear hr
  refine (one_any g _ 3 _ hc (by omega)).mono ?_
  rintro e w9 ⟨q, rfl, hc9, hg9⟩
  replace RB := RB.grown hg9 (by simp; omega)
  replace BB := BB.grown hg9 (by simp; omega)
  replace hg := grown_trans hg hg9
  replace hc := hc9
  clear hc9 hg9
  generalize w9 = W at *
  cases q with
  | false =>
    go_wp2_with fail
    refine (pick_any g _ 60 _ hc (by omega)).mono ?_
    rintro e w9 ⟨v, rfl, hv, hc9, hg9⟩
    replace RB := RB.grown hg9 (by simp; omega)
    replace BB := BB.grown hg9 (by simp; omega)
    replace hg := grown_trans hg hg9
    replace hc := hc9
    clear hc9 hg9
    generalize w9 = W at *
    by_cases hv0 : v = 0
    · subst hv0
      have hlt := hc.lt
      have hbA := bnew (Below.refl W.heap.size W) (.cells #[.int .i64 0, .int .i64 99, .int .i64 100] 3)
      go_wp2_with fail
      refine (among_any g _ _ 3 3 _ (fun _ => true) _ (hc.below hbA) (by omega) rfl (by decide) (by decide) Rd.made (by decide) (fun ad e => by cases e; simp; omega)).mono ?_
      rintro e w9 ⟨a, rfl, -, hc9, hg9⟩
      replace RB := (RB.below hbA).grown hg9 (by simp; omega)
      replace BB := (BB.below hbA).grown hg9 (by simp; omega)
      replace hg := grown_trans (grown_below hg hbA) hg9
      replace hc := hc9
      clear hc9 hg9 hbA hlt
      generalize w9 = W at *
      have zb := blk_frozen BB 0
      have kbj := blk_cell BB (j := 0) rfl
      have BB1 := set1 BB (.int .i64 a)
      have RB1 := RB.oset (g := r) (h := b) (by omega) 0 (.int .i64 a)
      have hc1 := hc.set (k := b) hgb 0 (.int .i64 a)
      have hg1 := grown_set_new hg hwb 0 (.int .i64 a)
      have kb0 := blk_cell BB1 (j := 0) rfl
      have kb1 := blk_cell BB1 (j := 1) rfl
      have kb2 := blk_cell BB1 (j := 2) rfl
      have z0 := blk_frozen RB1 0
      have z1 := blk_frozen RB1 1
      have z2 := blk_frozen RB1 2
      have r0 := blk_cell RB1 (j := 0) rfl
      have r1 := blk_cell RB1 (j := 1) rfl
      have r2 := blk_cell RB1 (j := 2) rfl
      go_wp2
      have RF := set123 (u := .int .i64 a) (v := .string s) (t := .int .i64 0) RB1
      have f0 := blk_cell RF (j := 0) rfl
      have f1 := blk_cell RF (j := 1) rfl
      have f2 := blk_cell RF (j := 2) rfl
      exact bodyPost_ret (v := .agg #[.int .i64 a, .string s, .int .i64 0]) (by simp [results, Tryz.results57, go_sem, f0, f1, f2]) rfl ⟨⟨a, s, 0⟩, rfl, hs, ((hc1.set hgr 0 _).set hgr 1 _).set hgr 2 _ |>.more (by omega), grown_set_new (grown_set_new (grown_set_new hg1 hwr 0 _) hwr 1 _) hwr 2 _⟩
    · have hv0' : (v == 0) = false := by simpa using hv0
      by_cases hv1 : v = 1
      · subst hv1
        have hlt := hc.lt
        have hbA := bnew (Below.refl W.heap.size W) (.cells #[.int .i64 (-1), .int .i64 4] 3)
        go_wp2_with fail
        refine (among_any g _ _ 2 2 _ (fun _ => true) _ (hc.below hbA) (by omega) rfl (by decide) (by decide) Rd.made (by decide) (fun ad e => by cases e; simp; omega)).mono ?_
        rintro e w9 ⟨a, rfl, -, hc9, hg9⟩
        replace RB := (RB.below hbA).grown hg9 (by simp; omega)
        replace BB := (BB.below hbA).grown hg9 (by simp; omega)
        replace hg := grown_trans (grown_below hg hbA) hg9
        replace hc := hc9
        clear hc9 hg9 hbA hlt
        generalize w9 = W at *
        have zb := blk_frozen BB 2
        have kbj := blk_cell BB (j := 2) rfl
        have BB1 := set3 BB (.int .i64 a)
        have RB1 := RB.oset (g := r) (h := b) (by omega) 2 (.int .i64 a)
        have hc1 := hc.set (k := b) hgb 2 (.int .i64 a)
        have hg1 := grown_set_new hg hwb 2 (.int .i64 a)
        have kb0 := blk_cell BB1 (j := 0) rfl
        have kb1 := blk_cell BB1 (j := 1) rfl
        have kb2 := blk_cell BB1 (j := 2) rfl
        have z0 := blk_frozen RB1 0
        have z1 := blk_frozen RB1 1
        have z2 := blk_frozen RB1 2
        have r0 := blk_cell RB1 (j := 0) rfl
        have r1 := blk_cell RB1 (j := 1) rfl
        have r2 := blk_cell RB1 (j := 2) rfl
        go_wp2
        have RF := set123 (u := .int .i64 num) (v := .string s) (t := .int .i64 a) RB1
        have f0 := blk_cell RF (j := 0) rfl
        have f1 := blk_cell RF (j := 1) rfl
        have f2 := blk_cell RF (j := 2) rfl
        exact bodyPost_ret (v := .agg #[.int .i64 num, .string s, .int .i64 a]) (by simp [results, Tryz.results57, go_sem, f0, f1, f2]) rfl ⟨⟨num, s, a⟩, rfl, hs, ((hc1.set hgr 0 _).set hgr 1 _).set hgr 2 _ |>.more (by omega), grown_set_new (grown_set_new (grown_set_new hg1 hwr 0 _) hwr 1 _) hwr 2 _⟩
      · have hv1' : (v == 1) = false := by simpa using hv1
        have kb0 := blk_cell BB (j := 0) rfl
        have kb1 := blk_cell BB (j := 1) rfl
        have kb2 := blk_cell BB (j := 2) rfl
        have z0 := blk_frozen RB 0
        have z1 := blk_frozen RB 1
        have z2 := blk_frozen RB 2
        have r0 := blk_cell RB (j := 0) rfl
        have r1 := blk_cell RB (j := 1) rfl
        have r2 := blk_cell RB (j := 2) rfl
        go_wp2
        have RF := set123 (u := .int .i64 num) (v := .string s) (t := .int .i64 0) RB
        have f0 := blk_cell RF (j := 0) rfl
        have f1 := blk_cell RF (j := 1) rfl
        have f2 := blk_cell RF (j := 2) rfl
        exact bodyPost_ret (v := .agg #[.int .i64 num, .string s, .int .i64 0]) (by simp [results, Tryz.results57, go_sem, f0, f1, f2]) rfl ⟨⟨num, s, 0⟩, rfl, hs, ((hc.set hgr 0 _).set hgr 1 _).set hgr 2 _ |>.more (by omega), grown_set_new (grown_set_new (grown_set_new hg hwr 0 _) hwr 1 _) hwr 2 _⟩
  | true =>
    go_wp2_with fail
    refine (pick_any g _ 3 _ hc (by omega)).mono ?_
    rintro e w9 ⟨v, rfl, hv, hc9, hg9⟩
    replace RB := RB.grown hg9 (by simp; omega)
    replace BB := BB.grown hg9 (by simp; omega)
    replace hg := grown_trans hg hg9
    replace hc := hc9
    clear hc9 hg9
    generalize w9 = W at *
    have hw1 : IntKind.i64.wrap (1 + v) = 1 + v := by rw [IntKind.wrap_i64]; omega
    have zb := blk_frozen BB 2
    have kbj := blk_cell BB (j := 2) rfl
    go_wp2_with fail
    replace BB := set3 BB (.int .i64 (1 + v))
    replace RB := RB.oset (g := r) (h := b) (by omega) 2 (.int .i64 (1 + v))
    replace hc := hc.set (k := b) hgb 2 (.int .i64 (1 + v))
    replace hg := grown_set_new hg hwb 2 (.int .i64 (1 + v))
    generalize W.setCell ⟨b, 2, none⟩ (.int .i64 (1 + v)) = W9 at *
    clear zb kbj
    generalize W9 = W at *
    generalize (1 + v) = z at *
    clear hv
    refine (pick_any g _ 60 _ hc (by omega)).mono ?_
    rintro e w9 ⟨v, rfl, hv, hc9, hg9⟩
    replace RB := RB.grown hg9 (by simp; omega)
    replace BB := BB.grown hg9 (by simp; omega)
    replace hg := grown_trans hg hg9
    replace hc := hc9
    clear hc9 hg9
    generalize w9 = W at *
    by_cases hv0 : v = 0
    · subst hv0
      have hlt := hc.lt
      have hbA := bnew (Below.refl W.heap.size W) (.cells #[.int .i64 0, .int .i64 99, .int .i64 100] 3)
      go_wp2_with fail
      refine (among_any g _ _ 3 3 _ (fun _ => true) _ (hc.below hbA) (by omega) rfl (by decide) (by decide) Rd.made (by decide) (fun ad e => by cases e; simp; omega)).mono ?_
      rintro e w9 ⟨a, rfl, -, hc9, hg9⟩
      replace RB := (RB.below hbA).grown hg9 (by simp; omega)
      replace BB := (BB.below hbA).grown hg9 (by simp; omega)
      replace hg := grown_trans (grown_below hg hbA) hg9
      replace hc := hc9
      clear hc9 hg9 hbA hlt
      generalize w9 = W at *
      have zb := blk_frozen BB 0
      have kbj := blk_cell BB (j := 0) rfl
      have BB1 := set1 BB (.int .i64 a)
      have RB1 := RB.oset (g := r) (h := b) (by omega) 0 (.int .i64 a)
      have hc1 := hc.set (k := b) hgb 0 (.int .i64 a)
      have hg1 := grown_set_new hg hwb 0 (.int .i64 a)
      have kb0 := blk_cell BB1 (j := 0) rfl
      have kb1 := blk_cell BB1 (j := 1) rfl
      have kb2 := blk_cell BB1 (j := 2) rfl
      have z0 := blk_frozen RB1 0
      have z1 := blk_frozen RB1 1
      have z2 := blk_frozen RB1 2
      have r0 := blk_cell RB1 (j := 0) rfl
      have r1 := blk_cell RB1 (j := 1) rfl
      have r2 := blk_cell RB1 (j := 2) rfl
      go_wp2
      have RF := set123 (u := .int .i64 a) (v := .string s) (t := .int .i64 z) RB1
      have f0 := blk_cell RF (j := 0) rfl
      have f1 := blk_cell RF (j := 1) rfl
      have f2 := blk_cell RF (j := 2) rfl
      exact bodyPost_ret (v := .agg #[.int .i64 a, .string s, .int .i64 z]) (by simp [results, Tryz.results57, go_sem, f0, f1, f2]) rfl ⟨⟨a, s, z⟩, rfl, hs, ((hc1.set hgr 0 _).set hgr 1 _).set hgr 2 _ |>.more (by omega), grown_set_new (grown_set_new (grown_set_new hg1 hwr 0 _) hwr 1 _) hwr 2 _⟩
    · have hv0' : (v == 0) = false := by simpa using hv0
      by_cases hv1 : v = 1
      · subst hv1
        have hlt := hc.lt
        have hbA := bnew (Below.refl W.heap.size W) (.cells #[.int .i64 (-1), .int .i64 4] 3)
        go_wp2_with fail
        refine (among_any g _ _ 2 2 _ (fun _ => true) _ (hc.below hbA) (by omega) rfl (by decide) (by decide) Rd.made (by decide) (fun ad e => by cases e; simp; omega)).mono ?_
        rintro e w9 ⟨a, rfl, -, hc9, hg9⟩
        replace RB := (RB.below hbA).grown hg9 (by simp; omega)
        replace BB := (BB.below hbA).grown hg9 (by simp; omega)
        replace hg := grown_trans (grown_below hg hbA) hg9
        replace hc := hc9
        clear hc9 hg9 hbA hlt
        generalize w9 = W at *
        have zb := blk_frozen BB 2
        have kbj := blk_cell BB (j := 2) rfl
        have BB1 := set3 BB (.int .i64 a)
        have RB1 := RB.oset (g := r) (h := b) (by omega) 2 (.int .i64 a)
        have hc1 := hc.set (k := b) hgb 2 (.int .i64 a)
        have hg1 := grown_set_new hg hwb 2 (.int .i64 a)
        have kb0 := blk_cell BB1 (j := 0) rfl
        have kb1 := blk_cell BB1 (j := 1) rfl
        have kb2 := blk_cell BB1 (j := 2) rfl
        have z0 := blk_frozen RB1 0
        have z1 := blk_frozen RB1 1
        have z2 := blk_frozen RB1 2
        have r0 := blk_cell RB1 (j := 0) rfl
        have r1 := blk_cell RB1 (j := 1) rfl
        have r2 := blk_cell RB1 (j := 2) rfl
        go_wp2
        have RF := set123 (u := .int .i64 num) (v := .string s) (t := .int .i64 a) RB1
        have f0 := blk_cell RF (j := 0) rfl
        have f1 := blk_cell RF (j := 1) rfl
        have f2 := blk_cell RF (j := 2) rfl
        exact bodyPost_ret (v := .agg #[.int .i64 num, .string s, .int .i64 a]) (by simp [results, Tryz.results57, go_sem, f0, f1, f2]) rfl ⟨⟨num, s, a⟩, rfl, hs, ((hc1.set hgr 0 _).set hgr 1 _).set hgr 2 _ |>.more (by omega), grown_set_new (grown_set_new (grown_set_new hg1 hwr 0 _) hwr 1 _) hwr 2 _⟩
      · have hv1' : (v == 1) = false := by simpa using hv1
        have kb0 := blk_cell BB (j := 0) rfl
        have kb1 := blk_cell BB (j := 1) rfl
        have kb2 := blk_cell BB (j := 2) rfl
        have z0 := blk_frozen RB 0
        have z1 := blk_frozen RB 1
        have z2 := blk_frozen RB 2
        have r0 := blk_cell RB (j := 0) rfl
        have r1 := blk_cell RB (j := 1) rfl
        have r2 := blk_cell RB (j := 2) rfl
        go_wp2
        have RF := set123 (u := .int .i64 num) (v := .string s) (t := .int .i64 z) RB
        have f0 := blk_cell RF (j := 0) rfl
        have f1 := blk_cell RF (j := 1) rfl
        have f2 := blk_cell RF (j := 2) rfl
        exact bodyPost_ret (v := .agg #[.int .i64 num, .string s, .int .i64 z]) (by simp [results, Tryz.results57, go_sem, f0, f1, f2]) rfl ⟨⟨num, s, z⟩, rfl, hs, ((hc.set hgr 0 _).set hgr 1 _).set hgr 2 _ |>.more (by omega), grown_set_new (grown_set_new (grown_set_new hg hwr 0 _) hwr 1 _) hwr 2 _⟩
theorem own_snoc {w : World} {B n : Nat} {A : Option Addr} {c : Nat} {L : List Mem} {m : Mem} (h : w.ownsRow B 54 3 (.slice A (n + 1) c) (n + 1) (memCells L ++ [.int .i64 m.num, .string m.name, .int .i64 m.off])) (hn : n = L.length := by rfl) : w.ownsRow B 54 3 (.slice A (L ++ [m]).length c) (L ++ [m]).length (memCells (L ++ [m])) := by
  subst hn
  have e : memCells [m] = [.int .i64 m.num, .string m.name, .int .i64 m.off] := rfl
  rw [memCells_append, e, List.length_append]; exact h
theorem names_snoc {L : List Mem} {m : Mem} {b : Nat} (h : ∀ s ∈ L, s.name.size ≤ b) (hm : m.name.size ≤ b) : ∀ s ∈ L ++ [m], s.name.size ≤ b := by
  intro s hs
  rcases List.mem_append.1 hs with hs | hs
  · exact h s hs
  · simp at hs; subst hs; exact hm
set_option maxHeartbeats 8000000 in
theorem members_any (g N : Nat) (w : World) (h : Cur w g N 47) (hN : N ≤ 400000000000) :
    Calls Tryz.prog 23 #[.pointer (some ⟨g, 0, none⟩)] w fun e w' => ∃ A' c', ∃ xs : List Mem, e = .returned (.slice A' xs.length c') ∧ xs.length ≤ 13 ∧ (∀ s ∈ xs, s.name.size ≤ 10) ∧ w'.ownsRow w.heap.size 54 3 (.slice A' xs.length c') xs.length (memCells xs) ∧ Cur w' g (N + 400) 47 ∧ w.grownBy w' (some g) := by
  have hlt := h.lt
  go_enter Tryz.func23, Tryz.ntmps23
  go_wp2_with fail
  have hbE := bnew (Below.refl w.heap.size w) (.cells #[] 54)
  have ho := own_lit (e := 54) (size := 3) (B := w.heap.size) (w := w) #[] 0 (Nat.le_refl _) (by unfold maxLen; omega) rfl
  have hc := h.below hbE
  have hg := grown_wide (row := some g) (grown_of_below hbE)
  have hsW : w.heap.size + 1 = (w.alloc (.cells #[] 54)).heap.size := by simp
  clear hbE h
  generalize w.alloc (.cells #[] 54) = W at *
  rw [hsW]
  have hbA := bnew (Below.refl W.heap.size W) (.cells #[.int .i64 1, .int .i64 1, .int .i64 2, .int .i64 90] 3)
  refine (among_any g _ _ 4 4 _ (fun _ => true) _ (hc.below hbA) (by omega) rfl (by decide) (by decide) Rd.made (by decide) (fun ad e => by cases e; simp; have := hc.lt; omega)).mono ?_
  rintro e w9 ⟨nu, rfl, -, hc9, hg9⟩
  replace ho := World.ownsRow.kept (own_below ho hbA) hg9 (.inr (Ne.symm (own_ne ho hlt)))
  replace hg := grown_trans (grown_below hg hbA) hg9
  clear hbA
  replace hc := hc9
  clear hc9 hg9
  generalize w9 = W at *
  go_wp2_with fail
  refine (pick_any g _ 8 _ hc (by omega)).mono ?_
  rintro e w9 ⟨k, rfl, hk, hc9, hg9⟩
  replace ho := World.ownsRow.kept ho hg9 (.inr (Ne.symm (own_ne ho hlt)))
  replace hg := grown_trans hg hg9
  replace hc := hc9
  clear hc9 hg9
  generalize w9 = W at *
  go_wp2_with fail
  obtain ⟨k, rfl⟩ : ∃ m : Nat, k = m := ⟨k.toNat, by omega⟩
  obtain ⟨r, hr⟩ : ∃ r, r = w.heap.size := ⟨_, rfl⟩
  rw [← hr] at hlt ho ⊢
  have hrw : w.heap.size ≤ r := by omega
  have hrw2 : r ≤ w.heap.size := by omega
  clear hr
  have hk7 : k ≤ 7 := by have := hk.2.1 (by omega); omega
  go_loopw [3, 4, 5, 6] (fun l u q _ wr => ∃ (A' : Option Addr) (c' : Nat) (L : List Mem) (nu : Int) (k : Nat), l = .slice A' L.length c' ∧ q = .int .i64 k ∧ u = .int .i64 nu ∧ L.length + k ≤ 7 ∧ Hid (∀ s ∈ L, s.name.size ≤ 10) ∧ Cur wr g (N + 200 - 12 * k) 47 ∧ wr.ownsRow r 54 3 (.slice A' L.length c') L.length (memCells L) ∧ w.grownBy wr (some g)) (fun _ _ q _ _ => (intOf q).toNat)
  case atStart => exact ⟨_, _, [], nu, k, rfl, rfl, rfl, by simp; omega, (by intro s hs; simp at hs), hc.more (by omega), by simpa [memCells] using ho, hg⟩
  case round =>
    clear hc ho hg hk hk7
    obtain ⟨A', c', L, nu, k, rfl, rfl, rfl, hLk, HL, hc, ho, hg⟩ := hrel
    generalize wr = W at *
    have hhs : r ≤ W.heap.size := by have := hg.size; omega
    by_cases hk0 : 0 < k
    · have hkI : (0 : Int) < (k : Int) := by omega
      have hbE := bnew (Below.refl W.heap.size W) (.cells #[] 54)
      have hoE := own_lit (e := 54) (size := 3) (B := W.heap.size) (w := W) #[] 0 (Nat.le_refl _) (by unfold maxLen; omega) rfl
      have hxE : Rd (W.alloc (.cells #[] 54)) A' (memCells L) := own_rd (own_below ho hbE)
      go_wp2_with (at_builtin; go_must (refine wpl_app rfl (.tmp 18) (.tmp 19) 24 rfl el_Mem (v := .slice (some ⟨W.heap.size, 0, none⟩) 0 0) rfl hoE rfl (memCells_len L) hxE (memCells_one L) (by unfold maxLen; omega) (by omega) hbE.size ?_); intro A1 c1 w3 h3 hg3 _; have b03 : Below W.heap.size W w3 := hbE.grown hg3 hbE.size (fun k hk => by have := (hoE.lt k hk).1; omega); have hc3 := hc.below b03; have hg3' := grown_below hg b03; have ho3 := own_below ho b03; clear hoE hxE hbE; have hb34 := Below.refl w3.heap.size w3)
      simp only [Nat.zero_add, List.nil_append] at h3
      have ht := own_top ho
      refine (memberOf_any g _ nu w3 hc3 (by omega)).mono ?_
      rintro e w4 ⟨m, rfl, hm, hc4, hg4⟩
      have h4 := h3.kept hg4 (.inr (Ne.symm (own_ne h3 (by omega))))
      have ho4 := ho3.kept hg4 (.inr (Ne.symm (own_ne ho3 hlt)))
      have hg4' := grown_trans hg3' hg4
      have hsz4 : W.heap.size ≤ w4.heap.size := by have := b03.size; have := hg4.size; omega
      clear hc hg ho h3 ho3 hc3 hg3' hg4 b03 hg3
      have hbM := bnew (Below.refl w4.heap.size w4) (.cells #[.int .i64 m.num, .string m.name, .int .i64 m.off] 54)
      have hoM := own_below h4 hbM
      have hoO := own_below ho4 hbM
      have hcM := hc4.below hbM
      have hgM := grown_below hg4' hbM
      have hrd : Rd (w4.alloc (.cells #[.int .i64 m.num, .string m.name, .int .i64 m.off] 54)) (some ⟨w4.heap.size, 0, none⟩) [.int .i64 m.num, .string m.name, .int .i64 m.off] := Rd.made
      have hwW : w.heap.size ≤ W.heap.size := by omega
      go_wp2_with (at_builtin; go_must (refine wpl_app rfl (.tmp 20) (.tmp 24) 24 rfl el_Mem (v := .slice A1 L.length c1) rfl hoM rfl rfl hrd (by simp [Value.oneCell']) (by unfold maxLen; omega) (by omega) (Nat.le_trans hsz4 hbM.size) ?_; intro A2 c2 w5 h5 hg5 _; have hl2 : L.length + 1 = (L ++ [m]).length := (by simp); have h5' := own_snoc h5; have hl3 : (L ++ [m]).length ≤ L.length + 1 := Nat.le_of_eq hl2.symm; have HN : Hid (∀ s ∈ L ++ [m], s.name.size ≤ 10) := names_snoc HL.out hm; rw [hl2]; clear hl2 h5; have hc5 := hcM.own hg5 hoM (by omega); have ho5 := own_kept2 hoO ht hg5 hoM; have hg5' := grown_own hgM hoM hg5 hwW; clear hg5 hbM hrd hoM hoO hcM hgM; generalize L ++ [m] = LL at *))
      refine (l3Good_any A2 c2 LL w5 (by unfold maxLen; omega) (by obtain ⟨_, _, e, h⟩ := own_form h5'; cases e; exact h) (own_rd h5') (fun s hs => by have := HN.out s hs; unfold maxLen; omega)).mono ?_
      rintro e w6 ⟨rfl, hb6⟩
      have h6 := own_below h5' hb6
      have ho6 := own_below ho5 hb6
      have hc6 := hc5.below hb6
      have hg6 := grown_below hg5' hb6
      clear h5' ho5 hc5 hg5' hb6
      cases hgd : goodMem LL with
      | false =>
        go_wp2_with fail
        go_roundw
        case rel => exact ⟨A', c', L, nu, k - 1, rfl, by go_num, rfl, by omega, HL, hc6.more (by omega), ho6, hg6⟩
        case measure => simp [intOf]; omega
      | true =>
        go_wp2_with fail
        refine (pick_any g _ 3 _ hc6 (by omega)).mono ?_
        rintro e w7 ⟨v, rfl, hv, hc7, hg7⟩
        have h7 := h6.kept hg7 (.inr (Ne.symm (own_ne h6 (by omega))))
        go_wp2_with fail
        go_roundw
        case rel => exact ⟨A2, c2, LL, _, k - 1, rfl, by go_num, rfl, by omega, HN, hc7.more (by omega), own_base h7 (by omega), grown_trans hg6 hg7⟩
        case measure => simp [intOf]; omega
    · have hkI : ¬ (0 : Int) < (k : Int) := by omega
      go_wp2_with fail
      refine (pick_any g _ 24 _ hc (by omega)).mono ?_
      rintro e w9 ⟨v, rfl, hv, hc9, hg9⟩
      replace ho := World.ownsRow.kept ho hg9 (.inr (Ne.symm (own_ne ho hlt)))
      replace hg := grown_trans hg hg9
      replace hc := hc9
      clear hc9 hg9
      generalize w9 = W at *
      replace hhs : r ≤ W.heap.size := by have := hg.size; omega
      by_cases hv0 : v = 0
      · subst hv0
        go_wp2_with fail
        refine (pick_any g _ 4 _ hc (by omega)).mono ?_
        rintro e w9 ⟨y, rfl, hy, hc9, hg9⟩
        replace ho := World.ownsRow.kept ho hg9 (.inr (Ne.symm (own_ne ho hlt)))
        replace hg := grown_trans hg hg9
        replace hc := hc9
        clear hc9 hg9
        generalize w9 = W at *
        replace hhs : r ≤ W.heap.size := by have := hg.size; omega
        go_wp2_with fail
        refine (memberOf_any g _ _ W hc (by omega)).mono ?_
        rintro e w4 ⟨m, rfl, hm, hc4, hg4⟩
        have h4 := ho.kept hg4 (.inr (Ne.symm (own_ne ho hlt)))
        have hg4' := grown_trans hg hg4
        have hsz4 : r ≤ w4.heap.size := by have := hg4.size; omega
        clear hc hg ho hg4
        have hbM := bnew (Below.refl w4.heap.size w4) (.cells #[.int .i64 m.num, .string m.name, .int .i64 m.off] 54)
        have hoM := own_below h4 hbM
        have hcM := hc4.below hbM
        have hgM := grown_below hg4' hbM
        have hrd : Rd (w4.alloc (.cells #[.int .i64 m.num, .string m.name, .int .i64 m.off] 54)) (some ⟨w4.heap.size, 0, none⟩) [.int .i64 m.num, .string m.name, .int .i64 m.off] := Rd.made
        go_wp2_with (at_builtin; go_must (refine wpl_app rfl (.tmp 38) (.tmp 45) 24 rfl el_Mem (v := .slice A' L.length c') rfl hoM rfl rfl hrd (by simp [Value.oneCell']) (by unfold maxLen; omega) (by omega) (Nat.le_trans hsz4 hbM.size) ?_; intro A2 c2 w5 h5 hg5 _; have hl2 : L.length + 1 = (L ++ [m]).length := (by simp); have h5' := own_snoc h5; have hl3 : (L ++ [m]).length ≤ L.length + 1 := Nat.le_of_eq hl2.symm; have HN : Hid (∀ s ∈ L ++ [m], s.name.size ≤ 10) := names_snoc HL.out hm; rw [hl2]; clear hl2 h5; have hc5 := hcM.own hg5 hoM hlt; have hg5' := grown_own hgM hoM hg5 hrw; clear hg5 hbM hrd hoM hcM hgM; generalize L ++ [m] = LL at *))
        go_ret
        exact ⟨A2, c2, LL, rfl, by omega, HN.out, own_base h5' hrw, hc5.more (by omega), hg5'⟩
      · have hv0' : (v == 0) = false := by simpa using hv0
        by_cases hv1 : v = 1
        · subst hv1
          have hbE := bnew (Below.refl W.heap.size W) (.cells #[] 54)
          have hoE := own_base (own_lit (e := 54) (size := 3) (B := W.heap.size) (w := W) #[] 0 (Nat.le_refl _) (by unfold maxLen; omega) rfl) hhs
          replace hc := hc.below hbE
          replace hg := grown_below hg hbE
          go_wp2_with fail
          clear ho hbE HL hLk
          go_loopw [3, 7] (fun l q wr => ∃ (A' : Option Addr) (c' : Nat) (L : List Mem), l = .slice A' L.length c' ∧ q = .int .i64 (L.length + 1) ∧ L.length ≤ 13 ∧ Hid (∀ s ∈ L, s.name.size ≤ 10) ∧ Cur wr g (N + 210 + 2 * L.length) 47 ∧ wr.ownsRow r 54 3 (.slice A' L.length c') L.length (memCells L) ∧ w.grownBy wr (some g)) (fun _ q _ => 14 - (intOf q).toNat)
          case atStart => exact ⟨_, _, [], rfl, rfl, by simp, (by intro s hs; simp at hs), hc.more (by omega), by simpa [memCells] using hoE, hg⟩
          case round =>
            clear hc hoE hg hhs
            obtain ⟨A', c', L, rfl, rfl, hk13, HL, hc, ho, hg⟩ := hrel
            generalize wr = W at *
            go_wp2_with fail
            refine (pick_any g _ 2 _ hc (by omega)).mono ?_
            rintro e w9 ⟨y, rfl, hy, hc9, hg9⟩
            replace ho := World.ownsRow.kept ho hg9 (.inr (Ne.symm (own_ne ho hlt)))
            replace hg := grown_trans hg hg9
            replace hc := hc9
            clear hc9 hg9
            generalize w9 = W at *
            have hhs : r ≤ W.heap.size := by have := hg.size; omega
            have hyw : IntKind.i64.wrap (12 + y) = 12 + y := by rw [IntKind.wrap_i64]; omega
            by_cases hle : (L.length : Int) + 1 ≤ 12 + y
            · have hk12 : L.length ≤ 12 := by omega
              have hw1 : IntKind.i64.wrap (97 + ((L.length : Int) + 1)) = 97 + ((L.length : Int) + 1) := by rw [IntKind.wrap_i64]; omega
              have hw2 : IntKind.u8.wrap (97 + ((L.length : Int) + 1)) = 97 + ((L.length : Int) + 1) := by rw [IntKind.wrap_u8]; omega
              have hw3 : IntKind.i64.wrap ((L.length : Int) + 1 + 1) = (L.length : Int) + 1 + 1 := by rw [IntKind.wrap_i64]; omega
              have kc := conv_byte (P := Tryz.prog) Tryz.underlying22 Tryz.underlying5 Tryz.underlying9 W (97 + ((L.length : Int) + 1)) (by omega) (by omega)
              have hbB := bnew (Below.refl W.heap.size W) (.cells #[.int .u8 (97 + ((L.length : Int) + 1))] 5)
              have hbM := bnew hbB (.cells #[.int .i64 ((L.length : Int) + 1), .string (⟨#[110]⟩ ++ ⟨#[97 + (UInt8.ofNat L.length + 1)]⟩), .int .i64 0] 54)
              have hm : (⟨(L.length : Int) + 1, (⟨#[110]⟩ ++ ⟨#[97 + (UInt8.ofNat L.length + 1)]⟩ : ByteArray), 0⟩ : Mem).name.size ≤ 10 := by show (⟨#[110]⟩ ++ ⟨#[97 + (UInt8.ofNat L.length + 1)]⟩ : ByteArray).size ≤ 10; rw [ByteArray.size_append]; show (1 : Nat) + 1 ≤ 10; omega
              have hoM := own_below ho hbM
              have hcM := hc.below hbM
              have hgM := grown_below hg hbM
              have hrd : Rd ((W.alloc (.cells #[.int .u8 (97 + ((L.length : Int) + 1))] 5)).alloc (.cells #[.int .i64 ((L.length : Int) + 1), .string (⟨#[110]⟩ ++ ⟨#[97 + (UInt8.ofNat L.length + 1)]⟩), .int .i64 0] 54)) (some ⟨W.heap.size + 1, 0, none⟩) [.int .i64 ((L.length : Int) + 1), .string (⟨#[110]⟩ ++ ⟨#[97 + (UInt8.ofNat L.length + 1)]⟩), .int .i64 0] := by
                rw [show W.heap.size + 1 = (W.alloc (.cells #[.int .u8 (97 + ((L.length : Int) + 1))] 5)).heap.size by simp]; exact Rd.made
              go_wp2_with (at_builtin; go_must (refine wpl_app rfl (.tmp 57) (.tmp 66) 24 rfl el_Mem (v := .slice A' L.length c') rfl hoM rfl rfl hrd (by simp [Value.oneCell']) (by unfold maxLen; omega) (by omega) (Nat.le_trans hhs hbM.size) ?_; intro A2 c2 w5 h5 hg5 _; have hl2 : L.length + 1 = (L ++ [(⟨(L.length : Int) + 1, (⟨#[110]⟩ ++ ⟨#[97 + (UInt8.ofNat L.length + 1)]⟩ : ByteArray), 0⟩ : Mem)]).length := (by simp); have h5' := own_snoc (m := (⟨(L.length : Int) + 1, (⟨#[110]⟩ ++ ⟨#[97 + (UInt8.ofNat L.length + 1)]⟩ : ByteArray), 0⟩ : Mem)) h5; have hl3 : (L ++ [(⟨(L.length : Int) + 1, (⟨#[110]⟩ ++ ⟨#[97 + (UInt8.ofNat L.length + 1)]⟩ : ByteArray), 0⟩ : Mem)]).length ≤ L.length + 1 := Nat.le_of_eq hl2.symm; have HN : Hid (∀ s ∈ L ++ [(⟨(L.length : Int) + 1, (⟨#[110]⟩ ++ ⟨#[97 + (UInt8.ofNat L.length + 1)]⟩ : ByteArray), 0⟩ : Mem)], s.name.size ≤ 10) := names_snoc HL.out hm; rw [hl2]; have hl4 := hl2.symm; clear hl2 h5; have hc5 := hcM.own hg5 hoM hlt; have hg5' := grown_own hgM hoM hg5 hrw; clear hg5 hbM hbB hrd hoM hcM hgM hm; generalize L ++ [(⟨(L.length : Int) + 1, (⟨#[110]⟩ ++ ⟨#[97 + (UInt8.ofNat L.length + 1)]⟩ : ByteArray), 0⟩ : Mem)] = LL at *))
              go_roundw
              case rel => exact ⟨A2, c2, LL, by rw [hl4], by rw [hl4]; go_num, by omega, HN, hc5.more (by omega), h5', hg5'⟩
              case measure => simp [intOf]; omega
            · go_wp2_with fail
              go_ret
              exact ⟨A', c', L, rfl, by omega, HL.out, own_base ho hrw, hc.more (by omega), hg⟩
        · have hv1' : (v == 1) = false := by simpa using hv1
          go_wp2
          go_ret
          exact ⟨A', c', L, rfl, by omega, HL.out, own_base ho hrw, hc.more (by omega), hg⟩
end Go.Proofs.YtngheildmhimoaaGreatDoor
