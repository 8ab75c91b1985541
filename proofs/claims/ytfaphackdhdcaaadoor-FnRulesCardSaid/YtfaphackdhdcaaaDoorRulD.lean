/-
  Draws of rules, and a text with a byte spoilt. Conditions: the cursor has gone on less than 2^39 times.
-/
import Derived.Test.YtfaphackdhdcaaaDoorCur
import Derived.Test.YtfaphackdhdcaaaDoorAddS
import Derived.Test.YtfaphackdhdcaaaDoorRulPars
import Derived.Deep.RegionHeld3
namespace Go.My
open Go.RowKit
theorem Blk.setj {w : World} {g : Nat} {e : TypeId} {L : List Value} (h : Blk w g e L) (j : Nat) (v : Value) : Blk (w.setCell ⟨g, j, none⟩ v) g e (L.set j v) := by
  unfold Blk at *; simpa using heap_setCell_same w g j _ e v h
theorem Blk.oset {w : World} {g h : Nat} {e : TypeId} {L : List Value} (hb : Blk w g e L) (hne : g ≠ h) (j : Nat) (v : Value) : Blk (w.setCell ⟨h, j, none⟩ v) g e L := hb.grown (grown_set (World.grownBy.refl w (some h)) j v) (by simpa using hne)
theorem Cur.set {w : World} {g N : Nat} {t : TypeId} (h : Cur w g N t) {k : Nat} (hk : g < k) (j : Nat) (v : Value) : Cur (w.setCell ⟨k, j, none⟩ v) g N t := h.kept (grown_set (World.grownBy.refl w (some k)) j v) (fun q hq => by cases hq; exact hk)
theorem grown_set_new {w w' : World} {row : Option Nat} (h : w.grownBy w' row) {k : Nat} (hk : w.heap.size ≤ k) (j : Nat) (v : Value) : w.grownBy (w'.setCell ⟨k, j, none⟩ v) row :=
  grown_new h (grown_set (World.grownBy.refl w' (some k)) j v) hk
theorem own_top {w : World} {B : Nat} {e : TypeId} {size n : Nat} {v : Value} {xs : List Value} (ho : w.ownsRow B e size v n xs) : ∀ k, v.ownBlock = some k → k < w.heap.size := fun k hk => (ho.lt k hk).2
theorem own_kept2 {w w' : World} {B M : Nat} {e e2 : TypeId} {size n s2 n2 : Nat} {v v2 : Value} {xs ys : List Value} (ho : w.ownsRow B e size v n xs) (ht : ∀ k, v.ownBlock = some k → k < M) (hg : w.grownBy w' v2.ownBlock) (h2 : w.ownsRow M e2 s2 v2 n2 ys) : w'.ownsRow B e size v n xs := by
  refine ho.kept hg ?_
  cases hv : v.ownBlock with
  | none => exact .inl rfl
  | some k => exact .inr (fun e => by have := (h2.lt k e.symm).1; have := ht k hv; omega)
theorem grown_own {w w1 w2 : World} {row : Option Nat} {B : Nat} {e : TypeId} {size n : Nat} {v : Value} {xs : List Value} (h : w.grownBy w1 row) (ho : w1.ownsRow B e size v n xs) (h2 : w1.grownBy w2 v.ownBlock) (hB : w.heap.size ≤ B) : w.grownBy w2 row := by
  cases hv : v.ownBlock with
  | none => rw [hv] at h2; exact grown_trans h (grown_wide h2)
  | some k => rw [hv] at h2; exact grown_new h h2 (Nat.le_trans hB (ho.lt k hv).1)
theorem Cur.own {w w' : World} {g N B : Nat} {t e : TypeId} {size n : Nat} {v : Value} {xs : List Value} (h : Cur w g N t) (hg : w.grownBy w' v.ownBlock) (ho : w.ownsRow B e size v n xs) (hB : g < B) : Cur w' g N t := h.kept hg (fun k hk => by have := (ho.lt k hk).1; omega)
theorem good_names {xs : List Rul} (h : goodRul xs = true) : ∀ r ∈ xs, r.name.size ≤ 11 := fun r hr => by
  have := (word_size (rul_parts ((good_ok h).1 r hr)).2.1).2; omega
theorem add_small {xs : List Rul} {r : Rul} : (addR xs r).2 = true → (addR xs r).1.length ≤ 8 ∧ ∀ s ∈ (addR xs r).1, s.name.size ≤ 11 := by
  intro h
  unfold addR at h ⊢
  split
  · split
    · rename_i _ hg
      exact ⟨(good_ok hg).2, good_names hg⟩
    · rename_i h1 h2
      rw [if_pos h1, if_neg h2] at h; cases h
  · rename_i h1
    rw [if_neg h1] at h; cases h
theorem namesR_snoc {L : List Rul} {m : Rul} {b : Nat} (h : ∀ s ∈ L, s.name.size ≤ b) (hm : m.name.size ≤ b) : ∀ s ∈ L ++ [m], s.name.size ≤ b := by
  intro s hs
  rcases List.mem_append.1 hs with hs | hs
  · exact h s hs
  · simp at hs; subst hs; exact hm
end Go.My
namespace Go.Proofs.YtfaphackdhdcaaaDoor
open Go.RowKit Go.My
set_option maxHeartbeats 16000000 in
theorem rule_any (g N : Nat) (w : World) (h : Cur w g N 66) (hN : N ≤ 500000000000) :
    Calls Tryd.prog 48 #[.pointer (some ⟨g, 0, none⟩)] w fun e w' => ∃ m : Rul, e = .returned (.agg #[.int .i64 m.id, .string m.name, .int .i64 m.rank, .bool m.sec, .bool m.deb, .bool m.am, .int .i64 m.need]) ∧ m.name.size ≤ 11 ∧ Cur w' g (N + 18) 66 ∧ w.grownBy w' (some g) := by
  have hlt := h.lt
  go_enter Tryd.func48, Tryd.ntmps48
  go_wp2_with fail
  have hbz := bnew (Below.refl w.heap.size w) (.cells #[.int .i64 0, .string ⟨#[]⟩, .int .i64 0, .bool false, .bool false, .bool false, .int .i64 0] 27)
  have RB : Blk (w.alloc (.cells #[.int .i64 0, .string ⟨#[]⟩, .int .i64 0, .bool false, .bool false, .bool false, .int .i64 0] 27)) w.heap.size 27 [.int .i64 0, .string ⟨#[]⟩, .int .i64 0, .bool false, .bool false, .bool false, .int .i64 0] := blk_made #[.int .i64 0, .string ⟨#[]⟩, .int .i64 0, .bool false, .bool false, .bool false, .int .i64 0] rfl
  have hc := h.below hbz
  have hg : w.grownBy (w.alloc (.cells #[.int .i64 0, .string ⟨#[]⟩, .int .i64 0, .bool false, .bool false, .bool false, .int .i64 0] 27)) (some g) := grown_wide (grown_alloc w (.cells #[.int .i64 0, .string ⟨#[]⟩, .int .i64 0, .bool false, .bool false, .bool false, .int .i64 0] 27))
  clear h hbz
  generalize w.alloc (.cells #[.int .i64 0, .string ⟨#[]⟩, .int .i64 0, .bool false, .bool false, .bool false, .int .i64 0] 27) = W at *
  refine (pick_any g N 12 W hc (by omega)).mono ?_
  rintro e w9 ⟨i0, rfl, hi, hc9, hg9⟩
  replace RB := RB.grown hg9 (by simp; omega)
  replace hg := grown_trans hg hg9
  replace hc := hc9
  clear hc9 hg9
  generalize w9 = W at *
  go_wp2_with fail
  refine (word_any g _ W hc (by omega)).mono ?_
  rintro e w9 ⟨s, rfl, hs, hc9, hg9⟩
  replace RB := RB.grown hg9 (by simp; omega)
  replace hg := grown_trans hg hg9
  replace hc := hc9
  clear hc9 hg9
  generalize w9 = W at *
  go_wp2_with fail
  refine (pick_any g _ 10 W hc (by omega)).mono ?_
  rintro e w9 ⟨k, rfl, hk, hc9, hg9⟩
  replace RB := RB.grown hg9 (by simp; omega)
  replace hg := grown_trans hg hg9
  replace hc := hc9
  clear hc9 hg9
  generalize w9 = W at *
  go_wp2_with fail
  refine (one_any g _ 2 W hc (by omega)).mono ?_
  rintro e w9 ⟨u1, rfl, hc9, hg9⟩
  replace RB := RB.grown hg9 (by simp; omega)
  replace hg := grown_trans hg hg9
  replace hc := hc9
  clear hc9 hg9
  generalize w9 = W at *
  go_wp2_with fail
  refine (one_any g _ 2 W hc (by omega)).mono ?_
  rintro e w9 ⟨u2, rfl, hc9, hg9⟩
  replace RB := RB.grown hg9 (by simp; omega)
  replace hg := grown_trans hg hg9
  replace hc := hc9
  clear hc9 hg9
  generalize w9 = W at *
  go_wp2_with fail
  refine (one_any g _ 2 W hc (by omega)).mono ?_
  rintro e w9 ⟨u3, rfl, hc9, hg9⟩
  replace RB := RB.grown hg9 (by simp; omega)
  replace hg := grown_trans hg hg9
  replace hc := hc9
  clear hc9 hg9
  generalize w9 = W at *
  go_wp2_with fail
  have hiw : IntKind.i64.wrap (1 + i0) = 1 + i0 := by rw [IntKind.wrap_i64]; omega
  refine (pick_any g _ 3 W hc (by omega)).mono ?_
  rintro e w9 ⟨d0, rfl, hd, hc9, hg9⟩
  replace RB := RB.grown hg9 (by simp; omega)
  replace hg := grown_trans hg hg9
  replace hc := hc9
  clear hc9 hg9
  generalize w9 = W at *
  have hdw : IntKind.i64.wrap (1 + d0) = 1 + d0 := by rw [IntKind.wrap_i64]; omega
  have hsz := hg.size
  have hlr := RB.lt
  go_wp2_with fail
  generalize (1 + i0) = i at *
  generalize (1 + d0) = d at *
  clear hi hd hk hiw hdw
  have BB : Blk (W.alloc (.cells #[.int .i64 i, .string s, .int .i64 k, .bool u1, .bool u2, .bool u3, .int .i64 d] 27)) W.heap.size 27 [.int .i64 i, .string s, .int .i64 k, .bool u1, .bool u2, .bool u3, .int .i64 d] := blk_made #[.int .i64 i, .string s, .int .i64 k, .bool u1, .bool u2, .bool u3, .int .i64 d] rfl
  have hbw := bnew (Below.refl W.heap.size W) (.cells #[.int .i64 i, .string s, .int .i64 k, .bool u1, .bool u2, .bool u3, .int .i64 d] 27)
  replace RB := RB.below hbw
  replace hc := hc.below hbw
  replace hg := grown_below hg hbw
  have hgb : g < W.heap.size := by omega
  have hwb : w.heap.size ≤ W.heap.size := by omega
  have hgr := hlt
  have hrb : w.heap.size < W.heap.size := hlr
  clear hbw hsz hlr hlt
  generalize hW9 : W.alloc (.cells #[.int .i64 i, .string s, .int .i64 k, .bool u1, .bool u2, .bool u3, .int .i64 d] 27) = W9 at *
  clear hW9
  generalize W.heap.size = b at *
  generalize hr : w.heap.size = r at RB hgr hrb ⊢
  have hwr : w.heap.size ≤ r := by omega
  clear hr
  clear W
  generalize W9 = W at *
  refine (pick_any g _ 24 _ hc (by omega)).mono ?_
  rintro e w9 ⟨v, rfl, hv, hc9, hg9⟩
  replace RB := RB.grown hg9 (by simp; omega)
  replace BB := BB.grown hg9 (by simp; omega)
  replace hg := grown_trans hg hg9
  replace hc := hc9
  clear hc9 hg9
  generalize w9 = W at *
  by_cases hv0 : v = 0
  · subst hv0
    have hlt := hc.lt
    have hbA := bnew (Below.refl W.heap.size W) (.cells #[.int .i64 0, .int .i64 20, .int .i64 21] 3)
    go_wp2_with fail
    refine (among_any g _ _ 3 3 _ (fun _ => true) _ (hc.below hbA) (by omega) rfl (by decide) (by decide) Rd.made (by decide) (fun ad e => by cases e; simp; omega)).mono ?_
    rintro e w9 ⟨a, rfl, -, hc9, hg9⟩
    replace RB := (RB.below hbA).grown hg9 (by simp; omega)
    replace BB := (BB.below hbA).grown hg9 (by simp; omega)
    replace hg := grown_trans (grown_below hg hbA) hg9
    replace hc := hc9
    clear hc9 hg9 hbA hlt
    generalize w9 = W at *
    have zb := blk_frozen BB 0
    have kbj := blk_cell BB (j := 0) rfl
    have BB1 : Blk (W.setCell ⟨b, 0, none⟩ (.int .i64 a)) b 27 [.int .i64 a, .string s, .int .i64 k, .bool u1, .bool u2, .bool u3, .int .i64 d] := Blk.setj BB 0 (.int .i64 a)
    have RB1 := RB.oset (g := r) (h := b) (by omega) 0 (.int .i64 a)
    have hc1 := hc.set (k := b) hgb 0 (.int .i64 a)
    have hg1 := grown_set_new hg hwb 0 (.int .i64 a)
    have kb0 := blk_cell BB1 (j := 0) rfl
    have z0 := blk_frozen RB1 0
    have r0 := blk_cell RB1 (j := 0) rfl
    have kb1 := blk_cell BB1 (j := 1) rfl
    have z1 := blk_frozen RB1 1
    have r1 := blk_cell RB1 (j := 1) rfl
    have kb2 := blk_cell BB1 (j := 2) rfl
    have z2 := blk_frozen RB1 2
    have r2 := blk_cell RB1 (j := 2) rfl
    have kb3 := blk_cell BB1 (j := 3) rfl
    have z3 := blk_frozen RB1 3
    have r3 := blk_cell RB1 (j := 3) rfl
    have kb4 := blk_cell BB1 (j := 4) rfl
    have z4 := blk_frozen RB1 4
    have r4 := blk_cell RB1 (j := 4) rfl
    have kb5 := blk_cell BB1 (j := 5) rfl
    have z5 := blk_frozen RB1 5
    have r5 := blk_cell RB1 (j := 5) rfl
    have kb6 := blk_cell BB1 (j := 6) rfl
    have z6 := blk_frozen RB1 6
    have r6 := blk_cell RB1 (j := 6) rfl
    go_wp2
    have RF := (Blk.setj (Blk.setj (Blk.setj (Blk.setj (Blk.setj (Blk.setj (Blk.setj RB1 0 (.int .i64 a)) 1 (.string s)) 2 (.int .i64 k)) 3 (.bool u1)) 4 (.bool u2)) 5 (.bool u3)) 6 (.int .i64 d))
    have f0 := blk_cell RF (j := 0) rfl
    have f1 := blk_cell RF (j := 1) rfl
    have f2 := blk_cell RF (j := 2) rfl
    have f3 := blk_cell RF (j := 3) rfl
    have f4 := blk_cell RF (j := 4) rfl
    have f5 := blk_cell RF (j := 5) rfl
    have f6 := blk_cell RF (j := 6) rfl
    exact bodyPost_ret (v := .agg #[.int .i64 a, .string s, .int .i64 k, .bool u1, .bool u2, .bool u3, .int .i64 d]) (by simp [results, Tryd.results48, go_sem, f0, f1, f2, f3, f4, f5, f6]) rfl ⟨⟨a, s, k, u1, u2, u3, d⟩, rfl, (by first | exact hs | exact Nat.le_trans hs (by decide)), (((((((hc1.set hgr 0 _).set hgr 1 _).set hgr 2 _).set hgr 3 _).set hgr 4 _).set hgr 5 _).set hgr 6 _).more (by omega), (grown_set_new (grown_set_new (grown_set_new (grown_set_new (grown_set_new (grown_set_new (grown_set_new hg1 hwr 0 _) hwr 1 _) hwr 2 _) hwr 3 _) hwr 4 _) hwr 5 _) hwr 6 _)⟩
  have hv0' : (v == 0) = false := by simpa using hv0
  by_cases hv1 : v = 1
  · subst hv1
    have hlt := hc.lt
    have hbA := bnew (Below.refl W.heap.size W) (.cells #[.string ⟨#[]⟩, .string ⟨#[97, 98, 99, 100, 101, 102, 103, 104, 105, 106]⟩, .string ⟨#[97, 98, 99, 100, 101, 102, 103, 104, 105, 106, 107]⟩, .string ⟨#[65]⟩, .string ⟨#[97, 32, 98]⟩] 9)
    go_wp2_with fail
    refine (of_any g _ _ 5 5 11 _ _ (hc.below hbA) (by omega) rfl (by decide) (by decide) Rd.made (by decide) (fun ad e => by cases e; simp; omega)).mono ?_
    rintro e w9 ⟨a, rfl, hs, hc9, hg9⟩
    replace RB := (RB.below hbA).grown hg9 (by simp; omega)
    replace BB := (BB.below hbA).grown hg9 (by simp; omega)
    replace hg := grown_trans (grown_below hg hbA) hg9
    replace hc := hc9
    clear hc9 hg9 hbA hlt
    generalize w9 = W at *
    have zb := blk_frozen BB 1
    have kbj := blk_cell BB (j := 1) rfl
    have BB1 : Blk (W.setCell ⟨b, 1, none⟩ (.string a)) b 27 [.int .i64 i, .string a, .int .i64 k, .bool u1, .bool u2, .bool u3, .int .i64 d] := Blk.setj BB 1 (.string a)
    have RB1 := RB.oset (g := r) (h := b) (by omega) 1 (.string a)
    have hc1 := hc.set (k := b) hgb 1 (.string a)
    have hg1 := grown_set_new hg hwb 1 (.string a)
    have kb0 := blk_cell BB1 (j := 0) rfl
    have z0 := blk_frozen RB1 0
    have r0 := blk_cell RB1 (j := 0) rfl
    have kb1 := blk_cell BB1 (j := 1) rfl
    have z1 := blk_frozen RB1 1
    have r1 := blk_cell RB1 (j := 1) rfl
    have kb2 := blk_cell BB1 (j := 2) rfl
    have z2 := blk_frozen RB1 2
    have r2 := blk_cell RB1 (j := 2) rfl
    have kb3 := blk_cell BB1 (j := 3) rfl
    have z3 := blk_frozen RB1 3
    have r3 := blk_cell RB1 (j := 3) rfl
    have kb4 := blk_cell BB1 (j := 4) rfl
    have z4 := blk_frozen RB1 4
    have r4 := blk_cell RB1 (j := 4) rfl
    have kb5 := blk_cell BB1 (j := 5) rfl
    have z5 := blk_frozen RB1 5
    have r5 := blk_cell RB1 (j := 5) rfl
    have kb6 := blk_cell BB1 (j := 6) rfl
    have z6 := blk_frozen RB1 6
    have r6 := blk_cell RB1 (j := 6) rfl
    go_wp2
    have RF := (Blk.setj (Blk.setj (Blk.setj (Blk.setj (Blk.setj (Blk.setj (Blk.setj RB1 0 (.int .i64 i)) 1 (.string a)) 2 (.int .i64 k)) 3 (.bool u1)) 4 (.bool u2)) 5 (.bool u3)) 6 (.int .i64 d))
    have f0 := blk_cell RF (j := 0) rfl
    have f1 := blk_cell RF (j := 1) rfl
    have f2 := blk_cell RF (j := 2) rfl
    have f3 := blk_cell RF (j := 3) rfl
    have f4 := blk_cell RF (j := 4) rfl
    have f5 := blk_cell RF (j := 5) rfl
    have f6 := blk_cell RF (j := 6) rfl
    exact bodyPost_ret (v := .agg #[.int .i64 i, .string a, .int .i64 k, .bool u1, .bool u2, .bool u3, .int .i64 d]) (by simp [results, Tryd.results48, go_sem, f0, f1, f2, f3, f4, f5, f6]) rfl ⟨⟨i, a, k, u1, u2, u3, d⟩, rfl, (by first | exact hs | exact Nat.le_trans hs (by decide)), (((((((hc1.set hgr 0 _).set hgr 1 _).set hgr 2 _).set hgr 3 _).set hgr 4 _).set hgr 5 _).set hgr 6 _).more (by omega), (grown_set_new (grown_set_new (grown_set_new (grown_set_new (grown_set_new (grown_set_new (grown_set_new hg1 hwr 0 _) hwr 1 _) hwr 2 _) hwr 3 _) hwr 4 _) hwr 5 _) hwr 6 _)⟩
  have hv1' : (v == 1) = false := by simpa using hv1
  by_cases hv2 : v = 2
  · subst hv2
    have hlt := hc.lt
    have hbA := bnew (Below.refl W.heap.size W) (.cells #[.int .i64 (-1), .int .i64 9, .int .i64 10] 3)
    go_wp2_with fail
    refine (among_any g _ _ 3 3 _ (fun _ => true) _ (hc.below hbA) (by omega) rfl (by decide) (by decide) Rd.made (by decide) (fun ad e => by cases e; simp; omega)).mono ?_
    rintro e w9 ⟨a, rfl, -, hc9, hg9⟩
    replace RB := (RB.below hbA).grown hg9 (by simp; omega)
    replace BB := (BB.below hbA).grown hg9 (by simp; omega)
    replace hg := grown_trans (grown_below hg hbA) hg9
    replace hc := hc9
    clear hc9 hg9 hbA hlt
    generalize w9 = W at *
    have zb := blk_frozen BB 2
    have kbj := blk_cell BB (j := 2) rfl
    have BB1 : Blk (W.setCell ⟨b, 2, none⟩ (.int .i64 a)) b 27 [.int .i64 i, .string s, .int .i64 a, .bool u1, .bool u2, .bool u3, .int .i64 d] := Blk.setj BB 2 (.int .i64 a)
    have RB1 := RB.oset (g := r) (h := b) (by omega) 2 (.int .i64 a)
    have hc1 := hc.set (k := b) hgb 2 (.int .i64 a)
    have hg1 := grown_set_new hg hwb 2 (.int .i64 a)
    have kb0 := blk_cell BB1 (j := 0) rfl
    have z0 := blk_frozen RB1 0
    have r0 := blk_cell RB1 (j := 0) rfl
    have kb1 := blk_cell BB1 (j := 1) rfl
    have z1 := blk_frozen RB1 1
    have r1 := blk_cell RB1 (j := 1) rfl
    have kb2 := blk_cell BB1 (j := 2) rfl
    have z2 := blk_frozen RB1 2
    have r2 := blk_cell RB1 (j := 2) rfl
    have kb3 := blk_cell BB1 (j := 3) rfl
    have z3 := blk_frozen RB1 3
    have r3 := blk_cell RB1 (j := 3) rfl
    have kb4 := blk_cell BB1 (j := 4) rfl
    have z4 := blk_frozen RB1 4
    have r4 := blk_cell RB1 (j := 4) rfl
    have kb5 := blk_cell BB1 (j := 5) rfl
    have z5 := blk_frozen RB1 5
    have r5 := blk_cell RB1 (j := 5) rfl
    have kb6 := blk_cell BB1 (j := 6) rfl
    have z6 := blk_frozen RB1 6
    have r6 := blk_cell RB1 (j := 6) rfl
    go_wp2
    have RF := (Blk.setj (Blk.setj (Blk.setj (Blk.setj (Blk.setj (Blk.setj (Blk.setj RB1 0 (.int .i64 i)) 1 (.string s)) 2 (.int .i64 a)) 3 (.bool u1)) 4 (.bool u2)) 5 (.bool u3)) 6 (.int .i64 d))
    have f0 := blk_cell RF (j := 0) rfl
    have f1 := blk_cell RF (j := 1) rfl
    have f2 := blk_cell RF (j := 2) rfl
    have f3 := blk_cell RF (j := 3) rfl
    have f4 := blk_cell RF (j := 4) rfl
    have f5 := blk_cell RF (j := 5) rfl
    have f6 := blk_cell RF (j := 6) rfl
    exact bodyPost_ret (v := .agg #[.int .i64 i, .string s, .int .i64 a, .bool u1, .bool u2, .bool u3, .int .i64 d]) (by simp [results, Tryd.results48, go_sem, f0, f1, f2, f3, f4, f5, f6]) rfl ⟨⟨i, s, a, u1, u2, u3, d⟩, rfl, (by first | exact hs | exact Nat.le_trans hs (by decide)), (((((((hc1.set hgr 0 _).set hgr 1 _).set hgr 2 _).set hgr 3 _).set hgr 4 _).set hgr 5 _).set hgr 6 _).more (by omega), (grown_set_new (grown_set_new (grown_set_new (grown_set_new (grown_set_new (grown_set_new (grown_set_new hg1 hwr 0 _) hwr 1 _) hwr 2 _) hwr 3 _) hwr 4 _) hwr 5 _) hwr 6 _)⟩
  have hv2' : (v == 2) = false := by simpa using hv2
  by_cases hv3 : v = 3
  · subst hv3
    have hlt := hc.lt
    have hbA := bnew (Below.refl W.heap.size W) (.cells #[.int .i64 0, .int .i64 4] 3)
    go_wp2_with fail
    refine (among_any g _ _ 2 2 _ (fun _ => true) _ (hc.below hbA) (by omega) rfl (by decide) (by decide) Rd.made (by decide) (fun ad e => by cases e; simp; omega)).mono ?_
    rintro e w9 ⟨a, rfl, -, hc9, hg9⟩
    replace RB := (RB.below hbA).grown hg9 (by simp; omega)
    replace BB := (BB.below hbA).grown hg9 (by simp; omega)
    replace hg := grown_trans (grown_below hg hbA) hg9
    replace hc := hc9
    clear hc9 hg9 hbA hlt
    generalize w9 = W at *
    have zb := blk_frozen BB 6
    have kbj := blk_cell BB (j := 6) rfl
    have BB1 : Blk (W.setCell ⟨b, 6, none⟩ (.int .i64 a)) b 27 [.int .i64 i, .string s, .int .i64 k, .bool u1, .bool u2, .bool u3, .int .i64 a] := Blk.setj BB 6 (.int .i64 a)
    have RB1 := RB.oset (g := r) (h := b) (by omega) 6 (.int .i64 a)
    have hc1 := hc.set (k := b) hgb 6 (.int .i64 a)
    have hg1 := grown_set_new hg hwb 6 (.int .i64 a)
    have kb0 := blk_cell BB1 (j := 0) rfl
    have z0 := blk_frozen RB1 0
    have r0 := blk_cell RB1 (j := 0) rfl
    have kb1 := blk_cell BB1 (j := 1) rfl
    have z1 := blk_frozen RB1 1
    have r1 := blk_cell RB1 (j := 1) rfl
    have kb2 := blk_cell BB1 (j := 2) rfl
    have z2 := blk_frozen RB1 2
    have r2 := blk_cell RB1 (j := 2) rfl
    have kb3 := blk_cell BB1 (j := 3) rfl
    have z3 := blk_frozen RB1 3
    have r3 := blk_cell RB1 (j := 3) rfl
    have kb4 := blk_cell BB1 (j := 4) rfl
    have z4 := blk_frozen RB1 4
    have r4 := blk_cell RB1 (j := 4) rfl
    have kb5 := blk_cell BB1 (j := 5) rfl
    have z5 := blk_frozen RB1 5
    have r5 := blk_cell RB1 (j := 5) rfl
    have kb6 := blk_cell BB1 (j := 6) rfl
    have z6 := blk_frozen RB1 6
    have r6 := blk_cell RB1 (j := 6) rfl
    go_wp2
    have RF := (Blk.setj (Blk.setj (Blk.setj (Blk.setj (Blk.setj (Blk.setj (Blk.setj RB1 0 (.int .i64 i)) 1 (.string s)) 2 (.int .i64 k)) 3 (.bool u1)) 4 (.bool u2)) 5 (.bool u3)) 6 (.int .i64 a))
    have f0 := blk_cell RF (j := 0) rfl
    have f1 := blk_cell RF (j := 1) rfl
    have f2 := blk_cell RF (j := 2) rfl
    have f3 := blk_cell RF (j := 3) rfl
    have f4 := blk_cell RF (j := 4) rfl
    have f5 := blk_cell RF (j := 5) rfl
    have f6 := blk_cell RF (j := 6) rfl
    exact bodyPost_ret (v := .agg #[.int .i64 i, .string s, .int .i64 k, .bool u1, .bool u2, .bool u3, .int .i64 a]) (by simp [results, Tryd.results48, go_sem, f0, f1, f2, f3, f4, f5, f6]) rfl ⟨⟨i, s, k, u1, u2, u3, a⟩, rfl, (by first | exact hs | exact Nat.le_trans hs (by decide)), (((((((hc1.set hgr 0 _).set hgr 1 _).set hgr 2 _).set hgr 3 _).set hgr 4 _).set hgr 5 _).set hgr 6 _).more (by omega), (grown_set_new (grown_set_new (grown_set_new (grown_set_new (grown_set_new (grown_set_new (grown_set_new hg1 hwr 0 _) hwr 1 _) hwr 2 _) hwr 3 _) hwr 4 _) hwr 5 _) hwr 6 _)⟩
  have hv3' : (v == 3) = false := by simpa using hv3
  have kb0 := blk_cell BB (j := 0) rfl
  have z0 := blk_frozen RB 0
  have r0 := blk_cell RB (j := 0) rfl
  have kb1 := blk_cell BB (j := 1) rfl
  have z1 := blk_frozen RB 1
  have r1 := blk_cell RB (j := 1) rfl
  have kb2 := blk_cell BB (j := 2) rfl
  have z2 := blk_frozen RB 2
  have r2 := blk_cell RB (j := 2) rfl
  have kb3 := blk_cell BB (j := 3) rfl
  have z3 := blk_frozen RB 3
  have r3 := blk_cell RB (j := 3) rfl
  have kb4 := blk_cell BB (j := 4) rfl
  have z4 := blk_frozen RB 4
  have r4 := blk_cell RB (j := 4) rfl
  have kb5 := blk_cell BB (j := 5) rfl
  have z5 := blk_frozen RB 5
  have r5 := blk_cell RB (j := 5) rfl
  have kb6 := blk_cell BB (j := 6) rfl
  have z6 := blk_frozen RB 6
  have r6 := blk_cell RB (j := 6) rfl
  go_wp2
  have RF := (Blk.setj (Blk.setj (Blk.setj (Blk.setj (Blk.setj (Blk.setj (Blk.setj RB 0 (.int .i64 i)) 1 (.string s)) 2 (.int .i64 k)) 3 (.bool u1)) 4 (.bool u2)) 5 (.bool u3)) 6 (.int .i64 d))
  have f0 := blk_cell RF (j := 0) rfl
  have f1 := blk_cell RF (j := 1) rfl
  have f2 := blk_cell RF (j := 2) rfl
  have f3 := blk_cell RF (j := 3) rfl
  have f4 := blk_cell RF (j := 4) rfl
  have f5 := blk_cell RF (j := 5) rfl
  have f6 := blk_cell RF (j := 6) rfl
  exact bodyPost_ret (v := .agg #[.int .i64 i, .string s, .int .i64 k, .bool u1, .bool u2, .bool u3, .int .i64 d]) (by simp [results, Tryd.results48, go_sem, f0, f1, f2, f3, f4, f5, f6]) rfl ⟨⟨i, s, k, u1, u2, u3, d⟩, rfl, (by first | exact hs | exact Nat.le_trans hs (by decide)), (((((((hc.set hgr 0 _).set hgr 1 _).set hgr 2 _).set hgr 3 _).set hgr 4 _).set hgr 5 _).set hgr 6 _).more (by omega), (grown_set_new (grown_set_new (grown_set_new (grown_set_new (grown_set_new (grown_set_new (grown_set_new hg hwr 0 _) hwr 1 _) hwr 2 _) hwr 3 _) hwr 4 _) hwr 5 _) hwr 6 _)⟩
theorem rul_one (i : Int) (s : ByteArray) (k : Int) (a b c : Bool) (d : Int) : ∀ u ∈ ([.int .i64 i, .string s, .int .i64 k, .bool a, .bool b, .bool c, .int .i64 d] : List Value), u.oneCell' = true := by simp [Value.oneCell']
theorem own_snocR {w : World} {B n : Nat} {A : Option Addr} {c : Nat} {L : List Rul} {m : Rul} (h : w.ownsRow B 27 7 (.slice A (n + 1) c) (n + 1) (rulCells L ++ [.int .i64 m.id, .string m.name, .int .i64 m.rank, .bool m.sec, .bool m.deb, .bool m.am, .int .i64 m.need])) (hn : n = L.length := by rfl) : w.ownsRow B 27 7 (.slice A (L ++ [m]).length c) (L ++ [m]).length (rulCells (L ++ [m])) := by
  subst hn
  rw [rulCells_snoc, List.length_append]; exact h
set_option maxHeartbeats 8000000 in
theorem spoilt_any (g N : Nat) (s z : ByteArray) (w : World) (h : Cur w g N 66) (hN : N ≤ 400000000000) (hs : s.size ≤ 100000) (hz : 1 ≤ z.size) (hz2 : z.size ≤ 100) :
    Calls Tryd.prog 50 #[.pointer (some ⟨g, 0, none⟩), .string s, .string z] w fun e w' => ∃ t : ByteArray, e = .returned (.string t) ∧ t.size ≤ s.size + 1 ∧ Cur w' g (N + 6) 66 ∧ w.grownBy w' (some g) := by
  have hzI : (1 : Int) ≤ (z.size : Int) := by omega
  by_cases h0 : s = ⟨#[]⟩
  · subst h0
    go_enter Tryd.func50, Tryd.ntmps50
    go_wp2
    go_ret
    exact ⟨_, rfl, (by simp; exact Nat.le_trans (Nat.min_le_left _ _) (by decide)), h.more (by omega), World.grownBy.refl w _⟩
  · have hse : (s.toList == []) = false := ne_beq3 h0
    have hs0 : 0 < s.size := by
      rcases Nat.eq_zero_or_pos s.size with e | e
      · exact absurd (ByteArray.ext (Array.eq_empty_of_size_eq_zero e)) h0
      · exact e
    go_enter Tryd.func50, Tryd.ntmps50
    go_wp2_with fail
    refine (pick_any g N (s.size : Int) w h (by omega)).mono ?_
    rintro e w1 ⟨i0, rfl, hi, hc1, hg1⟩
    go_wp2_with fail
    refine (pick_any g _ (z.size : Int) w1 hc1 (by omega)).mono ?_
    rintro e w2 ⟨j0, rfl, hj, hc2, hg2⟩
    obtain ⟨i, rfl⟩ : ∃ m : Nat, i0 = m := ⟨i0.toNat, by omega⟩
    obtain ⟨j, rfl⟩ : ∃ m : Nat, j0 = m := ⟨j0.toNat, by omega⟩
    have hil : i < s.size := by have := hi.2.1 (by omega); omega
    have hjl : j < z.size := by have := hj.2.1 (by omega); omega
    have hjI : (j : Int) ≤ (z.size : Int) := by omega
    have hiI : (i : Int) ≤ (s.size : Int) := by omega
    have hi1 : (i : Int) + 1 ≤ (s.size : Int) := by omega
    have hiw : IntKind.i64.wrap ((i : Int) + 1) = (i : Int) + 1 := by rw [IntKind.wrap_i64]; omega
    have hx1 : (1 : Int) ≤ ((z.extract j z.size).size : Int) := by rw [ByteArray.size_extract]; omega
    have hx2 : ((z.extract j z.size).extract 0 1).size ≤ 1 := by rw [ByteArray.size_extract]; omega
    clear hi hj
    go_wp2_with fail
    refine (pick_any g _ 3 w2 hc2 (by omega)).mono ?_
    rintro e w3 ⟨v, rfl, hv, hc3, hg3⟩
    generalize (z.extract j z.size).extract 0 1 = y at *
    have hA : s.size + y.size ≤ 200000 := by omega
    have hgg := grown_trans (grown_trans hg1 hg2) hg3
    by_cases hv0 : v = 0
    · subst hv0
      go_wp2_with fail
      refine wp_region_after (by kernel_rfl) (by kernel_rfl) ?_
      repeat (go_big_quiet_step (fail))
      refine wpQuiet_nil ?_
      intro nq
      go_wp2
      go_ret
      exact ⟨_, rfl, (by simp only [ByteArray.size_append, ByteArray.size_extract]; omega), (hc3.below nq.bel).more (by omega), grown_below hgg nq.bel⟩
    have hv0' : (v == 0) = false := by simpa using hv0
    by_cases hv1 : v = 1
    · subst hv1
      go_wp2_with fail
      refine wp_region_after (by kernel_rfl) (by kernel_rfl) ?_
      repeat (go_big_quiet_step (fail))
      refine wpQuiet_nil ?_
      intro nq
      go_wp2
      go_ret
      exact ⟨_, rfl, (by simp only [ByteArray.size_append, ByteArray.size_extract]; omega), (hc3.below nq.bel).more (by omega), grown_below hgg nq.bel⟩
    have hv1' : (v == 1) = false := by simpa using hv1
    go_wp2_with fail
    refine wp_region_after (by kernel_rfl) (by kernel_rfl) ?_
    repeat (go_big_quiet_step (fail))
    refine wpQuiet_nil ?_
    intro nq
    go_wp2
    go_ret
    exact ⟨_, rfl, (by simp only [ByteArray.size_append, ByteArray.size_extract]; omega), (hc3.below nq.bel).more (by omega), grown_below hgg nq.bel⟩
set_option maxHeartbeats 16000000 in
set_option maxRecDepth 100000 in
theorem rules_any (g N : Nat) (w : World) (h : Cur w g N 66) (hN : N ≤ 400000000000) :
    Calls Tryd.prog 54 #[.pointer (some ⟨g, 0, none⟩)] w fun e w' => ∃ A' c', ∃ xs : List Rul, e = .returned (.slice A' xs.length c') ∧ xs.length ≤ 10 ∧ (∀ s ∈ xs, s.name.size ≤ 11) ∧ w'.ownsRow w.heap.size 27 7 (.slice A' xs.length c') xs.length (rulCells xs) ∧ Cur w' g (N + 400) 66 ∧ w.grownBy w' (some g) := by
  have hlt := h.lt
  go_enter Tryd.func54, Tryd.ntmps54
  go_wp2_with fail
  have hbE := bnew (Below.refl w.heap.size w) (.cells #[] 27)
  have ho := own_lit (e := 27) (size := 7) (B := w.heap.size) (w := w) #[] 0 (Nat.le_refl _) (by unfold maxLen; omega) rfl
  have hc := h.below hbE
  have hg := grown_wide (row := some g) (grown_of_below hbE)
  clear hbE h
  generalize w.alloc (.cells #[] 27) = W at *
  refine (pick_any g _ 7 _ hc (by omega)).mono ?_
  rintro e w9 ⟨k, rfl, hk, hc9, hg9⟩
  replace ho := World.ownsRow.kept ho hg9 (.inr (Ne.symm (own_ne ho hlt)))
  replace hg := grown_trans hg hg9
  replace hc := hc9
  clear hc9 hg9
  generalize w9 = W at *
  go_wp2_with fail
  obtain ⟨k, rfl⟩ : ∃ m : Nat, k = m := ⟨k.toNat, by omega⟩
  obtain ⟨r, hr⟩ : ∃ r, r = w.heap.size := ⟨_, rfl⟩
  rw [← hr] at hlt ho ⊢
  have hrw : w.heap.size ≤ r := by omega
  have hrw2 : r ≤ w.heap.size := by omega
  clear hr
  have hk7 : k ≤ 7 := by have := hk.2.1 (by omega); omega
  go_loopw [3, 4, 5, 6] (fun l q _ _ wr => ∃ (A' : Option Addr) (c' : Nat) (L : List Rul) (k : Nat), l = .slice A' L.length c' ∧ q = .int .i64 k ∧ k ≤ 7 ∧ L.length ≤ 8 ∧ Hid (∀ s ∈ L, s.name.size ≤ 11) ∧ Cur wr g (N + 200 - 18 * k) 66 ∧ wr.ownsRow r 27 7 (.slice A' L.length c') L.length (rulCells L) ∧ w.grownBy wr (some g)) (fun _ q _ _ _ => (intOf q).toNat)
  case atStart => exact ⟨_, _, [], k, rfl, rfl, by omega, by simp, (by intro s hs; simp at hs), hc.more (by omega), by simpa [rulCells] using ho, hg⟩
  case round =>
    clear hc ho hg hk hk7
    obtain ⟨A', c', L, k, rfl, rfl, hk7, hL8, HL, hc, ho, hg⟩ := hrel
    generalize wr = W at *
    have hhs : r ≤ W.heap.size := by have := hg.size; omega
    by_cases hk0 : 0 < k
    · have hkI : (0 : Int) < (k : Int) := by omega
      go_wp2_with fail
      refine (rule_any g _ _ hc (by omega)).mono ?_
      rintro e w9 ⟨m, rfl, hm, hc9, hg9⟩
      replace ho := World.ownsRow.kept ho hg9 (.inr (Ne.symm (own_ne ho hlt)))
      replace hg := grown_trans hg hg9
      replace hc := hc9
      clear hc9 hg9
      generalize w9 = W at *
      have hhs2 : r ≤ W.heap.size := by have := hg.size; omega
      go_wp2_with fail
      have hle := own_le ho
      have hrd := own_rd ho
      refine (specAdd_any A' c' L m W (by unfold maxLen; omega) hle hrd (fun s hs => by have := HL.out s hs; unfold maxLen; omega) (by unfold maxLen; omega)).mono ?_
      rintro e w2 ⟨A2, c2, rfl, ho2, hb2⟩
      have HAD : Hid _ := Lib.hid (@add_small L m)
      generalize addR L m = R at *
      obtain ⟨LL, b⟩ := R
      replace ho := own_below ho hb2
      have hc2 := hc.below hb2
      have hg2 := grown_below hg hb2
      clear hc hg hle hrd
      simp only at ho2 HAD ⊢
      cases b with
      | false =>
        go_wp2_with fail
        go_roundw
        case rel => exact ⟨A', c', L, k - 1, rfl, by go_num, by omega, by omega, HL, hc2.more (by omega), ho, hg2⟩
        case measure => simp [intOf]; omega
      | true =>
        obtain ⟨hl8, HN⟩ := HAD.out rfl
        go_wp2_with fail
        go_roundw
        case rel => exact ⟨A2, c2, LL, k - 1, rfl, by go_num, by omega, by omega, HN, hc2.more (by omega), own_base ho2 hhs2, hg2⟩
        case measure => simp [intOf]; omega
    · have hkI : ¬ (0 : Int) < (k : Int) := by omega
      go_wp2_with fail
      refine (pick_any g _ 24 _ hc (by omega)).mono ?_
      rintro e w9 ⟨v, rfl, hv, hc9, hg9⟩
      replace ho := World.ownsRow.kept ho hg9 (.inr (Ne.symm (own_ne ho hlt)))
      replace hg := grown_trans hg hg9
      replace hc := hc9
      clear hc9 hg9
      generalize w9 = W at *
      replace hhs : r ≤ W.heap.size := by have := hg.size; omega
      by_cases hv0 : v = 0
      · subst hv0
        go_wp2_with fail
        refine (rule_any g _ W hc (by omega)).mono ?_
        rintro e w4 ⟨m, rfl, hm, hc4, hg4⟩
        have h4 := ho.kept hg4 (.inr (Ne.symm (own_ne ho hlt)))
        have hg4' := grown_trans hg hg4
        have hsz4 : r ≤ w4.heap.size := by have := hg4.size; omega
        clear hc hg ho hg4
        have hbM := bnew (Below.refl w4.heap.size w4) (.cells #[.int .i64 m.id, .string m.name, .int .i64 m.rank, .bool m.sec, .bool m.deb, .bool m.am, .int .i64 m.need] 27)
        have hoM := own_below h4 hbM
        have hcM := hc4.below hbM
        have hgM := grown_below hg4' hbM
        have hrd : Rd (w4.alloc (.cells #[.int .i64 m.id, .string m.name, .int .i64 m.rank, .bool m.sec, .bool m.deb, .bool m.am, .int .i64 m.need] 27)) (some ⟨w4.heap.size, 0, none⟩) [.int .i64 m.id, .string m.name, .int .i64 m.rank, .bool m.sec, .bool m.deb, .bool m.am, .int .i64 m.need] := Rd.made
        go_wp2_with (at_builtin; go_must (refine wpl_app rfl (.tmp 28) (.tmp 31) 33 rfl el_Rul (v := .slice A' L.length c') rfl hoM rfl rfl hrd (by simp [Value.oneCell']) (by unfold maxLen; omega) (by omega) (Nat.le_trans hsz4 hbM.size) ?_; intro A2 c2 w5 h5 hg5 _; have hl2 : L.length + 1 = (L ++ [m]).length := (by simp); have h5' := own_snocR h5; have hl3 : (L ++ [m]).length ≤ L.length + 1 := Nat.le_of_eq hl2.symm; have HN : Hid (∀ s ∈ L ++ [m], s.name.size ≤ 11) := namesR_snoc HL.out hm; rw [hl2]; clear hl2 h5; have hc5 := hcM.own hg5 hoM hlt; have hg5' := grown_own hgM hoM hg5 hrw; clear hg5 hbM hrd hoM hcM hgM; generalize L ++ [m] = LL at *))
        go_ret
        exact ⟨A2, c2, LL, rfl, by omega, HN.out, own_base h5' hrw, hc5.more (by omega), hg5'⟩
      · have hv0' : (v == 0) = false := by simpa using hv0
        by_cases hv1 : v = 1
        · subst hv1
          go_wp2_with fail
          go_loopw [3, 7] (fun l q wr => ∃ (A' : Option Addr) (c' : Nat) (L : List Rul) (k : Nat), l = .slice A' L.length c' ∧ q = .int .i64 k ∧ k ≤ 10 ∧ L.length ≤ 10 ∧ Hid (∀ s ∈ L, s.name.size ≤ 11) ∧ Cur wr g (N + 210 + 4 * k) 66 ∧ wr.ownsRow r 27 7 (.slice A' L.length c') L.length (rulCells L) ∧ w.grownBy wr (some g)) (fun _ q _ => 11 - (intOf q).toNat)
          case atStart => exact ⟨A', c', L, 0, rfl, rfl, by omega, by omega, HL, hc.more (by omega), ho, hg⟩
          case round =>
            clear hc ho hg hhs HL hL8 hk7 hkI hk0
            obtain ⟨A', c', L, k, rfl, rfl, hk10, hL10, HL, hc, ho, hg⟩ := hrel
            generalize wr = W at *
            go_wp2_with fail
            refine (pick_any g _ 2 _ hc (by omega)).mono ?_
            rintro e w9 ⟨y0, rfl, hy, hc9, hg9⟩
            replace ho := World.ownsRow.kept ho hg9 (.inr (Ne.symm (own_ne ho hlt)))
            replace hg := grown_trans hg hg9
            replace hc := hc9
            clear hc9 hg9
            generalize w9 = W at *
            have hhs : r ≤ W.heap.size := by have := hg.size; omega
            have hyw : IntKind.i64.wrap (8 + y0) = 8 + y0 := by rw [IntKind.wrap_i64]; omega
            by_cases hle : (L.length : Int) < 8 + y0 ∧ k < 10
            · obtain ⟨hle1, hk9⟩ := hle
              have hL9 : L.length ≤ 8 := by omega
              have hkI : (k : Int) < 10 := by omega
              have hw1 : IntKind.i64.wrap (11 + (k : Int)) = 11 + (k : Int) := by rw [IntKind.wrap_i64]; omega
              have hw3 : IntKind.i64.wrap ((k : Int) + 1) = (k : Int) + 1 := by rw [IntKind.wrap_i64]; omega
              obtain ⟨q, ht8, hq8⟩ : ∃ q : Nat, (k : Int).tmod 8 = (q : Int) ∧ q < 8 := ⟨k % 8, by rw [Int.tmod_eq_emod_of_nonneg (by omega)]; omega, by omega⟩
              have hqI : (q : Int) ≤ 8 := by omega
              have bL := (bnew (Below.refl W.heap.size W) (.cells #[.string ⟨#[97]⟩, .string ⟨#[98]⟩] 9)).drew
              have rL : Rd (W.alloc (.cells #[.string ⟨#[97]⟩, .string ⟨#[98]⟩] 9)).drew (some ⟨W.heap.size, 0, none⟩) [.string ⟨#[97]⟩, .string ⟨#[98]⟩] := (rd_new' W #[.string ⟨#[97]⟩, .string ⟨#[98]⟩] 9).drew
              have hz : ((⟨#[97, 98, 99, 100, 101, 102, 103, 104]⟩ : ByteArray).extract 0 q).size ≤ 7 := by rw [ByteArray.size_extract]; omega
              go_wp2_with fail
              go_region_held3 (fun _ => True) (trivial) ((first | (go_at_call 67; refine (of_any g _ _ 2 2 1 _ _ (hc.below bL) (by omega) rfl (by decide) (by decide) rL rfl (fun ad e => by cases e; simp; omega)).mono ?_; rintro e w9 ⟨y, rfl, hy1, hc9, hg9⟩; have hr0 : ∀ w, (Op.stringOp .add ⟨#[120]⟩ y).run Tryd.prog w = .ok (.string (⟨#[120]⟩ ++ y)) w := add_run 1 1 (by decide) hy1 (by decide); have hz0 : (⟨#[120]⟩ ++ y : ByteArray).size ≤ 2 := app_le (m := 1) (n := 1) (by decide) hy1; have hr1 : ∀ w, (Op.stringOp .add (⟨#[120]⟩ ++ y) ((⟨#[97, 98, 99, 100, 101, 102, 103, 104]⟩ : ByteArray).extract 0 q)).run Tryd.prog w = .ok (.string (⟨#[120]⟩ ++ y ++ ((⟨#[97, 98, 99, 100, 101, 102, 103, 104]⟩ : ByteArray).extract 0 q))) w := add_run 2 7 hz0 hz (by decide); have ho9 := (own_below ho bL).kept hg9 (.inr (Ne.symm (own_ne (own_below ho bL) hlt))); have hg99 := grown_trans (grown_below hg bL) hg9; have bM := (bnew (Below.refl w9.heap.size w9) (.cells #[.int .i64 (11 + (k : Int)), .string (⟨#[120]⟩ ++ y ++ ((⟨#[97, 98, 99, 100, 101, 102, 103, 104]⟩ : ByteArray).extract 0 q)), .int .i64 3, .bool false, .bool false, .bool false, .int .i64 1] 27)).drew; have bP := bnew (Below.refl w9.heap.size w9) (.cells #[.int .i64 (11 + (k : Int)), .string (⟨#[120]⟩ ++ y ++ ((⟨#[97, 98, 99, 100, 101, 102, 103, 104]⟩ : ByteArray).extract 0 q)), .int .i64 3, .bool false, .bool false, .bool false, .int .i64 1] 27); have hoM := own_below ho9 bM; have hoP := own_below ho9 bP; have hcM := hc9.below bP; have hgM := grown_below hg99 bP; have hrd : Rd (w9.alloc (.cells #[.int .i64 (11 + (k : Int)), .string (⟨#[120]⟩ ++ y ++ ((⟨#[97, 98, 99, 100, 101, 102, 103, 104]⟩ : ByteArray).extract 0 q)), .int .i64 3, .bool false, .bool false, .bool false, .int .i64 1] 27)).drew (some ⟨w9.heap.size, 0, none⟩) [.int .i64 (11 + (k : Int)), .string (⟨#[120]⟩ ++ y ++ ((⟨#[97, 98, 99, 100, 101, 102, 103, 104]⟩ : ByteArray).extract 0 q)), .int .i64 3, .bool false, .bool false, .bool false, .int .i64 1] := (rd_new' w9 #[.int .i64 (11 + (k : Int)), .string (⟨#[120]⟩ ++ y ++ ((⟨#[97, 98, 99, 100, 101, 102, 103, 104]⟩ : ByteArray).extract 0 q)), .int .i64 3, .bool false, .bool false, .bool false, .int .i64 1] 27).drew; have hM1 : ∀ u ∈ ([.int .i64 (11 + (k : Int)), .string (⟨#[120]⟩ ++ y ++ ((⟨#[97, 98, 99, 100, 101, 102, 103, 104]⟩ : ByteArray).extract 0 q)), .int .i64 3, .bool false, .bool false, .bool false, .int .i64 1] : List Value), u.oneCell' = true := rul_one _ _ _ _ _ _ _; have hszM : r ≤ (w9.alloc (.cells #[.int .i64 (11 + (k : Int)), .string (⟨#[120]⟩ ++ y ++ ((⟨#[97, 98, 99, 100, 101, 102, 103, 104]⟩ : ByteArray).extract 0 q)), .int .i64 3, .bool false, .bool false, .bool false, .int .i64 1] 27)).drew.heap.size := Nat.le_trans hhs (Nat.le_trans bL.size (Nat.le_trans hg9.size bM.size)); have hm : (⟨11 + (k : Int), (⟨#[120]⟩ ++ y ++ ((⟨#[97, 98, 99, 100, 101, 102, 103, 104]⟩ : ByteArray).extract 0 q)), 3, false, false, false, 1⟩ : Rul).name.size ≤ 11 := (by show (⟨#[120]⟩ ++ y ++ ((⟨#[97, 98, 99, 100, 101, 102, 103, 104]⟩ : ByteArray).extract 0 q) : ByteArray).size ≤ 11; rw [ByteArray.size_append, ByteArray.size_append]; have : (⟨#[120]⟩ : ByteArray).size = 1 := rfl; omega)) | (refine step_app (by rfl) (.tmp 47) (.tmp 59) 33 (by rfl) el_Rul (v := .slice A' L.length c') (by rfl) hoM (by rfl) rfl hrd hM1 (by unfold maxLen; omega) (by omega) hszM ?_; intro A2 c2 w5 h5 hg5 _; have hl2 : L.length + 1 = (L ++ [(⟨11 + (k : Int), (⟨#[120]⟩ ++ y ++ ((⟨#[97, 98, 99, 100, 101, 102, 103, 104]⟩ : ByteArray).extract 0 q)), 3, false, false, false, 1⟩ : Rul)]).length := (by simp); have h5' := own_snocR (m := (⟨11 + (k : Int), (⟨#[120]⟩ ++ y ++ ((⟨#[97, 98, 99, 100, 101, 102, 103, 104]⟩ : ByteArray).extract 0 q)), 3, false, false, false, 1⟩ : Rul)) h5; have hl3 : (L ++ [(⟨11 + (k : Int), (⟨#[120]⟩ ++ y ++ ((⟨#[97, 98, 99, 100, 101, 102, 103, 104]⟩ : ByteArray).extract 0 q)), 3, false, false, false, 1⟩ : Rul)]).length ≤ L.length + 1 := Nat.le_of_eq hl2.symm; have HN : Hid (∀ s ∈ L ++ [(⟨11 + (k : Int), (⟨#[120]⟩ ++ y ++ ((⟨#[97, 98, 99, 100, 101, 102, 103, 104]⟩ : ByteArray).extract 0 q)), 3, false, false, false, 1⟩ : Rul)], s.name.size ≤ 11) := namesR_snoc HL.out hm; rw [hl2]; have hl4 := hl2.symm; clear hl2 h5; have hc5 := hcM.own hg5 hoP hlt; have hg5' := grown_own hgM hoP hg5 hrw; clear hg5 hrd hoM hoP hcM hgM hm hM1 hszM; generalize L ++ [(⟨11 + (k : Int), (⟨#[120]⟩ ++ y ++ ((⟨#[97, 98, 99, 100, 101, 102, 103, 104]⟩ : ByteArray).extract 0 q)), 3, false, false, false, 1⟩ : Rul)] = LL at *)))
              go_wp2_with fail
              go_roundw
              case rel => exact ⟨A2, c2, LL, k + 1, by rw [hl4], by go_num, by omega, by omega, HN, hc5.more (by omega), h5', hg5'⟩
              case measure => simp [intOf]; omega
            · by_cases hle1 : (L.length : Int) < 8 + y0
              · have hkI : ¬ (k : Int) < 10 := by omega
                go_wp2_with fail
                go_ret
                exact ⟨A', c', L, rfl, by omega, HL.out, own_base ho hrw, hc.more (by omega), hg⟩
              · go_wp2_with fail
                go_ret
                exact ⟨A', c', L, rfl, by omega, HL.out, own_base ho hrw, hc.more (by omega), hg⟩
        · have hv1' : (v == 1) = false := by simpa using hv1
          go_wp2
          go_ret
          exact ⟨A', c', L, rfl, by omega, HL.out, own_base ho hrw, hc.more (by omega), hg⟩
end Go.Proofs.YtfaphackdhdcaaaDoor
