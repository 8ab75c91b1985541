/-
  Draws of agenda items. Conditions: the cursor has gone on less than 2^39 times.
-/
import Derived.Test.YtfpjelpbeicdoaaGreatDoorCur
import Derived.Test.YtfpjelpbeicdoaaGreatDoorItm
import Derived.Test.YtfpjelpbeicdoaaGreatDoorSlItm
import Derived.Test.YtfpjelpbeicdoaaGreatDoorApp
import Derived.Test.YtfpjelpbeicdoaaGreatDoorLaw
namespace Go.My
open Go.RowKit
def insAt {α : Type} (xs : List α) (k : Nat) (x : α) : List α := xs.take k ++ x :: xs.drop k
theorem insAt_len {α : Type} (xs : List α) (k : Nat) (x : α) (hk : k ≤ xs.length) : (insAt xs k x).length = xs.length + 1 := by
  simp [insAt]; omega
theorem insAt_mem {α : Type} {xs : List α} {k : Nat} {x y : α} (h : y ∈ insAt xs k x) : y = x ∨ y ∈ xs := by
  unfold insAt at h
  rcases List.mem_append.1 h with h | h
  · exact .inr (List.mem_of_mem_take h)
  · rcases List.mem_cons.1 h with h | h
    · exact .inl h
    · exact .inr (List.mem_of_mem_drop h)
theorem rd_new' (w : World) (cs : Array Value) (e : TypeId) : Rd (w.alloc (.cells cs e)) (some ⟨w.heap.size, 0, none⟩) cs.toList := by
  refine .inr ⟨_, _, rfl, fun j hj => ?_⟩
  rw [Nat.zero_add, World.cell?_alloc_at _ _ _ _ rfl]
  simp only [Array.length_toList] at hj
  simp [hj]
theorem own_le {w : World} {B : Nat} {e : TypeId} {size n c : Nat} {A : Option Addr} {cells : List Value} (h : w.ownsRow B e size (.slice A n c) n cells) : n ≤ c := by
  obtain ⟨A0, c0, e0, hnc⟩ := own_form h
  simp only [Value.slice.injEq, true_and] at e0
  obtain ⟨rfl, rfl⟩ := e0
  exact hnc
theorem cell_below' {w w' : World} {p : Addr} {v : Value} (h : w.cell? p = some v) (hb : Below w.heap.size w w') : w'.cell? p = some v := (hb.cell (World.block_lt_of_cell? w _ h)).trans h
theorem own_ne2 {w : World} {B : Nat} {e : TypeId} {size n : Nat} {v : Value} {xs : List Value} (h : w.ownsRow B e size v n xs) : some w.heap.size ≠ v.ownBlock := fun e => by have := (h.lt _ e.symm).2; omega
theorem Blk.setj {w : World} {g : Nat} {e : TypeId} {L : List Value} (h : Blk w g e L) (j : Nat) (v : Value) : Blk (w.setCell ⟨g, j, none⟩ v) g e (L.set j v) := by
  unfold Blk at *; simpa using heap_setCell_same w g j _ e v h
theorem Blk.oset {w : World} {g h : Nat} {e : TypeId} {L : List Value} (hb : Blk w g e L) (hne : g ≠ h) (j : Nat) (v : Value) : Blk (w.setCell ⟨h, j, none⟩ v) g e L := hb.grown (grown_set (World.grownBy.refl w (some h)) j v) (by simpa using hne)
theorem Cur.set {w : World} {g N : Nat} {t : TypeId} (h : Cur w g N t) {k : Nat} (hk : g < k) (j : Nat) (v : Value) : Cur (w.setCell ⟨k, j, none⟩ v) g N t := h.kept (grown_set (World.grownBy.refl w (some k)) j v) (fun q hq => by cases hq; exact hk)
theorem grown_set_new {w w' : World} {row : Option Nat} (h : w.grownBy w' row) {k : Nat} (hk : w.heap.size ≤ k) (j : Nat) (v : Value) : w.grownBy (w'.setCell ⟨k, j, none⟩ v) row :=
  grown_new h (grown_set (World.grownBy.refl w' (some k)) j v) hk
theorem own_top {w : World} {B : Nat} {e : TypeId} {size n : Nat} {v : Value} {xs : List Value} (ho : w.ownsRow B e size v n xs) : ∀ k, v.ownBlock = some k → k < w.heap.size := fun k hk => (ho.lt k hk).2
theorem own_kept2 {w w' : World} {B M : Nat} {e e2 : TypeId} {size n s2 n2 : Nat} {v v2 : Value} {xs ys : List Value} (ho : w.ownsRow B e size v n xs) (ht : ∀ k, v.ownBlock = some k → k < M) (hg : w.grownBy w' v2.ownBlock) (h2 : w.ownsRow M e2 s2 v2 n2 ys) : w'.ownsRow B e size v n xs := by
  refine ho.kept hg ?_
  cases hv : v.ownBlock with
  | none => exact .inl rfl
  | some k => exact .inr (fun e => by have := (h2.lt k e.symm).1; have := ht k hv; omega)
theorem grown_own {w w1 w2 : World} {row : Option Nat} {B : Nat} {e : TypeId} {size n : Nat} {v : Value} {xs : List Value} (h : w.grownBy w1 row) (ho : w1.ownsRow B e size v n xs) (h2 : w1.grownBy w2 v.ownBlock) (hB : w.heap.size ≤ B) : w.grownBy w2 row := by
  cases hv : v.ownBlock with
  | none => rw [hv] at h2; exact grown_trans h (grown_wide h2)
  | some k => rw [hv] at h2; exact grown_new h h2 (Nat.le_trans hB (ho.lt k hv).1)
theorem Cur.own {w w' : World} {g N B : Nat} {t e : TypeId} {size n : Nat} {v : Value} {xs : List Value} (h : Cur w g N t) (hg : w.grownBy w' v.ownBlock) (ho : w.ownsRow B e size v n xs) (hB : g < B) : Cur w' g N t := h.kept hg (fun k hk => by have := (ho.lt k hk).1; omega)
end Go.My
namespace Go.Proofs.YtfpjelpbeicdoaaGreatDoor
open Go.RowKit Go.My
set_option maxHeartbeats 16000000 in
theorem agendaItem_any (g N : Nat) (id : Int) (w : World) (h : Cur w g N 47) (hN : N ≤ 500000000000) :
    Calls Tryz.prog 46 #[.pointer (some ⟨g, 0, none⟩), .int .i64 id] w fun e w' => ∃ m : Itm, e = .returned (.agg #[.int .i64 m.id, .string m.title, .int .i64 m.mins, .int .i64 m.time]) ∧ m.title.size ≤ 11 ∧ Cur w' g (N + 12) 47 ∧ w.grownBy w' (some g) := by
  have hlt := h.lt
  go_enter Tryz.func46, Tryz.ntmps46
  go_wp2_with fail
  have hbz := bnew (Below.refl w.heap.size w) (.cells #[.int .i64 0, .string ⟨#[]⟩, .int .i64 0, .int .i64 0] 34)
  refine (word_any g N _ (h.below hbz) (by omega)).mono ?_
  rintro e w1 ⟨s, rfl, hs, hc, hg1⟩
  have hg := grown_trans (grown_wide (row := some g) (grown_alloc w (.cells #[.int .i64 0, .string ⟨#[]⟩, .int .i64 0, .int .i64 0] 34))) hg1
  have RB : Blk w1 w.heap.size 34 [.int .i64 0, .string ⟨#[]⟩, .int .i64 0, .int .i64 0] := (blk_made #[.int .i64 0, .string ⟨#[]⟩, .int .i64 0, .int .i64 0] rfl).grown hg1 (by simp; omega)
  clear hg1 h hbz
  have hlt1 := hc.lt
  have hbA := bnew (Below.refl w1.heap.size w1) (.cells #[.int .i64 1, .int .i64 5, .int .i64 10, .int .i64 25, .int .i64 60, .int .i64 240] 3)
  go_wp2_with fail
  refine (among_any g _ _ 6 6 _ (fun _ => true) _ (hc.below hbA) (by omega) rfl (by decide) (by decide) Rd.made (by decide) (fun ad e => by cases e; simp; omega)).mono ?_
  rintro e w2 ⟨mi, rfl, -, hc9, hg9⟩
  replace RB := (RB.below hbA).grown hg9 (by simp; omega)
  replace hg := grown_trans (grown_below hg hbA) hg9
  replace hc := hc9
  clear hc9 hg9 hbA
  have hsz := hg.size
  have hlr := RB.lt
  go_wp2_with fail
  have BB : Blk (w2.alloc (.cells #[.int .i64 id, .string s, .int .i64 mi, .int .i64 (-1)] 34)) w2.heap.size 34 [.int .i64 id, .string s, .int .i64 mi, .int .i64 (-1)] := blk_made #[.int .i64 id, .string s, .int .i64 mi, .int .i64 (-1)] rfl
  have hbw := bnew (Below.refl w2.heap.size w2) (.cells #[.int .i64 id, .string s, .int .i64 mi, .int .i64 (-1)] 34)
  replace RB := RB.below hbw
  replace hc := hc.below hbw
  replace hg := grown_below hg hbw
  have hgb : g < w2.heap.size := by omega
  have hwb : w.heap.size ≤ w2.heap.size := by omega
  have hgr := hlt
  have hrb : w.heap.size < w2.heap.size := hlr
  clear hbw hsz hlr hlt hlt1
  generalize w2.alloc (.cells #[.int .i64 id, .string s, .int .i64 mi, .int .i64 (-1)] 34) = W at *
  generalize w2.heap.size = b at *
  generalize hr : w.heap.size = r at RB hgr hrb ⊢
  have hwr : w.heap.size ≤ r := by omega
  clear hr
  refine (one_any g _ 2 _ hc (by omega)).mono ?_
  rintro e w9 ⟨q, rfl, hc9, hg9⟩
  replace RB := RB.grown hg9 (by simp; omega)
  replace BB := BB.grown hg9 (by simp; omega)
  replace hg := grown_trans hg hg9
  replace hc := hc9
  clear hc9 hg9
  generalize w9 = W at *
  cases q with
  | false =>
    go_wp2_with fail
    refine (pick_any g _ 60 _ hc (by omega)).mono ?_
    rintro e w9 ⟨v, rfl, hv, hc9, hg9⟩
    replace RB := RB.grown hg9 (by simp; omega)
    replace BB := BB.grown hg9 (by simp; omega)
    replace hg := grown_trans hg hg9
    replace hc := hc9
    clear hc9 hg9
    generalize w9 = W at *
    by_cases hv0 : v = 0
    · subst hv0
      have hlt := hc.lt
      have hbA := bnew (Below.refl W.heap.size W) (.cells #[.int .i64 0, .int .i64 99, .int .i64 100] 3)
      go_wp2_with fail
      refine (among_any g _ _ 3 3 _ (fun _ => true) _ (hc.below hbA) (by omega) rfl (by decide) (by decide) Rd.made (by decide) (fun ad e => by cases e; simp; omega)).mono ?_
      rintro e w9 ⟨a, rfl, -, hc9, hg9⟩
      replace RB := (RB.below hbA).grown hg9 (by simp; omega)
      replace BB := (BB.below hbA).grown hg9 (by simp; omega)
      replace hg := grown_trans (grown_below hg hbA) hg9
      replace hc := hc9
      clear hc9 hg9 hbA hlt
      generalize w9 = W at *
      have zb := blk_frozen BB 0
      have kbj := blk_cell BB (j := 0) rfl
      have BB1 : Blk (W.setCell ⟨b, 0, none⟩ (.int .i64 a)) b 34 [.int .i64 a, .string s, .int .i64 mi, .int .i64 (-1)] := Blk.setj BB 0 (.int .i64 a)
      have RB1 := RB.oset (g := r) (h := b) (by omega) 0 (.int .i64 a)
      have hc1 := hc.set (k := b) hgb 0 (.int .i64 a)
      have hg1 := grown_set_new hg hwb 0 (.int .i64 a)
      have kb0 := blk_cell BB1 (j := 0) rfl
      have z0 := blk_frozen RB1 0
      have r0 := blk_cell RB1 (j := 0) rfl
      have kb1 := blk_cell BB1 (j := 1) rfl
      have z1 := blk_frozen RB1 1
      have r1 := blk_cell RB1 (j := 1) rfl
      have kb2 := blk_cell BB1 (j := 2) rfl
      have z2 := blk_frozen RB1 2
      have r2 := blk_cell RB1 (j := 2) rfl
      have kb3 := blk_cell BB1 (j := 3) rfl
      have z3 := blk_frozen RB1 3
      have r3 := blk_cell RB1 (j := 3) rfl
      go_wp2
      have RF := (Blk.setj (Blk.setj (Blk.setj (Blk.setj RB1 0 (.int .i64 a)) 1 (.string s)) 2 (.int .i64 mi)) 3 (.int .i64 (-1)))
      have f0 := blk_cell RF (j := 0) rfl
      have f1 := blk_cell RF (j := 1) rfl
      have f2 := blk_cell RF (j := 2) rfl
      have f3 := blk_cell RF (j := 3) rfl
      exact bodyPost_ret (v := .agg #[.int .i64 a, .string s, .int .i64 mi, .int .i64 (-1)]) (by simp [results, Tryz.results46, go_sem, f0, f1, f2, f3]) rfl ⟨⟨a, s, mi, (-1)⟩, rfl, (by first | exact hs | exact Nat.le_trans hs (by decide)), ((((hc1.set hgr 0 _).set hgr 1 _).set hgr 2 _).set hgr 3 _).more (by omega), (grown_set_new (grown_set_new (grown_set_new (grown_set_new hg1 hwr 0 _) hwr 1 _) hwr 2 _) hwr 3 _)⟩
    have hv0' : (v == 0) = false := by simpa using hv0
    by_cases hv1 : v = 1
    · subst hv1
      have hlt := hc.lt
      have hbA := bnew (Below.refl W.heap.size W) (.cells #[.int .i64 0, .int .i64 241] 3)
      go_wp2_with fail
      refine (among_any g _ _ 2 2 _ (fun _ => true) _ (hc.below hbA) (by omega) rfl (by decide) (by decide) Rd.made (by decide) (fun ad e => by cases e; simp; omega)).mono ?_
      rintro e w9 ⟨a, rfl, -, hc9, hg9⟩
      replace RB := (RB.below hbA).grown hg9 (by simp; omega)
      replace BB := (BB.below hbA).grown hg9 (by simp; omega)
      replace hg := grown_trans (grown_below hg hbA) hg9
      replace hc := hc9
      clear hc9 hg9 hbA hlt
      generalize w9 = W at *
      have zb := blk_frozen BB 2
      have kbj := blk_cell BB (j := 2) rfl
      have BB1 : Blk (W.setCell ⟨b, 2, none⟩ (.int .i64 a)) b 34 [.int .i64 id, .string s, .int .i64 a, .int .i64 (-1)] := Blk.setj BB 2 (.int .i64 a)
      have RB1 := RB.oset (g := r) (h := b) (by omega) 2 (.int .i64 a)
      have hc1 := hc.set (k := b) hgb 2 (.int .i64 a)
      have hg1 := grown_set_new hg hwb 2 (.int .i64 a)
      have kb0 := blk_cell BB1 (j := 0) rfl
      have z0 := blk_frozen RB1 0
      have r0 := blk_cell RB1 (j := 0) rfl
      have kb1 := blk_cell BB1 (j := 1) rfl
      have z1 := blk_frozen RB1 1
      have r1 := blk_cell RB1 (j := 1) rfl
      have kb2 := blk_cell BB1 (j := 2) rfl
      have z2 := blk_frozen RB1 2
      have r2 := blk_cell RB1 (j := 2) rfl
      have kb3 := blk_cell BB1 (j := 3) rfl
      have z3 := blk_frozen RB1 3
      have r3 := blk_cell RB1 (j := 3) rfl
      go_wp2
      have RF := (Blk.setj (Blk.setj (Blk.setj (Blk.setj RB1 0 (.int .i64 id)) 1 (.string s)) 2 (.int .i64 a)) 3 (.int .i64 (-1)))
      have f0 := blk_cell RF (j := 0) rfl
      have f1 := blk_cell RF (j := 1) rfl
      have f2 := blk_cell RF (j := 2) rfl
      have f3 := blk_cell RF (j := 3) rfl
      exact bodyPost_ret (v := .agg #[.int .i64 id, .string s, .int .i64 a, .int .i64 (-1)]) (by simp [results, Tryz.results46, go_sem, f0, f1, f2, f3]) rfl ⟨⟨id, s, a, (-1)⟩, rfl, (by first | exact hs | exact Nat.le_trans hs (by decide)), ((((hc1.set hgr 0 _).set hgr 1 _).set hgr 2 _).set hgr 3 _).more (by omega), (grown_set_new (grown_set_new (grown_set_new (grown_set_new hg1 hwr 0 _) hwr 1 _) hwr 2 _) hwr 3 _)⟩
    have hv1' : (v == 1) = false := by simpa using hv1
    by_cases hv2 : v = 2
    · subst hv2
      have hlt := hc.lt
      have hbA := bnew (Below.refl W.heap.size W) (.cells #[.int .i64 (-2), .int .i64 1440] 3)
      go_wp2_with fail
      refine (among_any g _ _ 2 2 _ (fun _ => true) _ (hc.below hbA) (by omega) rfl (by decide) (by decide) Rd.made (by decide) (fun ad e => by cases e; simp; omega)).mono ?_
      rintro e w9 ⟨a, rfl, -, hc9, hg9⟩
      replace RB := (RB.below hbA).grown hg9 (by simp; omega)
      replace BB := (BB.below hbA).grown hg9 (by simp; omega)
      replace hg := grown_trans (grown_below hg hbA) hg9
      replace hc := hc9
      clear hc9 hg9 hbA hlt
      generalize w9 = W at *
      have zb := blk_frozen BB 3
      have kbj := blk_cell BB (j := 3) rfl
      have BB1 : Blk (W.setCell ⟨b, 3, none⟩ (.int .i64 a)) b 34 [.int .i64 id, .string s, .int .i64 mi, .int .i64 a] := Blk.setj BB 3 (.int .i64 a)
      have RB1 := RB.oset (g := r) (h := b) (by omega) 3 (.int .i64 a)
      have hc1 := hc.set (k := b) hgb 3 (.int .i64 a)
      have hg1 := grown_set_new hg hwb 3 (.int .i64 a)
      have kb0 := blk_cell BB1 (j := 0) rfl
      have z0 := blk_frozen RB1 0
      have r0 := blk_cell RB1 (j := 0) rfl
      have kb1 := blk_cell BB1 (j := 1) rfl
      have z1 := blk_frozen RB1 1
      have r1 := blk_cell RB1 (j := 1) rfl
      have kb2 := blk_cell BB1 (j := 2) rfl
      have z2 := blk_frozen RB1 2
      have r2 := blk_cell RB1 (j := 2) rfl
      have kb3 := blk_cell BB1 (j := 3) rfl
      have z3 := blk_frozen RB1 3
      have r3 := blk_cell RB1 (j := 3) rfl
      go_wp2
      have RF := (Blk.setj (Blk.setj (Blk.setj (Blk.setj RB1 0 (.int .i64 id)) 1 (.string s)) 2 (.int .i64 mi)) 3 (.int .i64 a))
      have f0 := blk_cell RF (j := 0) rfl
      have f1 := blk_cell RF (j := 1) rfl
      have f2 := blk_cell RF (j := 2) rfl
      have f3 := blk_cell RF (j := 3) rfl
      exact bodyPost_ret (v := .agg #[.int .i64 id, .string s, .int .i64 mi, .int .i64 a]) (by simp [results, Tryz.results46, go_sem, f0, f1, f2, f3]) rfl ⟨⟨id, s, mi, a⟩, rfl, (by first | exact hs | exact Nat.le_trans hs (by decide)), ((((hc1.set hgr 0 _).set hgr 1 _).set hgr 2 _).set hgr 3 _).more (by omega), (grown_set_new (grown_set_new (grown_set_new (grown_set_new hg1 hwr 0 _) hwr 1 _) hwr 2 _) hwr 3 _)⟩
    have hv2' : (v == 2) = false := by simpa using hv2
    by_cases hv3 : v = 3
    · subst hv3
      have hlt := hc.lt
      have hbA := bnew (Below.refl W.heap.size W) (.cells #[.string ⟨#[]⟩, .string ⟨#[65]⟩, .string ⟨#[97, 98, 99, 100, 101, 102, 103, 104, 105, 106, 107]⟩] 9)
      go_wp2_with fail
      refine (of_any g _ _ 3 3 11 _ _ (hc.below hbA) (by omega) rfl (by decide) (by decide) Rd.made (by decide) (fun ad e => by cases e; simp; omega)).mono ?_
      rintro e w9 ⟨a, rfl, hs, hc9, hg9⟩
      replace RB := (RB.below hbA).grown hg9 (by simp; omega)
      replace BB := (BB.below hbA).grown hg9 (by simp; omega)
      replace hg := grown_trans (grown_below hg hbA) hg9
      replace hc := hc9
      clear hc9 hg9 hbA hlt
      generalize w9 = W at *
      have zb := blk_frozen BB 1
      have kbj := blk_cell BB (j := 1) rfl
      have BB1 : Blk (W.setCell ⟨b, 1, none⟩ (.string a)) b 34 [.int .i64 id, .string a, .int .i64 mi, .int .i64 (-1)] := Blk.setj BB 1 (.string a)
      have RB1 := RB.oset (g := r) (h := b) (by omega) 1 (.string a)
      have hc1 := hc.set (k := b) hgb 1 (.string a)
      have hg1 := grown_set_new hg hwb 1 (.string a)
      have kb0 := blk_cell BB1 (j := 0) rfl
      have z0 := blk_frozen RB1 0
      have r0 := blk_cell RB1 (j := 0) rfl
      have kb1 := blk_cell BB1 (j := 1) rfl
      have z1 := blk_frozen RB1 1
      have r1 := blk_cell RB1 (j := 1) rfl
      have kb2 := blk_cell BB1 (j := 2) rfl
      have z2 := blk_frozen RB1 2
      have r2 := blk_cell RB1 (j := 2) rfl
      have kb3 := blk_cell BB1 (j := 3) rfl
      have z3 := blk_frozen RB1 3
      have r3 := blk_cell RB1 (j := 3) rfl
      go_wp2
      have RF := (Blk.setj (Blk.setj (Blk.setj (Blk.setj RB1 0 (.int .i64 id)) 1 (.string a)) 2 (.int .i64 mi)) 3 (.int .i64 (-1)))
      have f0 := blk_cell RF (j := 0) rfl
      have f1 := blk_cell RF (j := 1) rfl
      have f2 := blk_cell RF (j := 2) rfl
      have f3 := blk_cell RF (j := 3) rfl
      exact bodyPost_ret (v := .agg #[.int .i64 id, .string a, .int .i64 mi, .int .i64 (-1)]) (by simp [results, Tryz.results46, go_sem, f0, f1, f2, f3]) rfl ⟨⟨id, a, mi, (-1)⟩, rfl, (by first | exact hs | exact Nat.le_trans hs (by decide)), ((((hc1.set hgr 0 _).set hgr 1 _).set hgr 2 _).set hgr 3 _).more (by omega), (grown_set_new (grown_set_new (grown_set_new (grown_set_new hg1 hwr 0 _) hwr 1 _) hwr 2 _) hwr 3 _)⟩
    have hv3' : (v == 3) = false := by simpa using hv3
    have kb0 := blk_cell BB (j := 0) rfl
    have z0 := blk_frozen RB 0
    have r0 := blk_cell RB (j := 0) rfl
    have kb1 := blk_cell BB (j := 1) rfl
    have z1 := blk_frozen RB 1
    have r1 := blk_cell RB (j := 1) rfl
    have kb2 := blk_cell BB (j := 2) rfl
    have z2 := blk_frozen RB 2
    have r2 := blk_cell RB (j := 2) rfl
    have kb3 := blk_cell BB (j := 3) rfl
    have z3 := blk_frozen RB 3
    have r3 := blk_cell RB (j := 3) rfl
    go_wp2
    have RF := (Blk.setj (Blk.setj (Blk.setj (Blk.setj RB 0 (.int .i64 id)) 1 (.string s)) 2 (.int .i64 mi)) 3 (.int .i64 (-1)))
    have f0 := blk_cell RF (j := 0) rfl
    have f1 := blk_cell RF (j := 1) rfl
    have f2 := blk_cell RF (j := 2) rfl
    have f3 := blk_cell RF (j := 3) rfl
    exact bodyPost_ret (v := .agg #[.int .i64 id, .string s, .int .i64 mi, .int .i64 (-1)]) (by simp [results, Tryz.results46, go_sem, f0, f1, f2, f3]) rfl ⟨⟨id, s, mi, (-1)⟩, rfl, (by first | exact hs | exact Nat.le_trans hs (by decide)), ((((hc.set hgr 0 _).set hgr 1 _).set hgr 2 _).set hgr 3 _).more (by omega), (grown_set_new (grown_set_new (grown_set_new (grown_set_new hg hwr 0 _) hwr 1 _) hwr 2 _) hwr 3 _)⟩
  | true =>
    have hlt := hc.lt
    have hbA := bnew (Below.refl W.heap.size W) (.cells #[.int .i64 0, .int .i64 540, .int .i64 570, .int .i64 600, .int .i64 1439] 3)
    go_wp2_with fail
    refine (among_any g _ _ 5 5 _ (fun _ => true) _ (hc.below hbA) (by omega) rfl (by decide) (by decide) Rd.made (by decide) (fun ad e => by cases e; simp; omega)).mono ?_
    rintro e w9 ⟨t, rfl, -, hc9, hg9⟩
    replace RB := (RB.below hbA).grown hg9 (by simp; omega)
    replace BB := (BB.below hbA).grown hg9 (by simp; omega)
    replace hg := grown_trans (grown_below hg hbA) hg9
    replace hc := hc9
    clear hc9 hg9 hbA hlt
    generalize w9 = W at *
    have zb := blk_frozen BB 3
    have kbj := blk_cell BB (j := 3) rfl
    go_wp2_with fail
    replace BB : Blk (W.setCell ⟨b, 3, none⟩ (.int .i64 t)) b 34 [.int .i64 id, .string s, .int .i64 mi, .int .i64 t] := Blk.setj BB 3 (.int .i64 t)
    replace RB := RB.oset (g := r) (h := b) (by omega) 3 (.int .i64 t)
    replace hc := hc.set (k := b) hgb 3 (.int .i64 t)
    replace hg := grown_set_new hg hwb 3 (.int .i64 t)
    generalize W.setCell ⟨b, 3, none⟩ (.int .i64 t) = W9 at *
    clear zb kbj
    generalize W9 = W at *
    refine (pick_any g _ 60 _ hc (by omega)).mono ?_
    rintro e w9 ⟨v, rfl, hv, hc9, hg9⟩
    replace RB := RB.grown hg9 (by simp; omega)
    replace BB := BB.grown hg9 (by simp; omega)
    replace hg := grown_trans hg hg9
    replace hc := hc9
    clear hc9 hg9
    generalize w9 = W at *
    by_cases hv0 : v = 0
    · subst hv0
      have hlt := hc.lt
      have hbA := bnew (Below.refl W.heap.size W) (.cells #[.int .i64 0, .int .i64 99, .int .i64 100] 3)
      go_wp2_with fail
      refine (among_any g _ _ 3 3 _ (fun _ => true) _ (hc.below hbA) (by omega) rfl (by decide) (by decide) Rd.made (by decide) (fun ad e => by cases e; simp; omega)).mono ?_
      rintro e w9 ⟨a, rfl, -, hc9, hg9⟩
      replace RB := (RB.below hbA).grown hg9 (by simp; omega)
      replace BB := (BB.below hbA).grown hg9 (by simp; omega)
      replace hg := grown_trans (grown_below hg hbA) hg9
      replace hc := hc9
      clear hc9 hg9 hbA hlt
      generalize w9 = W at *
      have zb := blk_frozen BB 0
      have kbj := blk_cell BB (j := 0) rfl
      have BB1 : Blk (W.setCell ⟨b, 0, none⟩ (.int .i64 a)) b 34 [.int .i64 a, .string s, .int .i64 mi, .int .i64 t] := Blk.setj BB 0 (.int .i64 a)
      have RB1 := RB.oset (g := r) (h := b) (by omega) 0 (.int .i64 a)
      have hc1 := hc.set (k := b) hgb 0 (.int .i64 a)
      have hg1 := grown_set_new hg hwb 0 (.int .i64 a)
      have kb0 := blk_cell BB1 (j := 0) rfl
      have z0 := blk_frozen RB1 0
      have r0 := blk_cell RB1 (j := 0) rfl
      have kb1 := blk_cell BB1 (j := 1) rfl
      have z1 := blk_frozen RB1 1
      have r1 := blk_cell RB1 (j := 1) rfl
      have kb2 := blk_cell BB1 (j := 2) rfl
      have z2 := blk_frozen RB1 2
      have r2 := blk_cell RB1 (j := 2) rfl
      have kb3 := blk_cell BB1 (j := 3) rfl
      have z3 := blk_frozen RB1 3
      have r3 := blk_cell RB1 (j := 3) rfl
      go_wp2
      have RF := (Blk.setj (Blk.setj (Blk.setj (Blk.setj RB1 0 (.int .i64 a)) 1 (.string s)) 2 (.int .i64 mi)) 3 (.int .i64 t))
      have f0 := blk_cell RF (j := 0) rfl
      have f1 := blk_cell RF (j := 1) rfl
      have f2 := blk_cell RF (j := 2) rfl
      have f3 := blk_cell RF (j := 3) rfl
      exact bodyPost_ret (v := .agg #[.int .i64 a, .string s, .int .i64 mi, .int .i64 t]) (by simp [results, Tryz.results46, go_sem, f0, f1, f2, f3]) rfl ⟨⟨a, s, mi, t⟩, rfl, (by first | exact hs | exact Nat.le_trans hs (by decide)), ((((hc1.set hgr 0 _).set hgr 1 _).set hgr 2 _).set hgr 3 _).more (by omega), (grown_set_new (grown_set_new (grown_set_new (grown_set_new hg1 hwr 0 _) hwr 1 _) hwr 2 _) hwr 3 _)⟩
    have hv0' : (v == 0) = false := by simpa using hv0
    by_cases hv1 : v = 1
    · subst hv1
      have hlt := hc.lt
      have hbA := bnew (Below.refl W.heap.size W) (.cells #[.int .i64 0, .int .i64 241] 3)
      go_wp2_with fail
      refine (among_any g _ _ 2 2 _ (fun _ => true) _ (hc.below hbA) (by omega) rfl (by decide) (by decide) Rd.made (by decide) (fun ad e => by cases e; simp; omega)).mono ?_
      rintro e w9 ⟨a, rfl, -, hc9, hg9⟩
      replace RB := (RB.below hbA).grown hg9 (by simp; omega)
      replace BB := (BB.below hbA).grown hg9 (by simp; omega)
      replace hg := grown_trans (grown_below hg hbA) hg9
      replace hc := hc9
      clear hc9 hg9 hbA hlt
      generalize w9 = W at *
      have zb := blk_frozen BB 2
      have kbj := blk_cell BB (j := 2) rfl
      have BB1 : Blk (W.setCell ⟨b, 2, none⟩ (.int .i64 a)) b 34 [.int .i64 id, .string s, .int .i64 a, .int .i64 t] := Blk.setj BB 2 (.int .i64 a)
      have RB1 := RB.oset (g := r) (h := b) (by omega) 2 (.int .i64 a)
      have hc1 := hc.set (k := b) hgb 2 (.int .i64 a)
      have hg1 := grown_set_new hg hwb 2 (.int .i64 a)
      have kb0 := blk_cell BB1 (j := 0) rfl
      have z0 := blk_frozen RB1 0
      have r0 := blk_cell RB1 (j := 0) rfl
      have kb1 := blk_cell BB1 (j := 1) rfl
      have z1 := blk_frozen RB1 1
      have r1 := blk_cell RB1 (j := 1) rfl
      have kb2 := blk_cell BB1 (j := 2) rfl
      have z2 := blk_frozen RB1 2
      have r2 := blk_cell RB1 (j := 2) rfl
      have kb3 := blk_cell BB1 (j := 3) rfl
      have z3 := blk_frozen RB1 3
      have r3 := blk_cell RB1 (j := 3) rfl
      go_wp2
      have RF := (Blk.setj (Blk.setj (Blk.setj (Blk.setj RB1 0 (.int .i64 id)) 1 (.string s)) 2 (.int .i64 a)) 3 (.int .i64 t))
      have f0 := blk_cell RF (j := 0) rfl
      have f1 := blk_cell RF (j := 1) rfl
      have f2 := blk_cell RF (j := 2) rfl
      have f3 := blk_cell RF (j := 3) rfl
      exact bodyPost_ret (v := .agg #[.int .i64 id, .string s, .int .i64 a, .int .i64 t]) (by simp [results, Tryz.results46, go_sem, f0, f1, f2, f3]) rfl ⟨⟨id, s, a, t⟩, rfl, (by first | exact hs | exact Nat.le_trans hs (by decide)), ((((hc1.set hgr 0 _).set hgr 1 _).set hgr 2 _).set hgr 3 _).more (by omega), (grown_set_new (grown_set_new (grown_set_new (grown_set_new hg1 hwr 0 _) hwr 1 _) hwr 2 _) hwr 3 _)⟩
    have hv1' : (v == 1) = false := by simpa using hv1
    by_cases hv2 : v = 2
    · subst hv2
      have hlt := hc.lt
      have hbA := bnew (Below.refl W.heap.size W) (.cells #[.int .i64 (-2), .int .i64 1440] 3)
      go_wp2_with fail
      refine (among_any g _ _ 2 2 _ (fun _ => true) _ (hc.below hbA) (by omega) rfl (by decide) (by decide) Rd.made (by decide) (fun ad e => by cases e; simp; omega)).mono ?_
      rintro e w9 ⟨a, rfl, -, hc9, hg9⟩
      replace RB := (RB.below hbA).grown hg9 (by simp; omega)
      replace BB := (BB.below hbA).grown hg9 (by simp; omega)
      replace hg := grown_trans (grown_below hg hbA) hg9
      replace hc := hc9
      clear hc9 hg9 hbA hlt
      generalize w9 = W at *
      have zb := blk_frozen BB 3
      have kbj := blk_cell BB (j := 3) rfl
      have BB1 : Blk (W.setCell ⟨b, 3, none⟩ (.int .i64 a)) b 34 [.int .i64 id, .string s, .int .i64 mi, .int .i64 a] := Blk.setj BB 3 (.int .i64 a)
      have RB1 := RB.oset (g := r) (h := b) (by omega) 3 (.int .i64 a)
      have hc1 := hc.set (k := b) hgb 3 (.int .i64 a)
      have hg1 := grown_set_new hg hwb 3 (.int .i64 a)
      have kb0 := blk_cell BB1 (j := 0) rfl
      have z0 := blk_frozen RB1 0
      have r0 := blk_cell RB1 (j := 0) rfl
      have kb1 := blk_cell BB1 (j := 1) rfl
      have z1 := blk_frozen RB1 1
      have r1 := blk_cell RB1 (j := 1) rfl
      have kb2 := blk_cell BB1 (j := 2) rfl
      have z2 := blk_frozen RB1 2
      have r2 := blk_cell RB1 (j := 2) rfl
      have kb3 := blk_cell BB1 (j := 3) rfl
      have z3 := blk_frozen RB1 3
      have r3 := blk_cell RB1 (j := 3) rfl
      go_wp2
      have RF := (Blk.setj (Blk.setj (Blk.setj (Blk.setj RB1 0 (.int .i64 id)) 1 (.string s)) 2 (.int .i64 mi)) 3 (.int .i64 a))
      have f0 := blk_cell RF (j := 0) rfl
      have f1 := blk_cell RF (j := 1) rfl
      have f2 := blk_cell RF (j := 2) rfl
      have f3 := blk_cell RF (j := 3) rfl
      exact bodyPost_ret (v := .agg #[.int .i64 id, .string s, .int .i64 mi, .int .i64 a]) (by simp [results, Tryz.results46, go_sem, f0, f1, f2, f3]) rfl ⟨⟨id, s, mi, a⟩, rfl, (by first | exact hs | exact Nat.le_trans hs (by decide)), ((((hc1.set hgr 0 _).set hgr 1 _).set hgr 2 _).set hgr 3 _).more (by omega), (grown_set_new (grown_set_new (grown_set_new (grown_set_new hg1 hwr 0 _) hwr 1 _) hwr 2 _) hwr 3 _)⟩
    have hv2' : (v == 2) = false := by simpa using hv2
    by_cases hv3 : v = 3
    · subst hv3
      have hlt := hc.lt
      have hbA := bnew (Below.refl W.heap.size W) (.cells #[.string ⟨#[]⟩, .string ⟨#[65]⟩, .string ⟨#[97, 98, 99, 100, 101, 102, 103, 104, 105, 106, 107]⟩] 9)
      go_wp2_with fail
      refine (of_any g _ _ 3 3 11 _ _ (hc.below hbA) (by omega) rfl (by decide) (by decide) Rd.made (by decide) (fun ad e => by cases e; simp; omega)).mono ?_
      rintro e w9 ⟨a, rfl, hs, hc9, hg9⟩
      replace RB := (RB.below hbA).grown hg9 (by simp; omega)
      replace BB := (BB.below hbA).grown hg9 (by simp; omega)
      replace hg := grown_trans (grown_below hg hbA) hg9
      replace hc := hc9
      clear hc9 hg9 hbA hlt
      generalize w9 = W at *
      have zb := blk_frozen BB 1
      have kbj := blk_cell BB (j := 1) rfl
      have BB1 : Blk (W.setCell ⟨b, 1, none⟩ (.string a)) b 34 [.int .i64 id, .string a, .int .i64 mi, .int .i64 t] := Blk.setj BB 1 (.string a)
      have RB1 := RB.oset (g := r) (h := b) (by omega) 1 (.string a)
      have hc1 := hc.set (k := b) hgb 1 (.string a)
      have hg1 := grown_set_new hg hwb 1 (.string a)
      have kb0 := blk_cell BB1 (j := 0) rfl
      have z0 := blk_frozen RB1 0
      have r0 := blk_cell RB1 (j := 0) rfl
      have kb1 := blk_cell BB1 (j := 1) rfl
      have z1 := blk_frozen RB1 1
      have r1 := blk_cell RB1 (j := 1) rfl
      have kb2 := blk_cell BB1 (j := 2) rfl
      have z2 := blk_frozen RB1 2
      have r2 := blk_cell RB1 (j := 2) rfl
      have kb3 := blk_cell BB1 (j := 3) rfl
      have z3 := blk_frozen RB1 3
      have r3 := blk_cell RB1 (j := 3) rfl
      go_wp2
      have RF := (Blk.setj (Blk.setj (Blk.setj (Blk.setj RB1 0 (.int .i64 id)) 1 (.string a)) 2 (.int .i64 mi)) 3 (.int .i64 t))
      have f0 := blk_cell RF (j := 0) rfl
      have f1 := blk_cell RF (j := 1) rfl
      have f2 := blk_cell RF (j := 2) rfl
      have f3 := blk_cell RF (j := 3) rfl
      exact bodyPost_ret (v := .agg #[.int .i64 id, .string a, .int .i64 mi, .int .i64 t]) (by simp [results, Tryz.results46, go_sem, f0, f1, f2, f3]) rfl ⟨⟨id, a, mi, t⟩, rfl, (by first | exact hs | exact Nat.le_trans hs (by decide)), ((((hc1.set hgr 0 _).set hgr 1 _).set hgr 2 _).set hgr 3 _).more (by omega), (grown_set_new (grown_set_new (grown_set_new (grown_set_new hg1 hwr 0 _) hwr 1 _) hwr 2 _) hwr 3 _)⟩
    have hv3' : (v == 3) = false := by simpa using hv3
    have kb0 := blk_cell BB (j := 0) rfl
    have z0 := blk_frozen RB 0
    have r0 := blk_cell RB (j := 0) rfl
    have kb1 := blk_cell BB (j := 1) rfl
    have z1 := blk_frozen RB 1
    have r1 := blk_cell RB (j := 1) rfl
    have kb2 := blk_cell BB (j := 2) rfl
    have z2 := blk_frozen RB 2
    have r2 := blk_cell RB (j := 2) rfl
    have kb3 := blk_cell BB (j := 3) rfl
    have z3 := blk_frozen RB 3
    have r3 := blk_cell RB (j := 3) rfl
    go_wp2
    have RF := (Blk.setj (Blk.setj (Blk.setj (Blk.setj RB 0 (.int .i64 id)) 1 (.string s)) 2 (.int .i64 mi)) 3 (.int .i64 t))
    have f0 := blk_cell RF (j := 0) rfl
    have f1 := blk_cell RF (j := 1) rfl
    have f2 := blk_cell RF (j := 2) rfl
    have f3 := blk_cell RF (j := 3) rfl
    exact bodyPost_ret (v := .agg #[.int .i64 id, .string s, .int .i64 mi, .int .i64 t]) (by simp [results, Tryz.results46, go_sem, f0, f1, f2, f3]) rfl ⟨⟨id, s, mi, t⟩, rfl, (by first | exact hs | exact Nat.le_trans hs (by decide)), ((((hc.set hgr 0 _).set hgr 1 _).set hgr 2 _).set hgr 3 _).more (by omega), (grown_set_new (grown_set_new (grown_set_new (grown_set_new hg hwr 0 _) hwr 1 _) hwr 2 _) hwr 3 _)⟩
end Go.Proofs.YtfpjelpbeicdoaaGreatDoor
