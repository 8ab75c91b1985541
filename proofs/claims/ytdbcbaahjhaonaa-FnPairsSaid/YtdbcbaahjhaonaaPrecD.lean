/-
  Draws of precedences and kinds. Conditions: the cursor has gone on less than 2^39 times.
-/
import Derived.Test.YtdbcbaahjhaonaaCur
import Derived.Test.YtdbcbaahjhaonaaAdd
import Derived.Deep.RegionHeld3
namespace Go.My
open Go.RowKit
theorem Blk.setj {w : World} {g : Nat} {e : TypeId} {L : List Value} (h : Blk w g e L) (j : Nat) (v : Value) : Blk (w.setCell ⟨g, j, none⟩ v) g e (L.set j v) := by
  unfold Blk at *; simpa using heap_setCell_same w g j _ e v h
theorem Blk.oset {w : World} {g h : Nat} {e : TypeId} {L : List Value} (hb : Blk w g e L) (hne : g ≠ h) (j : Nat) (v : Value) : Blk (w.setCell ⟨h, j, none⟩ v) g e L := hb.grown (grown_set (World.grownBy.refl w (some h)) j v) (by simpa using hne)
theorem Cur.set {w : World} {g N : Nat} {t : TypeId} (h : Cur w g N t) {k : Nat} (hk : g < k) (j : Nat) (v : Value) : Cur (w.setCell ⟨k, j, none⟩ v) g N t := h.kept (grown_set (World.grownBy.refl w (some k)) j v) (fun q hq => by cases hq; exact hk)
theorem grown_set_new {w w' : World} {row : Option Nat} (h : w.grownBy w' row) {k : Nat} (hk : w.heap.size ≤ k) (j : Nat) (v : Value) : w.grownBy (w'.setCell ⟨k, j, none⟩ v) row :=
  grown_new h (grown_set (World.grownBy.refl w' (some k)) j v) hk
theorem own_top {w : World} {B : Nat} {e : TypeId} {size n : Nat} {v : Value} {xs : List Value} (ho : w.ownsRow B e size v n xs) : ∀ k, v.ownBlock = some k → k < w.heap.size := fun k hk => (ho.lt k hk).2
theorem own_kept2 {w w' : World} {B M : Nat} {e e2 : TypeId} {size n s2 n2 : Nat} {v v2 : Value} {xs ys : List Value} (ho : w.ownsRow B e size v n xs) (ht : ∀ k, v.ownBlock = some k → k < M) (hg : w.grownBy w' v2.ownBlock) (h2 : w.ownsRow M e2 s2 v2 n2 ys) : w'.ownsRow B e size v n xs := by
  refine ho.kept hg ?_
  cases hv : v.ownBlock with
  | none => exact .inl rfl
  | some k => exact .inr (fun e => by have := (h2.lt k e.symm).1; have := ht k hv; omega)
theorem grown_own {w w1 w2 : World} {row : Option Nat} {B : Nat} {e : TypeId} {size n : Nat} {v : Value} {xs : List Value} (h : w.grownBy w1 row) (ho : w1.ownsRow B e size v n xs) (h2 : w1.grownBy w2 v.ownBlock) (hB : w.heap.size ≤ B) : w.grownBy w2 row := by
  cases hv : v.ownBlock with
  | none => rw [hv] at h2; exact grown_trans h (grown_wide h2)
  | some k => rw [hv] at h2; exact grown_new h h2 (Nat.le_trans hB (ho.lt k hv).1)
theorem Cur.own {w w' : World} {g N B : Nat} {t e : TypeId} {size n : Nat} {v : Value} {xs : List Value} (h : Cur w g N t) (hg : w.grownBy w' v.ownBlock) (ho : w.ownsRow B e size v n xs) (hB : g < B) : Cur w' g N t := h.kept hg (fun k hk => by have := (ho.lt k hk).1; omega)
/-- A call that hands back one value, whatever the order; what it makes is nobody's. -/
def valS (cons : List Nat) (v : Value) : LS where
  cons := cons
  ok u := u = v
  V _ _ := True
  fp _ := []
  loc _ _ _ _ _ _ := trivial
  ne := ⟨v, rfl⟩
theorem ob_val {P : Program} {w0 : World} {F : List Nat} {τ : Nat → Option LS} {ds : List Nat} {v : Value} {o : Oper} {a : Go.Act} {U : Nat → Value}
    (h : ∀ w, ClP w0 F w → Has τ ds U w → stepTo P o a w (fun u w' => u = v ∧ Below w.heap.size w w')) : Ob P w0 F τ (valS ds v) o a U := fun w hw hd => by
  have h1 := h w hw hd
  unfold stepTo at h1 ⊢
  have fin : ∀ u w', u = v ∧ Below w.heap.size w w' → Owes τ (valS ds v) U w u w' := fun u w' ⟨e, hb⟩ => ⟨e, trivial, hb.os, hb.tape, hb.output, hb.size, fun g hg _ => hb.block g hg, fun g hg => by simp [valS] at hg⟩
  generalize (execOp a.eval o).run P w = r at *
  cases r with
  | ok nx w' =>
    cases nx with
    | value u => exact fin u w' h1
    | skip => exact fin _ w' h1
    | enter f args => exact Calls.mono h1 fun e w'' ⟨u, he, hh⟩ => ⟨u, he, fin u w'' hh⟩
    | _ => exact h1.elim
  | _ => exact h1.elim
/-- A call that hands back a precedence and whether there is one. -/
def prcS (B : Nat) (e : TypeId) (q : Prec) (b : Bool) : LS where
  cons := []
  ok u := ∃ A c, u = .tuple #[.agg #[.int .i64 q.kinds, .slice A q.over.length c], .bool b]
  V u w := ∃ A c, u = .tuple #[.agg #[.int .i64 q.kinds, .slice A q.over.length c], .bool b] ∧ w.ownsRow B e 2 (.slice A q.over.length c) q.over.length (prCells q.over)
  fp u := match u with | .tuple vs => (match vs.getD 0 undef with | .agg ws => (ws.getD 1 undef).ownBlock.toList | _ => []) | _ => []
  loc u w w' h hb hsz := by
    obtain ⟨A, c, rfl, ho⟩ := h
    exact ⟨A, c, rfl, (rowS [] B e 2 q.over.length (prCells q.over)).loc _ w w' ho (fun g hg => hb g hg) hsz⟩
  ne := ⟨_, none, 0, rfl⟩
theorem ob_prc {P : Program} {w0 : World} {F : List Nat} {τ : Nat → Option LS} {U : Nat → Value} {a : Go.Act} {e : TypeId} {q : Prec} {b : Bool} {o : Oper}
    (h : ∀ w, ClP w0 F w → stepTo P o a w (fun u w' => ∃ A c, u = .tuple #[.agg #[.int .i64 q.kinds, .slice A q.over.length c], .bool b] ∧ w'.ownsRow w.heap.size e 2 (.slice A q.over.length c) q.over.length (prCells q.over) ∧ Below w.heap.size w w')) :
    Ob P w0 F τ (prcS w0.heap.size e q b) o a U := fun w hw _ => by
  have h1 := h w hw
  have hB' : w0.heap.size ≤ w.heap.size := by obtain ⟨N, rfl⟩ := hw; exact N.size
  unfold stepTo at h1 ⊢
  have fin : ∀ u w', (∃ A c, u = .tuple #[.agg #[.int .i64 q.kinds, .slice A q.over.length c], .bool b] ∧ w'.ownsRow w.heap.size e 2 (.slice A q.over.length c) q.over.length (prCells q.over) ∧ Below w.heap.size w w') → Owes τ (prcS w0.heap.size e q b) U w u w' := fun u w' ⟨A, c, hu, ho, hb⟩ => by
    subst hu
    refine ⟨⟨A, c, rfl⟩, ⟨A, c, rfl, own_base ho hB'⟩, hb.os, hb.tape, hb.output, hb.size, fun g hg _ => hb.block g hg, fun g hg => ?_⟩
    have hg' : (Value.slice A q.over.length c).ownBlock = some g := mem_toList.1 hg
    exact ⟨(ho.lt g hg').2, .inl (ho.lt g hg').1⟩
  generalize (execOp a.eval o).run P w = rr at *
  cases rr with
  | ok nx w' =>
    cases nx <;> simp only [stepUpon] at h1 ⊢
    case value u => exact fin _ _ h1
    case skip => exact fin _ _ h1
    case enter f args => exact h1.mono fun e w'' ⟨u, he, hR⟩ => ⟨u, he, fin _ _ hR⟩
  | halt x w' => simp only [stepUpon] at h1
end Go.My
namespace Go.Proofs.Ytdbcbaahjhaonaa
open Go.RowKit Go.My
theorem least_any (a b : Int) (w : World) : Calls Try.prog 95 #[.int .i64 a, .int .i64 b] w fun e w' => e = .returned (.int .i64 (if a < b then a else b)) ∧ w = w' := by
  by_cases h : a < b
  · rw [if_pos h]
    go_enter Try.func95, Try.ntmps95
    go_wp2
    go_ret
    exact ⟨rfl, rfl⟩
  · rw [if_neg h]
    go_enter Try.func95, Try.ntmps95
    go_wp2
    go_ret
    exact ⟨rfl, rfl⟩
set_option maxHeartbeats 16000000 in
set_option maxRecDepth 100000 in
theorem precedence_any (g N : Nat) (w : World) (h : Cur w g N 80) (hN : N ≤ 400000000000) :
    Calls Try.prog 81 #[.pointer (some ⟨g, 0, none⟩)] w fun e w' => ∃ A' c', ∃ p : Prec, e = .returned (.agg #[.int .i64 p.kinds, .slice A' p.over.length c']) ∧ p.over.length ≤ 60 ∧ w'.ownsRow w.heap.size 52 2 (.slice A' p.over.length c') p.over.length (prCells p.over) ∧ Cur w' g (N + 200) 80 ∧ w.grownBy w' (some g) := by
  have hlt := h.lt
  go_enter Try.func81, Try.ntmps81
  go_wp2_with fail
  have hbz := bnew (Below.refl w.heap.size w) (.cells #[.int .i64 0, .slice none 0 0] 27)
  refine (pick_any g N 7 _ (h.below hbz) (by omega)).mono ?_
  rintro e w1 ⟨x, rfl, hx, hc, hg1⟩
  have hg := grown_trans (grown_wide (row := some g) (grown_alloc w (.cells #[.int .i64 0, .slice none 0 0] 27))) hg1
  have RB : Blk w1 w.heap.size 27 [.int .i64 0, .slice none 0 0] := (blk_made #[.int .i64 0, .slice none 0 0] rfl).grown hg1 (by simp; omega)
  have hxw : IntKind.i64.wrap (1 + x) = 1 + x := by rw [IntKind.wrap_i64]; omega
  have hsz := hg.size
  have hlr := RB.lt
  clear hg1 h hbz
  go_wp2_with fail
  generalize (1 + x) = K at *
  have BB : Blk (w1.alloc (.cells #[.int .i64 K, .slice none 0 0] 27)) w1.heap.size 27 [.int .i64 K, .slice none 0 0] := blk_made #[.int .i64 K, .slice none 0 0] rfl
  have hbw := bnew (Below.refl w1.heap.size w1) (.cells #[.int .i64 K, .slice none 0 0] 27)
  replace RB := RB.below hbw
  replace hc := hc.below hbw
  replace hg := grown_below hg hbw
  have hgb : g < w1.heap.size := by omega
  have hwb : w.heap.size ≤ w1.heap.size := by omega
  have hgr := hlt
  have hrb : w.heap.size < w1.heap.size := hlr
  clear hbw hsz hlr hlt hx hxw
  generalize w1.alloc (.cells #[.int .i64 K, .slice none 0 0] 27) = W at *
  generalize w1.heap.size = b at *
  generalize hr : w.heap.size = r at RB hgr hrb ⊢
  have hwr : w.heap.size ≤ r := by omega
  obtain ⟨B, hB⟩ : ∃ B, B = b + 1 := ⟨_, rfl⟩
  have hwB : w.heap.size ≤ B := by omega
  have hgB : g < B := by omega
  have hrB : r < B := by omega
  have hbB : b < B := by omega
  clear hr
  obtain ⟨L, hL⟩ : ∃ L : List Pr, L = [] := ⟨_, rfl⟩
  have ho : W.ownsRow B 52 2 (.slice none L.length 0) L.length (prCells L) := by subst hL; exact own_nil
  have hL0 : L.length = 0 := by subst hL; rfl
  have hcv : (Value.slice none 0 0) = .slice none L.length 0 := by rw [hL0]
  rw [hcv] at BB
  clear hcv hL
  refine (one_any g _ 4 W hc (by omega)).mono ?_
  rintro e w9 ⟨nsnd, rfl, hc9, hg9⟩
  replace RB := RB.grown hg9 (by simp; omega)
  replace BB := BB.grown hg9 (by simp; omega)
  replace ho := World.ownsRow.kept ho hg9 (.inr (Ne.symm (own_ne ho hgB)))
  replace hg := grown_trans hg hg9
  replace hc := hc9
  clear hc9 hg9
  generalize w9 = W at *
  go_wp2_with fail
  refine (pick_any g _ 10 W hc (by omega)).mono ?_
  rintro e w9 ⟨k0, rfl, hk, hc9, hg9⟩
  replace RB := RB.grown hg9 (by simp; omega)
  replace BB := BB.grown hg9 (by simp; omega)
  replace ho := World.ownsRow.kept ho hg9 (.inr (Ne.symm (own_ne ho hgB)))
  replace hg := grown_trans hg hg9
  replace hc := hc9
  clear hc9 hg9
  generalize w9 = W at *
  obtain ⟨k, rfl⟩ : ∃ m : Nat, k0 = m := ⟨k0.toNat, by omega⟩
  have hk9 : k ≤ 9 := by have := hk.2.1 (by omega); omega
  clear hk
  go_wp2_with fail
  obtain ⟨snd, hsnd⟩ : ∃ q : Bool, q = !nsnd := ⟨_, rfl⟩
  rw [← hsnd]
  clear hsnd
  go_loopw [5, 6, 7, 8, 9, 10, 11] (fun q _ _ _ _ _ _ wr => ∃ (A' : Option Addr) (c' : Nat) (L : List Pr) (K : Int) (k : Nat), q = .int .i64 k ∧ k ≤ 9 ∧ L.length + k ≤ 40 ∧ Cur wr g (N + 100 - 6 * k) 80 ∧ Blk wr r 27 [.int .i64 0, .slice none 0 0] ∧ Blk wr b 27 [.int .i64 K, .slice A' L.length c'] ∧ wr.ownsRow B 52 2 (.slice A' L.length c') L.length (prCells L) ∧ w.grownBy wr (some g)) (fun q _ _ _ _ _ _ _ => (intOf q).toNat)
  case atStart => exact ⟨none, 0, L, K, k, rfl, hk9, by omega, hc.more (by omega), RB, BB, ho, hg⟩
  case round =>
    clear hc ho hg RB BB hk9 hL0
    obtain ⟨A', c', L, K, k, rfl, hk9, hLk, hc, RB, BB, ho, hg⟩ := hrel
    generalize wr = W at *
    by_cases hk0 : 0 < k
    · have hkI : (0 : Int) < (k : Int) := by omega
      have kb0 := blk_cell BB (j := 0) rfl
      have kb1 := blk_cell BB (j := 1) rfl
      have hbd := (Below.refl W.heap.size W).drew
      have kz0 := cell_bel kb0 hbd
      go_wp2_with fail
      go_region_held3 (fun w' => w'.cell? ⟨b, 0, none⟩ = some (.int .i64 K)) (first | exact kz0 | assumption | exact kz0 | go_keep) ((first | (go_at_call 93; refine (pick_any g _ K _ (hc.below hbd) (by omega)).mono ?_; rintro e w8 ⟨x1, rfl, hx1, hc8, hg8⟩; have kz8 := hg8.cell kz0 (by simp; omega)) | (go_at_call 93; refine (pick_any g _ K _ hc8 (by omega)).mono ?_; rintro e w9 ⟨x2, rfl, hx2, hc9, hg9⟩; have kz9 := hg9.cell kz8 (by simp; omega))))
      replace RB := (RB.below hbd).grown hg8 (by simp; omega)
      replace RB := RB.grown hg9 (by simp; omega)
      replace BB := (BB.below hbd).grown hg8 (by simp; omega)
      replace BB := BB.grown hg9 (by simp; omega)
      replace ho := World.ownsRow.kept (own_below ho hbd) hg8 (.inr (Ne.symm (own_ne ho hgB)))
      replace ho := World.ownsRow.kept ho hg9 (.inr (Ne.symm (own_ne ho hgB)))
      replace hg := grown_trans (grown_trans (grown_below hg hbd) hg8) hg9
      replace hc := hc9
      clear hc9 hg9 hc8 hg8 kz0 kz8 kz9 kb0 kb1 hbd
      generalize w9 = W at *
      cases snd with
      | true =>
        have HLE : Hid (∀ w1, Calls Try.prog 95 #[.int .i64 x1, .int .i64 x2] w1 fun e w' => e = .returned (.int .i64 (if x1 < x2 then x1 else x2)) ∧ w1 = w') := fun w1 => least_any x1 x2 w1
        have HMO : Hid (∀ w1, Calls Try.prog 73 #[.int .i64 x1, .int .i64 x2] w1 fun e w' => e = .returned (.int .i64 (max x1 x2)) ∧ w1 = w') := fun w1 => l1Most_any x1 x2 w1
        generalize (if x1 < x2 then x1 else x2) = lo at *
        generalize (max x1 x2) = hi at *
        have hrd := own_rd ho
        have hle := own_le ho
        have HAP : Hid (∀ w1, Below W.heap.size W w1 → Calls Try.prog 40 #[.agg #[.int .i64 K, .slice A' L.length c'], .int .i64 lo, .int .i64 hi] w1 fun en w' => ∃ A' c', en = .returned (.tuple #[.agg #[.int .i64 (addP ⟨K, L⟩ ⟨lo, hi⟩).1.kinds, .slice A' (addP ⟨K, L⟩ ⟨lo, hi⟩).1.over.length c'], .bool (addP ⟨K, L⟩ ⟨lo, hi⟩).2]) ∧ w'.ownsRow w1.heap.size 52 2 (.slice A' (addP ⟨K, L⟩ ⟨lo, hi⟩).1.over.length c') (addP ⟨K, L⟩ ⟨lo, hi⟩).1.over.length (prCells (addP ⟨K, L⟩ ⟨lo, hi⟩).1.over) ∧ Below w1.heap.size w1 w') := fun w1 h1 => specAddPr_any A' c' ⟨K, L⟩ ⟨lo, hi⟩ w1 (by show L.length ≤ maxLen; unfold maxLen; omega) hle (hrd.below h1)
        have hq17 := addP_len ⟨K, L⟩ ⟨lo, hi⟩
        generalize addP ⟨K, L⟩ ⟨lo, hi⟩ = R at *
        obtain ⟨q, ok⟩ := R
        simp only at hq17 HAP
        have kb0 := blk_cell BB (j := 0) rfl
        have kb1 := blk_cell BB (j := 1) rfl
        have hbd := (Below.refl W.heap.size W).drew
        have hbe := (bnew (Below.refl W.heap.size W) (.cells #[.int .i64 0, .slice none 0 0] 27)).drew
        have kd0 := cell_bel kb0 hbd
        have kd1 := cell_bel kb1 hbd
        have ke0 := cell_bel kb0 hbe
        have ke1 := cell_bel kb1 hbe
        have XB0 : Blk (W.alloc (.cells #[.int .i64 0, .slice none 0 0] 27)).drew W.heap.size 27 [.int .i64 0, .slice none 0 0] := by unfold Blk; exact heap_alloc_new W _
        clear kb0 kb1
        go_wp2_with fail
        go_region_with (first | (go_at_call 95; refine (HLE.out _).mono ?_; rintro e w7 ⟨rfl, rfl⟩) | (go_at_call 73; refine (HMO.out _).mono ?_; rintro e w7 ⟨rfl, rfl⟩) | (go_at_call 40; refine (HAP.out W.drew hbd).mono ?_; rintro e w7 ⟨A7, c7, rfl, hRow7, hb7⟩) | (go_at_call 40; refine (HAP.out (W.alloc (.cells #[.int .i64 0, .slice none 0 0] 27)).drew hbe).mono ?_; rintro e w7 ⟨A7, c7, rfl, hRow7, hb7⟩; have hXB := XB0.below hb7; have y0 := blk_cell hXB (j := 0) rfl; have y1 := blk_cell hXB (j := 1) rfl; have zx0 := blk_frozen hXB 0; have zx1 := blk_frozen hXB 1))
        all_goals first
          | (
            have hM := hXB
            clear HLE HMO HAP hrd kd0 kd1 ke0 ke1 XB0
            have hb8 : Below W.heap.size W w7 := btr hbe hb7
            have hW7 : W.heap.size ≤ w7.heap.size := hb8.size
            have hbW : b < W.heap.size := BB.lt
            replace RB := RB.below hb8
            replace BB := BB.below hb8
            replace hc := hc.below hb8
            replace hg := grown_below hg hb8
            have ho8 := own_below ho hb8
            have hgW : W.heap.size ≤ W.heap.size := Nat.le_refl _
            have XB : Blk ((w7.setCell ⟨W.heap.size, 0, none⟩ (.int .i64 q.kinds)).setCell ⟨W.heap.size, 1, none⟩ (.slice A7 q.over.length c7)) W.heap.size 27 [.int .i64 q.kinds, .slice A7 q.over.length c7] := Blk.setj (Blk.setj hXB 0 (.int .i64 q.kinds)) 1 (.slice A7 q.over.length c7)
            replace RB := (RB.oset (g := r) (h := W.heap.size) (by omega) 0 (.int .i64 q.kinds)).oset (g := r) (h := W.heap.size) (by omega) 1 (.slice A7 q.over.length c7)
            replace BB := (BB.oset (g := b) (h := W.heap.size) (by omega) 0 (.int .i64 q.kinds)).oset (g := b) (h := W.heap.size) (by omega) 1 (.slice A7 q.over.length c7)
            replace hc := (hc.set (k := W.heap.size) (by omega) 0 (.int .i64 q.kinds)).set (k := W.heap.size) (by omega) 1 (.slice A7 q.over.length c7)
            replace hg := grown_set_new (grown_set_new hg (k := W.heap.size) (by omega) 0 (.int .i64 q.kinds)) (k := W.heap.size) (by omega) 1 (.slice A7 q.over.length c7)
            have hno : some W.heap.size ≠ (Value.slice A' L.length c').ownBlock := fun e => by have := (ho.lt W.heap.size e.symm).2; omega
            replace ho := own_setN (own_setN ho8 hno 0 (.int .i64 q.kinds)) hno 1 (.slice A7 q.over.length c7)
            have hnx : some W.heap.size ≠ (Value.slice A7 q.over.length c7).ownBlock := own_ne hRow7 (show W.heap.size < (W.alloc (.cells #[.int .i64 0, .slice none 0 0] 27)).drew.heap.size by simp)
            have hoq := own_base (own_setN (own_setN hRow7 hnx 0 (.int .i64 q.kinds)) hnx 1 (.slice A7 q.over.length c7)) (show W.heap.size ≤ (W.alloc (.cells #[.int .i64 0, .slice none 0 0] 27)).drew.heap.size by simp)
            have hnb : some b ≠ (Value.slice A7 q.over.length c7).ownBlock := own_ne hRow7 (show b < (W.alloc (.cells #[.int .i64 0, .slice none 0 0] 27)).drew.heap.size by simp; omega)
            cases ok with
            | false =>
              go_wp2_with fail
              go_roundw
              case rel => exact ⟨A', c', L, K, k - 1, by go_num, by omega, by omega, hc.more (by omega), RB, BB, ho, hg⟩
              case measure => simp [intOf]; omega
            | true =>
              have xb0 := blk_cell XB (j := 0) rfl
              have xb1 := blk_cell XB (j := 1) rfl
              have zb0 := blk_frozen BB 0
              have zb1 := blk_frozen BB 1
              have kb0 := blk_cell BB (j := 0) rfl
              have kb1 := blk_cell BB (j := 1) rfl
              clear ho
              go_wp2_with fail
              replace RB := (RB.oset (g := r) (h := b) (by omega) 0 (.int .i64 q.kinds)).oset (g := r) (h := b) (by omega) 1 (.slice A7 q.over.length c7)
              replace BB := Blk.setj (Blk.setj BB 0 (.int .i64 q.kinds)) 1 (.slice A7 q.over.length c7)
              replace hc := (hc.set (k := b) hgb 0 (.int .i64 q.kinds)).set (k := b) hgb 1 (.slice A7 q.over.length c7)
              replace hg := grown_set_new (grown_set_new hg (k := b) hwb 0 (.int .i64 q.kinds)) (k := b) hwb 1 (.slice A7 q.over.length c7)
              have ho := own_base (own_setN (own_setN hoq hnb 0 (.int .i64 q.kinds)) hnb 1 (.slice A7 q.over.length c7)) (show B ≤ W.heap.size by omega)
              go_roundw
              case rel => exact ⟨A7, c7, q.over, q.kinds, k - 1, by go_num, by omega, by omega, hc.more (by omega), RB, BB, ho, hg⟩
              case measure => simp [intOf]; omega
            )
          | (
            clear HLE HMO HAP hrd kd0 kd1 ke0 ke1 XB0
            have hb8 : Below W.heap.size W w7 := btr hbd hb7
            have hW7 : W.heap.size ≤ w7.heap.size := hb8.size
            have hbW : b < W.heap.size := BB.lt
            replace RB := RB.below hb8
            replace BB := BB.below hb8
            replace hc := hc.below hb8
            replace hg := grown_below hg hb8
            have ho8 := own_below ho hb8
            have hbn := bnew (Below.refl w7.heap.size w7) (.cells #[.int .i64 q.kinds, .slice A7 q.over.length c7] 27)
            have XB : Blk (w7.alloc (.cells #[.int .i64 q.kinds, .slice A7 q.over.length c7] 27)) w7.heap.size 27 [.int .i64 q.kinds, .slice A7 q.over.length c7] := blk_made #[.int .i64 q.kinds, .slice A7 q.over.length c7] rfl
            replace RB := RB.below hbn
            replace BB := BB.below hbn
            replace hc := hc.below hbn
            replace hg := grown_below hg hbn
            replace ho := own_below ho8 hbn
            have hoq := own_base (own_below hRow7 hbn) (show W.heap.size ≤ W.drew.heap.size from hbd.size)
            have hnb : some b ≠ (Value.slice A7 q.over.length c7).ownBlock := own_ne hoq hbW
            cases ok with
            | false =>
              go_wp2_with fail
              go_roundw
              case rel => exact ⟨A', c', L, K, k - 1, by go_num, by omega, by omega, hc.more (by omega), RB, BB, ho, hg⟩
              case measure => simp [intOf]; omega
            | true =>
              have xb0 := blk_cell XB (j := 0) rfl
              have xb1 := blk_cell XB (j := 1) rfl
              have zb0 := blk_frozen BB 0
              have zb1 := blk_frozen BB 1
              have kb0 := blk_cell BB (j := 0) rfl
              have kb1 := blk_cell BB (j := 1) rfl
              clear ho
              go_wp2_with fail
              replace RB := (RB.oset (g := r) (h := b) (by omega) 0 (.int .i64 q.kinds)).oset (g := r) (h := b) (by omega) 1 (.slice A7 q.over.length c7)
              replace BB := Blk.setj (Blk.setj BB 0 (.int .i64 q.kinds)) 1 (.slice A7 q.over.length c7)
              replace hc := (hc.set (k := b) hgb 0 (.int .i64 q.kinds)).set (k := b) hgb 1 (.slice A7 q.over.length c7)
              replace hg := grown_set_new (grown_set_new hg (k := b) hwb 0 (.int .i64 q.kinds)) (k := b) hwb 1 (.slice A7 q.over.length c7)
              have ho := own_base (own_setN (own_setN hoq hnb 0 (.int .i64 q.kinds)) hnb 1 (.slice A7 q.over.length c7)) (show B ≤ W.heap.size by omega)
              go_roundw
              case rel => exact ⟨A7, c7, q.over, q.kinds, k - 1, by go_num, by omega, by omega, hc.more (by omega), RB, BB, ho, hg⟩
              case measure => simp [intOf]; omega
            )
      | false =>
        have hbx := bnew (Below.refl W.heap.size W) (.cells #[.int .i64 x1, .int .i64 x2] 52)
        have XB : Blk (W.alloc (.cells #[.int .i64 x1, .int .i64 x2] 52)) W.heap.size 52 [.int .i64 x1, .int .i64 x2] := blk_made #[.int .i64 x1, .int .i64 x2] rfl
        have hbW := BB.lt
        replace RB := RB.below hbx
        replace BB := BB.below hbx
        replace hc := hc.below hbx
        replace hg := grown_below hg hbx
        replace ho := own_below ho hbx
        go_wp2_with fail
        clear hbx
        generalize hWx : W.alloc (.cells #[.int .i64 x1, .int .i64 x2] 52) = W1 at *
        clear hWx
        generalize hbxe : W.heap.size = bx at *
        clear hbxe
        have n0 := blk_cell XB (j := 0) rfl
        have n1 := blk_cell XB (j := 1) rfl
        have kb0 := blk_cell BB (j := 0) rfl
        have kb1 := blk_cell BB (j := 1) rfl
        have hxr := own_rd ho
        go_loopw [11] (fun q wr => ∃ j : Nat, j ≤ L.length ∧ q = .int .i64 j ∧ Below W1.heap.size W1 wr) (fun q _ => L.length - (intOf q).toNat)
        case atStart => exact ⟨0, by omega, rfl, Below.refl _ _⟩
        case round =>
          obtain ⟨j, hj, rfl, hbr⟩ := hrel
          have k0r := cell_bel kb0 hbr
          have k1r := cell_bel kb1 hbr
          have n0r := cell_bel n0 hbr
          have n1r := cell_bel n1 hbr
          have hjn : (j : Int) ≤ (L.length : Int) := by omega
          by_cases hlt : j < L.length
          · obtain ⟨b2, off, eA, c0, c1⟩ := Rd.pr (hxr.below hbr) hlt
            subst eA
            have hjI : (j : Int) < (L.length : Int) := by omega
            have hjD : decide ((j : Int) < (L.length : Int)) = true := by simpa using hjI
            generalize L[j] = y at *
            have g0 := cell_after k0r
            have g1 := cell_after k1r
            have g2 := cell_after n0r
            have g3 := cell_after n1r
            have g4 := cell_after c0
            have g5 := cell_after c1
            clear c0 c1
            cases hq : lexB y ⟨x1, x2⟩ with
            | true =>
              have HCP : Hid (∀ w1, Calls Try.prog 78 #[.agg #[.int .i64 y.a, .int .i64 y.b], .agg #[.int .i64 x1, .int .i64 x2]] w1 fun e w' => e = .returned (.bool true) ∧ Below w1.heap.size w1 w') := fun w1 => by have h0 := l4Before_any y ⟨x1, x2⟩ w1; rw [hq] at h0; exact h0
              clear hq
              go_wp2_with fail
              refine wp_region_after (by kernel_rfl) (by kernel_rfl) ?_
              repeat (go_big_quiet_step ((go_at_call 78; exact Calls.after (HCP.out _))))
              refine wpQuiet_nil ?_
              intro nq
              go_wp2
              go_roundw
              case rel => exact ⟨j + 1, by omega, by go_num, btr hbr nq.bel⟩
              case measure => simp [intOf]; omega
            | false =>
              have HCP : Hid (∀ w1, Calls Try.prog 78 #[.agg #[.int .i64 y.a, .int .i64 y.b], .agg #[.int .i64 x1, .int .i64 x2]] w1 fun e w' => e = .returned (.bool false) ∧ Below w1.heap.size w1 w') := fun w1 => by have h0 := l4Before_any y ⟨x1, x2⟩ w1; rw [hq] at h0; exact h0
              clear hq
              go_wp2_with fail
              refine wp_region_after (by kernel_rfl) (by kernel_rfl) ?_
              repeat (go_big_quiet_step ((go_at_call 78; exact Calls.after (HCP.out _))))
              refine wpQuiet_nil ?_
              intro nq
              have hbN := btr hbr nq.bel
              generalize nq.val = wq at *
              clear g0 g1 g2 g3 g4 g5 HCP k0r k1r n0r n1r kb0 kb1 n0 n1 hxr nq
              replace RB := RB.below hbN
              replace BB := BB.below hbN
              replace hc := hc.below hbN
              replace hg := grown_below hg hbN
              replace ho := own_below ho hbN
              replace XB := XB.below hbN
              have hDir : Hid (∀ w1, Below wq.heap.size wq w1 → Calls Try.prog 77 #[.agg #[.int .i64 K, .slice (some ⟨b2, off, none⟩) L.length c'], .int .i64 x1, .int .i64 x2] w1 fun e w' => e = .returned (.bool (dirB L x1 x2)) ∧ Below w1.heap.size w1 w') := fun w1 h1 => l4Direct_any (some ⟨b2, off, none⟩) c' K L x1 x2 w1 (by unfold maxLen; omega) ((own_rd ho).below h1)
              have hle := own_le ho
              clear hbN hbr
              have kb0 := blk_cell BB (j := 0) rfl
              have kb1 := blk_cell BB (j := 1) rfl
              by_cases hab : x1 = x2
              · have hneB : (x1 != x2) = false := by simpa using hab
                clear hDir
                go_wp2_with fail
                go_roundw
                case rel => exact ⟨(some ⟨b2, off, none⟩), c', L, K, k - 1, by go_num, by omega, by omega, hc.more (by omega), RB, BB, ho, hg⟩
                case measure => simp [intOf]; omega
              have hneB : (x1 != x2) = true := by simpa using hab
              cases hd : dirB L x1 x2 with
              | true =>
                rw [hd] at hDir
                go_wp2_with (go_at_call 77; refine (hDir.out _ (Below.refl _ _)).mono ?_; rintro e w3 ⟨rfl, hb3⟩)
                replace RB := RB.below hb3
                replace BB := BB.below hb3
                replace hc := hc.below hb3
                replace hg := grown_below hg hb3
                replace ho := own_below ho hb3
                go_roundw
                case rel => exact ⟨(some ⟨b2, off, none⟩), c', L, K, k - 1, by go_num, by omega, by omega, hc.more (by omega), RB, BB, ho, hg⟩
                case measure => simp [intOf]; omega
              | false =>
                rw [hd] at hDir
                go_wp2_with fail
                refine (hDir.out _ (Below.refl _ _)).mono ?_
                rintro e w3 ⟨rfl, hb3⟩
                replace RB := RB.below hb3
                replace BB := BB.below hb3
                replace hc := hc.below hb3
                replace hg := grown_below hg hb3
                replace ho := own_below ho hb3
                replace XB := XB.below hb3
                have hxq := own_rd ho
                clear hDir hd kb0 kb1 hb3
                obtain ⟨L2, hL2⟩ : ∃ L2, L2 = insAt L j ⟨x1, x2⟩ := ⟨_, rfl⟩
                have HQL : Hid (L2.length = L.length + 1) := by show _ = _; rw [hL2]; exact insAt_len _ _ _ hj
                have HQC : Hid (prCells L2 = prCells (L.take j) ++ [.int .i64 x1, .int .i64 x2] ++ prCells (L.drop j)) := by show _ = _; rw [hL2]; simp [insAt, prCells, Pr.cells]
                have HQN : Hid (∀ n, n = L2.length → n = j + 1 + (L.length - j)) := fun n h => by rw [h, HQL.out]; omega
                clear hL2
                have hpre := run_pre el_Pr (some ⟨b2, off, none⟩) (n := L.length) (c := c') (k := j) (by omega)
                have hcut := run_cut el_Pr (some ⟨b2, off, none⟩) (n := L.length) (c := c') (k := j) (by omega)
                have hT : Rd w3 (some ⟨b2, off, none⟩) (prCells (L.take j)) := by have := hxq.take (j * 2); rwa [prCells_take L j (by omega)] at this
                have hD : Rd w3 (cutA (some ⟨b2, off, none⟩) c' j 2) (prCells (L.drop j)) := by
                  have := hxq.cutA j 2 c' (by intro h; rw [prCells_len]; omega)
                  rwa [prCells_drop L j (by omega)] at this
                have hT1 := prCells_one (L.take j)
                have hTl : (prCells (L.take j)).length = j * 2 := by rw [prCells_len, List.length_take, Nat.min_eq_left (by omega)]
                have hD1 := prCells_one (L.drop j)
                have hDl : (prCells (L.drop j)).length = (L.length - j) * 2 := by rw [prCells_len, List.length_drop]
                generalize prCells (L.take j) = TC at *
                generalize prCells (L.drop j) = DC at *
                generalize cutA (some ⟨b2, off, none⟩) c' j 2 = DA at *
                have hTw : ∀ w1, ClP w3.drew [] w1 → Rd w1 (some ⟨b2, off, none⟩) TC := fun w1 h1 => (hT.drew).below (clP_below h1)
                have hDw : ∀ w1, ClP w3.drew [] w1 → Rd w1 DA DC := fun w1 h1 => (hD.drew).below (clP_below h1)
                have hbd3 := (Below.refl w3.heap.size w3).drew
                have g0 := cell_cl (w := w3.drew) (cell_bel (blk_cell BB (j := 0) rfl) hbd3)
                have g1 := cell_cl (w := w3.drew) (cell_bel (blk_cell BB (j := 1) rfl) hbd3)
                have g2 := cell_cl (w := w3.drew) (cell_bel (blk_cell XB (j := 0) rfl) hbd3)
                have g3 := cell_cl (w := w3.drew) (cell_bel (blk_cell XB (j := 1) rfl) hbd3)
                go_wp2_with fail
                refine wp_loose_tail0 (U := fun _ => undef) (τ := lk [(0, rowS [] w3.drew.heap.size 52 2 0 []), (5, rowS [0] w3.drew.heap.size 52 2 (0 + j) ([] ++ TC)), (7, rowS [] w3.drew.heap.size 52 2 1 [.int .i64 x1, .int .i64 x2]), (8, rowS [5, 7] w3.drew.heap.size 52 2 (0 + j + 1) ([] ++ TC ++ [.int .i64 x1, .int .i64 x2])), (13, rowS [8] w3.drew.heap.size 52 2 (0 + j + 1 + (L.length - j)) ([] ++ TC ++ [.int .i64 x1, .int .i64 x2] ++ DC))]) (F := []) 15 (by kernel_rfl) (by kernel_rfl) (fits_of rfl (by kernel_rfl)) (inv_start (by intro r s h; have := lk_mem h; simp at this; (first | omega | (simp only [List.length_cons, List.length_nil]; omega)))) ?_
                simp only [List.take_succ_cons, List.take_zero, List.drop_succ_cons, List.drop_zero]
                refine gives_loose rfl (ob_lit (cs := #[]) (Nat.le_refl _) (by unfold maxLen; omega) rfl (fun w1 _ => ?_)) ?_
                · go_simp
                rintro u0 ⟨A0, c0, rfl⟩
                simp only [Act.put, List.setIfInBounds_toArray, List.set_cons_zero, List.set_cons_succ]
                refine wpL_quiet 4 rfl rfl ?_
                simp only [List.take_succ_cons, List.take_zero, List.drop_succ_cons, List.drop_zero]
                repeat (go_big_quiet_step (fail))
                refine wpQuiet_nil ?_
                refine gives_loose rfl (ob_app (.tmp 78) (.tmp 82) 22 rfl el_Pr 0 rfl rfl rfl hTl (ds := []) (fun w1 h1 _ => hTw w1 h1) hT1 (by unfold maxLen; omega) (by omega) (Nat.le_refl _)) ?_
                rintro u5 ⟨A5, c5, rfl⟩
                simp only [Act.put, List.setIfInBounds_toArray, List.set_cons_zero, List.set_cons_succ]
                refine wpL_quiet 1 rfl rfl ?_
                simp only [List.take_succ_cons, List.take_zero, List.drop_succ_cons, List.drop_zero]
                repeat (go_big_quiet_step (fail))
                refine wpQuiet_nil ?_
                refine gives_loose rfl (ob_lit (cs := #[.int .i64 x1, .int .i64 x2]) (Nat.le_refl _) (by unfold maxLen; omega) rfl (fun w1 _ => ?_)) ?_
                · go_simp
                rintro u7 ⟨A7, c7, rfl⟩
                simp only [Act.put, List.setIfInBounds_toArray, List.set_cons_zero, List.set_cons_succ]
                refine gives_loose rfl (ob_app (.tmp 83) (.tmp 85) 22 rfl el_Pr 5 rfl rfl rfl rfl (ds := [7]) (fun w1 _ hh => own_rd (hh 7 (by simp) _ rfl)) (by simp [Value.oneCell']) (by unfold maxLen; omega) (by omega) (Nat.le_refl _)) ?_
                rintro u8 ⟨A8, c8, rfl⟩
                simp only [Act.put, List.setIfInBounds_toArray, List.set_cons_zero, List.set_cons_succ]
                refine wpL_quiet 4 rfl rfl ?_
                simp only [List.take_succ_cons, List.take_zero, List.drop_succ_cons, List.drop_zero]
                repeat (go_big_quiet_step (fail))
                refine wpQuiet_nil ?_
                refine gives_loose rfl (ob_app (.tmp 86) (.tmp 90) 22 rfl el_Pr 8 rfl rfl rfl hDl (ds := []) (fun w1 h1 _ => hDw w1 h1) hD1 (by unfold maxLen; omega) (by omega) (Nat.le_refl _)) ?_
                rintro u13 ⟨A13, c13, rfl⟩
                simp only [Act.put, List.setIfInBounds_toArray, List.set_cons_zero, List.set_cons_succ]
                refine wpL_quiet 1 rfl rfl ?_
                simp only [List.take_succ_cons, List.take_zero, List.drop_succ_cons, List.drop_zero]
                repeat (go_big_quiet_step (fail))
                refine wpQuiet_nil ?_
                refine wpL_nil ?_
                intro w8 hEnd
                have hRow : w8.ownsRow w3.drew.heap.size 52 2 (.slice A13 (0 + j + 1 + (L.length - j)) c13) (0 + j + 1 + (L.length - j)) ([] ++ TC ++ [.int .i64 x1, .int .i64 x2] ++ DC) := ends_get hEnd 13 rfl rfl
                have hb38 : Below w3.heap.size w3 w8 := btr hbd3 (ends_below hEnd)
                simp only [Nat.zero_add, List.nil_append] at hRow
                have hLN := HQN.out _ rfl
                have hLQ := HQL.out
                rw [← HQC.out, ← hLN] at hRow
                have hbW3 : b < w3.heap.size := BB.lt
                replace RB := RB.below hb38
                replace BB := BB.below hb38
                replace hc := hc.below hb38
                replace hg := grown_below hg hb38
                have hnb : some b ≠ (Value.slice A13 L2.length c13).ownBlock := own_ne hRow (show b < w3.drew.heap.size from Nat.lt_of_lt_of_le hbW3 hbd3.size)
                have hBW3 : B ≤ w3.drew.heap.size := Nat.le_trans (show B ≤ w3.heap.size by omega) hbd3.size
                have kb1 := blk_cell BB (j := 1) rfl
                have zb1 := blk_frozen BB 1
                simp only [Nat.zero_add]
                rw [← hLN]
                clear hEnd g0 g1 g2 g3 hTw hDw hT hD hT1 hTl hD1 hDl HQL HQC HQN ho hxq XB hle
                go_wp2_with fail
                replace RB := RB.oset (g := r) (h := b) (by omega) 1 (.slice A13 L2.length c13)
                replace BB := Blk.setj BB 1 (.slice A13 L2.length c13)
                replace hc := hc.set (k := b) hgb 1 (.slice A13 L2.length c13)
                replace hg := grown_set_new hg (k := b) hwb 1 (.slice A13 L2.length c13)
                have ho := own_base (own_setN hRow hnb 1 (.slice A13 L2.length c13)) hBW3
                go_roundw
                case rel => rw [← hLN]; exact ⟨A13, c13, L2, K, k - 1, by go_num, by omega, by omega, hc.more (by omega), RB, BB, ho, hg⟩
                case measure => simp [intOf]; omega
          · have hjD : decide ((j : Int) < (L.length : Int)) = false := by simp; omega
            have hjI : ¬ (j : Int) < (L.length : Int) := by omega
            have g1 := cell_after k1r
            go_wp2_with fail
            refine wp_region_after (by kernel_rfl) (by kernel_rfl) ?_
            repeat (go_big_quiet_step (fail))
            refine wpQuiet_nil ?_
            intro nq
            have hbN := btr hbr nq.bel
            generalize nq.val = wq at *
            clear g1 k0r k1r n0r n1r kb0 kb1 n0 n1 hxr nq
            replace RB := RB.below hbN
            replace BB := BB.below hbN
            replace hc := hc.below hbN
            replace hg := grown_below hg hbN
            replace ho := own_below ho hbN
            replace XB := XB.below hbN
            have hDir : Hid (∀ w1, Below wq.heap.size wq w1 → Calls Try.prog 77 #[.agg #[.int .i64 K, .slice A' L.length c'], .int .i64 x1, .int .i64 x2] w1 fun e w' => e = .returned (.bool (dirB L x1 x2)) ∧ Below w1.heap.size w1 w') := fun w1 h1 => l4Direct_any A' c' K L x1 x2 w1 (by unfold maxLen; omega) ((own_rd ho).below h1)
            have hle := own_le ho
            clear hbN hbr
            have kb0 := blk_cell BB (j := 0) rfl
            have kb1 := blk_cell BB (j := 1) rfl
            by_cases hab : x1 = x2
            · have hneB : (x1 != x2) = false := by simpa using hab
              clear hDir
              go_wp2_with fail
              go_roundw
              case rel => exact ⟨A', c', L, K, k - 1, by go_num, by omega, by omega, hc.more (by omega), RB, BB, ho, hg⟩
              case measure => simp [intOf]; omega
            have hneB : (x1 != x2) = true := by simpa using hab
            cases hd : dirB L x1 x2 with
            | true =>
              rw [hd] at hDir
              go_wp2_with (go_at_call 77; refine (hDir.out _ (Below.refl _ _)).mono ?_; rintro e w3 ⟨rfl, hb3⟩)
              replace RB := RB.below hb3
              replace BB := BB.below hb3
              replace hc := hc.below hb3
              replace hg := grown_below hg hb3
              replace ho := own_below ho hb3
              go_roundw
              case rel => exact ⟨A', c', L, K, k - 1, by go_num, by omega, by omega, hc.more (by omega), RB, BB, ho, hg⟩
              case measure => simp [intOf]; omega
            | false =>
              rw [hd] at hDir
              go_wp2_with fail
              refine (hDir.out _ (Below.refl _ _)).mono ?_
              rintro e w3 ⟨rfl, hb3⟩
              replace RB := RB.below hb3
              replace BB := BB.below hb3
              replace hc := hc.below hb3
              replace hg := grown_below hg hb3
              replace ho := own_below ho hb3
              replace XB := XB.below hb3
              have hxq := own_rd ho
              clear hDir hd kb0 kb1 hb3
              obtain ⟨L2, hL2⟩ : ∃ L2, L2 = insAt L j ⟨x1, x2⟩ := ⟨_, rfl⟩
              have HQL : Hid (L2.length = L.length + 1) := by show _ = _; rw [hL2]; exact insAt_len _ _ _ hj
              have HQC : Hid (prCells L2 = prCells (L.take j) ++ [.int .i64 x1, .int .i64 x2] ++ prCells (L.drop j)) := by show _ = _; rw [hL2]; simp [insAt, prCells, Pr.cells]
              have HQN : Hid (∀ n, n = L2.length → n = j + 1 + (L.length - j)) := fun n h => by rw [h, HQL.out]; omega
              clear hL2
              have hpre := run_pre el_Pr A' (n := L.length) (c := c') (k := j) (by omega)
              have hcut := run_cut el_Pr A' (n := L.length) (c := c') (k := j) (by omega)
              have hT : Rd w3 A' (prCells (L.take j)) := by have := hxq.take (j * 2); rwa [prCells_take L j (by omega)] at this
              have hD : Rd w3 (cutA A' c' j 2) (prCells (L.drop j)) := by
                have := hxq.cutA j 2 c' (by intro h; rw [prCells_len]; omega)
                rwa [prCells_drop L j (by omega)] at this
              have hT1 := prCells_one (L.take j)
              have hTl : (prCells (L.take j)).length = j * 2 := by rw [prCells_len, List.length_take, Nat.min_eq_left (by omega)]
              have hD1 := prCells_one (L.drop j)
              have hDl : (prCells (L.drop j)).length = (L.length - j) * 2 := by rw [prCells_len, List.length_drop]
              generalize prCells (L.take j) = TC at *
              generalize prCells (L.drop j) = DC at *
              generalize cutA A' c' j 2 = DA at *
              have hTw : ∀ w1, ClP w3.drew [] w1 → Rd w1 A' TC := fun w1 h1 => (hT.drew).below (clP_below h1)
              have hDw : ∀ w1, ClP w3.drew [] w1 → Rd w1 DA DC := fun w1 h1 => (hD.drew).below (clP_below h1)
              have hbd3 := (Below.refl w3.heap.size w3).drew
              have g0 := cell_cl (w := w3.drew) (cell_bel (blk_cell BB (j := 0) rfl) hbd3)
              have g1 := cell_cl (w := w3.drew) (cell_bel (blk_cell BB (j := 1) rfl) hbd3)
              have g2 := cell_cl (w := w3.drew) (cell_bel (blk_cell XB (j := 0) rfl) hbd3)
              have g3 := cell_cl (w := w3.drew) (cell_bel (blk_cell XB (j := 1) rfl) hbd3)
              go_wp2_with fail
              refine wp_loose_tail0 (U := fun _ => undef) (τ := lk [(0, rowS [] w3.drew.heap.size 52 2 0 []), (5, rowS [0] w3.drew.heap.size 52 2 (0 + j) ([] ++ TC)), (7, rowS [] w3.drew.heap.size 52 2 1 [.int .i64 x1, .int .i64 x2]), (8, rowS [5, 7] w3.drew.heap.size 52 2 (0 + j + 1) ([] ++ TC ++ [.int .i64 x1, .int .i64 x2])), (13, rowS [8] w3.drew.heap.size 52 2 (0 + j + 1 + (L.length - j)) ([] ++ TC ++ [.int .i64 x1, .int .i64 x2] ++ DC))]) (F := []) 15 (by kernel_rfl) (by kernel_rfl) (fits_of rfl (by kernel_rfl)) (inv_start (by intro r s h; have := lk_mem h; simp at this; (first | omega | (simp only [List.length_cons, List.length_nil]; omega)))) ?_
              simp only [List.take_succ_cons, List.take_zero, List.drop_succ_cons, List.drop_zero]
              refine gives_loose rfl (ob_lit (cs := #[]) (Nat.le_refl _) (by unfold maxLen; omega) rfl (fun w1 _ => ?_)) ?_
              · go_simp
              rintro u0 ⟨A0, c0, rfl⟩
              simp only [Act.put, List.setIfInBounds_toArray, List.set_cons_zero, List.set_cons_succ]
              refine wpL_quiet 4 rfl rfl ?_
              simp only [List.take_succ_cons, List.take_zero, List.drop_succ_cons, List.drop_zero]
              repeat (go_big_quiet_step (fail))
              refine wpQuiet_nil ?_
              refine gives_loose rfl (ob_app (.tmp 78) (.tmp 82) 22 rfl el_Pr 0 rfl rfl rfl hTl (ds := []) (fun w1 h1 _ => hTw w1 h1) hT1 (by unfold maxLen; omega) (by omega) (Nat.le_refl _)) ?_
              rintro u5 ⟨A5, c5, rfl⟩
              simp only [Act.put, List.setIfInBounds_toArray, List.set_cons_zero, List.set_cons_succ]
              refine wpL_quiet 1 rfl rfl ?_
              simp only [List.take_succ_cons, List.take_zero, List.drop_succ_cons, List.drop_zero]
              repeat (go_big_quiet_step (fail))
              refine wpQuiet_nil ?_
              refine gives_loose rfl (ob_lit (cs := #[.int .i64 x1, .int .i64 x2]) (Nat.le_refl _) (by unfold maxLen; omega) rfl (fun w1 _ => ?_)) ?_
              · go_simp
              rintro u7 ⟨A7, c7, rfl⟩
              simp only [Act.put, List.setIfInBounds_toArray, List.set_cons_zero, List.set_cons_succ]
              refine gives_loose rfl (ob_app (.tmp 83) (.tmp 85) 22 rfl el_Pr 5 rfl rfl rfl rfl (ds := [7]) (fun w1 _ hh => own_rd (hh 7 (by simp) _ rfl)) (by simp [Value.oneCell']) (by unfold maxLen; omega) (by omega) (Nat.le_refl _)) ?_
              rintro u8 ⟨A8, c8, rfl⟩
              simp only [Act.put, List.setIfInBounds_toArray, List.set_cons_zero, List.set_cons_succ]
              refine wpL_quiet 4 rfl rfl ?_
              simp only [List.take_succ_cons, List.take_zero, List.drop_succ_cons, List.drop_zero]
              repeat (go_big_quiet_step (fail))
              refine wpQuiet_nil ?_
              refine gives_loose rfl (ob_app (.tmp 86) (.tmp 90) 22 rfl el_Pr 8 rfl rfl rfl hDl (ds := []) (fun w1 h1 _ => hDw w1 h1) hD1 (by unfold maxLen; omega) (by omega) (Nat.le_refl _)) ?_
              rintro u13 ⟨A13, c13, rfl⟩
              simp only [Act.put, List.setIfInBounds_toArray, List.set_cons_zero, List.set_cons_succ]
              refine wpL_quiet 1 rfl rfl ?_
              simp only [List.take_succ_cons, List.take_zero, List.drop_succ_cons, List.drop_zero]
              repeat (go_big_quiet_step (fail))
              refine wpQuiet_nil ?_
              refine wpL_nil ?_
              intro w8 hEnd
              have hRow : w8.ownsRow w3.drew.heap.size 52 2 (.slice A13 (0 + j + 1 + (L.length - j)) c13) (0 + j + 1 + (L.length - j)) ([] ++ TC ++ [.int .i64 x1, .int .i64 x2] ++ DC) := ends_get hEnd 13 rfl rfl
              have hb38 : Below w3.heap.size w3 w8 := btr hbd3 (ends_below hEnd)
              simp only [Nat.zero_add, List.nil_append] at hRow
              have hLN := HQN.out _ rfl
              have hLQ := HQL.out
              rw [← HQC.out, ← hLN] at hRow
              have hbW3 : b < w3.heap.size := BB.lt
              replace RB := RB.below hb38
              replace BB := BB.below hb38
              replace hc := hc.below hb38
              replace hg := grown_below hg hb38
              have hnb : some b ≠ (Value.slice A13 L2.length c13).ownBlock := own_ne hRow (show b < w3.drew.heap.size from Nat.lt_of_lt_of_le hbW3 hbd3.size)
              have hBW3 : B ≤ w3.drew.heap.size := Nat.le_trans (show B ≤ w3.heap.size by omega) hbd3.size
              have kb1 := blk_cell BB (j := 1) rfl
              have zb1 := blk_frozen BB 1
              simp only [Nat.zero_add]
              rw [← hLN]
              clear hEnd g0 g1 g2 g3 hTw hDw hT hD hT1 hTl hD1 hDl HQL HQC HQN ho hxq XB hle
              go_wp2_with fail
              replace RB := RB.oset (g := r) (h := b) (by omega) 1 (.slice A13 L2.length c13)
              replace BB := Blk.setj BB 1 (.slice A13 L2.length c13)
              replace hc := hc.set (k := b) hgb 1 (.slice A13 L2.length c13)
              replace hg := grown_set_new hg (k := b) hwb 1 (.slice A13 L2.length c13)
              have ho := own_base (own_setN hRow hnb 1 (.slice A13 L2.length c13)) hBW3
              go_roundw
              case rel => rw [← hLN]; exact ⟨A13, c13, L2, K, k - 1, by go_num, by omega, by omega, hc.more (by omega), RB, BB, ho, hg⟩
              case measure => simp [intOf]; omega

    · have hkI : ¬ (0 : Int) < (k : Int) := by omega
      go_wp2_with fail
      refine (pick_any g _ 24 W hc (by omega)).mono ?_
      rintro e w9 ⟨v, rfl, hv, hc9, hg9⟩
      replace RB := RB.grown hg9 (by simp; omega)
      replace BB := BB.grown hg9 (by simp; omega)
      replace ho := World.ownsRow.kept ho hg9 (.inr (Ne.symm (own_ne ho hgB)))
      replace hg := grown_trans hg hg9
      replace hc := hc9
      clear hc9 hg9
      generalize w9 = W at *
      by_cases hv0 : v = 0
      · subst hv0
        have hbA := bnew (Below.refl W.heap.size W) (.cells #[.int .i64 0, .int .i64 9, .int .i64 8] 3)
        have hcW := hc.lt
        go_wp2_with fail
        refine (among_any g _ _ 3 3 _ (fun _ => true) _ (hc.below hbA) (by omega) rfl (by decide) (by decide) Rd.made (by decide) (fun ad e => by cases e; simp; omega)).mono ?_
        rintro e w9 ⟨a, rfl, -, hc9, hg9⟩
        replace RB := (RB.below hbA).grown hg9 (by simp; omega)
        replace BB := (BB.below hbA).grown hg9 (by simp; omega)
        replace ho := World.ownsRow.kept (own_below ho hbA) hg9 (.inr (Ne.symm (own_ne ho hgB)))
        replace hg := grown_trans (grown_below hg hbA) hg9
        replace hc := hc9
        clear hc9 hg9 hbA hcW
        generalize w9 = W at *
        have zb := blk_frozen BB 0
        have kbj := blk_cell BB (j := 0) rfl
        have kbi := blk_cell BB (j := 1) rfl
        have BB1 := Blk.setj BB 0 (.int .i64 a)
        have RB1 := RB.oset (g := r) (h := b) (by omega) 0 (.int .i64 a)
        have hc1 := hc.set (k := b) hgb 0 (.int .i64 a)
        have hg1 := grown_set_new hg (k := b) hwb 0 (.int .i64 a)
        have hnb : some b ≠ (Value.slice A' L.length c').ownBlock := own_ne ho hbB
        have ho1 := own_setN ho hnb 0 (.int .i64 a)
        have kb01 := blk_cell BB1 (j := 0) rfl
        have kb11 := blk_cell BB1 (j := 1) rfl
        have z0 := blk_frozen RB1 0
        have z1 := blk_frozen RB1 1
        have r0 := blk_cell RB1 (j := 0) rfl
        have r1 := blk_cell RB1 (j := 1) rfl
        go_wp2
        have RF := Blk.setj (Blk.setj RB1 0 (.int .i64 a)) 1 (.slice A' L.length c')
        have f0 := blk_cell RF (j := 0) rfl
        have f1 := blk_cell RF (j := 1) rfl
        have hnr : some r ≠ (Value.slice A' L.length c').ownBlock := own_ne ho1 hrB
        exact bodyPost_ret (v := .agg #[.int .i64 a, .slice A' L.length c']) (by simp [results, Try.results81, go_sem, f0, f1]) rfl ⟨A', c', ⟨a, L⟩, rfl, (by show L.length ≤ 60; omega), own_base (own_setN (own_setN ho1 hnr 0 (.int .i64 a)) hnr 1 (.slice A' L.length c')) hwB, ((hc1.set hgr 0 (.int .i64 a)).set hgr 1 (.slice A' L.length c')).more (by omega), grown_set_new (grown_set_new hg1 hwr 0 (.int .i64 a)) hwr 1 (.slice A' L.length c')⟩
      have hv0' : (v == 0) = false := by simpa using hv0
      by_cases hv1 : v = 1
      · subst hv1
        have hbE := bnew (Below.refl W.heap.size W) (.cells #[] 52)
        have hoE := own_lit (e := 52) (size := 2) (B := W.heap.size) (w := W) #[] 0 (Nat.le_refl _) (by unfold maxLen; omega) rfl
        have hxE : Rd (W.alloc (.cells #[] 52)) A' (prCells L) := own_rd (own_below ho hbE)
        have kb0 := blk_cell BB (j := 0) rfl
        have kb1 := blk_cell BB (j := 1) rfl
        have hbW := BB.lt
        go_wp2_with (at_builtin; go_must (refine wpl_app rfl (.tmp 103) (.tmp 105) 22 rfl el_Pr (v := .slice (some ⟨W.heap.size, 0, none⟩) 0 0) rfl hoE rfl (prCells_len L) hxE (prCells_one L) (by unfold maxLen; omega) (by omega) hbE.size ?_; intro A1 c1 w3 h3 hg3 _))
        have b03 : Below W.heap.size W w3 := hbE.grown hg3 hbE.size (fun k hk => by have := (hoE.lt k hk).1; omega)
        simp only [Nat.zero_add, List.nil_append] at h3
        replace RB := RB.below b03
        replace BB := BB.below b03
        have hc3 := hc.below b03
        have hg3' := grown_below hg b03
        clear hoE hxE hbE hg3 hc hg ho kb0 kb1
        refine (pick_any g _ 8 w3 hc3 (by omega)).mono ?_
        rintro e w4 ⟨x1, rfl, hx1, hc4, hg4⟩
        have h4 := h3.kept hg4 (.inr (Ne.symm (own_ne h3 (by omega))))
        replace RB := RB.grown hg4 (by simp; omega)
        replace BB := BB.grown hg4 (by simp; omega)
        have hg4' := grown_trans hg3' hg4
        go_wp2_with fail
        refine (pick_any g _ 8 w4 hc4 (by omega)).mono ?_
        rintro e w7 ⟨x2, rfl, hx2, hc7, hg7⟩
        have h7 := h4.kept hg7 (.inr (Ne.symm (own_ne h4 (by omega))))
        replace RB := RB.grown hg7 (by simp; omega)
        replace BB := BB.grown hg7 (by simp; omega)
        have hg7' := grown_trans hg4' hg7
        have hszW : W.heap.size ≤ w7.heap.size := Nat.le_trans b03.size (Nat.le_trans hg4.size hg7.size)
        clear h3 h4 hc3 hc4 hg3' hg4' hg4 hg7 b03 hx1 hx2
        have hbM := bnew (Below.refl w7.heap.size w7) (.cells #[.int .i64 x1, .int .i64 x2] 52)
        have hoM := own_below h7 hbM
        have hrd : Rd (w7.alloc (.cells #[.int .i64 x1, .int .i64 x2] 52)) (some ⟨w7.heap.size, 0, none⟩) [.int .i64 x1, .int .i64 x2] := Rd.made
        have hsM : W.heap.size ≤ (w7.alloc (.cells #[.int .i64 x1, .int .i64 x2] 52)).heap.size := Nat.le_trans hszW hbM.size
        have hbb : b < w7.heap.size := BB.lt
        replace RB := RB.below hbM
        replace BB := BB.below hbM
        have hcM := hc7.below hbM
        have hgM := grown_below hg7' hbM
        have hLn : L.length + 1 = (L ++ [(⟨x1, x2⟩ : Pr)]).length := by simp
        have hcs : prCells L ++ [.int .i64 x1, .int .i64 x2] = prCells (L ++ [(⟨x1, x2⟩ : Pr)]) := by simp [prCells, Pr.cells]
        have hL60 : (L ++ [(⟨x1, x2⟩ : Pr)]).length ≤ 50 := by rw [← hLn]; omega
        have hrn : some r ≠ (Value.slice A1 L.length c1).ownBlock := own_ne h7 (by omega)
        have hbn : some b ≠ (Value.slice A1 L.length c1).ownBlock := own_ne h7 (by omega)
        have HRG : ∀ w5, (w7.alloc (.cells #[.int .i64 x1, .int .i64 x2] 52)).grownBy w5 (Value.slice A1 L.length c1).ownBlock → Blk w5 r 27 [.int .i64 0, .slice none 0 0] := fun w5 h => RB.grown h (by simpa using hrn)
        have HBG : ∀ w5, (w7.alloc (.cells #[.int .i64 x1, .int .i64 x2] 52)).grownBy w5 (Value.slice A1 L.length c1).ownBlock → Blk w5 b 27 [.int .i64 K, .slice A' L.length c'] := fun w5 h => BB.grown h (by simpa using hbn)
        have hrb' : r ≠ b := by omega
        go_wp2_with (at_builtin; go_must (refine wpl_app rfl (.tmp 106) (.tmp 112) 22 rfl el_Pr (v := .slice A1 L.length c1) rfl hoM rfl rfl hrd (by simp [Value.oneCell']) (by unfold maxLen; omega) (by omega) hsM ?_; intro A2 c2 w5 h5 hg5 _; have BB5 := HBG _ hg5; have RB5 := HRG _ hg5; rw [hcs, hLn] at h5; rw [hLn]; clear hLn hcs HBG HRG; generalize L ++ [(⟨x1, x2⟩ : Pr)] = L2 at *; have zb := blk_frozen BB5 1; have kbj := blk_cell BB5 (j := 1) rfl; have kbi := blk_cell BB5 (j := 0) rfl; have BB1 := Blk.setj BB5 1 (.slice A2 L2.length c2); have RB1 := RB5.oset (g := r) (h := b) hrb' 1 (.slice A2 L2.length c2); have kb01 := blk_cell BB1 (j := 0) rfl; have kb11 := blk_cell BB1 (j := 1) rfl; have z0 := blk_frozen RB1 0; have z1 := blk_frozen RB1 1; have r0 := blk_cell RB1 (j := 0) rfl; have r1 := blk_cell RB1 (j := 1) rfl))
        have hc5 := hcM.own hg5 hoM (show g < W.heap.size by omega)
        have hg5' := grown_own hgM hoM hg5 (show w.heap.size ≤ W.heap.size by omega)
        have ho := own_base h5 (show B ≤ W.heap.size by omega)
        have hc1 := hc5.set (k := b) hgb 1 (.slice A2 L2.length c2)
        have hg1 := grown_set_new hg5' (k := b) hwb 1 (.slice A2 L2.length c2)
        have hnb : some b ≠ (Value.slice A2 L2.length c2).ownBlock := own_ne ho hbB
        have ho1 := own_setN ho hnb 1 (.slice A2 L2.length c2)
        have RF := Blk.setj (Blk.setj RB1 0 (.int .i64 K)) 1 (.slice A2 L2.length c2)
        have f0 := blk_cell RF (j := 0) rfl
        have f1 := blk_cell RF (j := 1) rfl
        have hnr : some r ≠ (Value.slice A2 L2.length c2).ownBlock := own_ne ho1 hrB
        exact bodyPost_ret (v := .agg #[.int .i64 K, .slice A2 L2.length c2]) (by simp [results, Try.results81, go_sem, f0, f1]) rfl ⟨A2, c2, ⟨K, L2⟩, rfl, (by show L2.length ≤ 60; omega), own_base (own_setN (own_setN ho1 hnr 0 (.int .i64 K)) hnr 1 (.slice A2 L2.length c2)) hwB, ((hc1.set hgr 0 (.int .i64 K)).set hgr 1 (.slice A2 L2.length c2)).more (by omega), grown_set_new (grown_set_new hg1 hwr 0 (.int .i64 K)) hwr 1 (.slice A2 L2.length c2)⟩
      have hv1' : (v == 1) = false := by simpa using hv1
      by_cases hv2 : v = 2
      · subst hv2
        have zb0 := blk_frozen BB 0
        have zb1 := blk_frozen BB 1
        have kb0 := blk_cell BB (j := 0) rfl
        have kb1 := blk_cell BB (j := 1) rfl
        have hnb : some b ≠ (Value.slice A' L.length c').ownBlock := own_ne ho hbB
        go_wp2_with fail
        have BB1 := Blk.setj (Blk.setj BB 0 (.int .i64 8)) 1 (.slice none 0 0)
        replace RB := (RB.oset (g := r) (h := b) (by omega) 0 (.int .i64 8)).oset (g := r) (h := b) (by omega) 1 (.slice none 0 0)
        replace hc := (hc.set (k := b) hgb 0 (.int .i64 8)).set (k := b) hgb 1 (.slice none 0 0)
        replace hg := grown_set_new (grown_set_new hg (k := b) hwb 0 (.int .i64 8)) (k := b) hwb 1 (.slice none 0 0)
        clear ho BB zb0 zb1 kb0 kb1 hnb hLk
        go_loopw [12, 13] (fun q _ wr => ∃ a : Nat, q = .int .i64 a ∧ a ≤ 8 ∧ ∃ (A' : Option Addr) (c' : Nat) (L : List Pr), L.length ≤ 16 ∧ Cur wr g (N + 150) 80 ∧ Blk wr r 27 [.int .i64 0, .slice none 0 0] ∧ Blk wr b 27 [.int .i64 8, .slice A' L.length c'] ∧ wr.ownsRow B 52 2 (.slice A' L.length c') L.length (prCells L) ∧ w.grownBy wr (some g)) (fun q _ _ => 8 - (intOf q).toNat)
        case atStart => exact ⟨0, rfl, by omega, none, 0, [], by simp, hc.more (by omega), RB, BB1, own_nil, hg⟩
        case round =>
          clear hc hg RB BB1
          obtain ⟨a, rfl, ha8, A', c', L, hL16, hc, RB, BB, ho, hg⟩ := hrel
          generalize wr = W at *
          have kb0 := blk_cell BB (j := 0) rfl
          have kb1 := blk_cell BB (j := 1) rfl
          by_cases hst : a < 8 ∧ L.length < 16
          · obtain ⟨ha, hLl⟩ := hst
            have haI : (a : Int) < 8 := by omega
            have haD : decide ((a : Int) < 8) = true := by simpa using haI
            have hLI : (L.length : Int) < 16 := by omega
            have hLD : decide ((L.length : Int) < 16) = true := by simpa using hLI
            have haw : IntKind.i64.wrap ((a : Int) + 1) = (a : Int) + 1 := by rw [IntKind.wrap_i64]; omega
            go_wp2_with fail
            go_loopw [13] (fun q wr => ∃ d : Nat, q = .int .i64 d ∧ d ≤ 8 ∧ ∃ (A' : Option Addr) (c' : Nat) (L : List Pr), L.length ≤ 16 ∧ Cur wr g (N + 150) 80 ∧ Blk wr r 27 [.int .i64 0, .slice none 0 0] ∧ Blk wr b 27 [.int .i64 8, .slice A' L.length c'] ∧ wr.ownsRow B 52 2 (.slice A' L.length c') L.length (prCells L) ∧ w.grownBy wr (some g)) (fun q _ => 8 - (intOf q).toNat)
            case atStart => exact ⟨a + 1, by go_num, by omega, A', c', L, hL16, hc, RB, BB, ho, hg⟩
            case round =>
              clear hc hg RB BB ho kb0 kb1 hLI hLD hLl hL16
              obtain ⟨d, rfl, hd8, A', c', L, hL16, hc, RB, BB, ho, hg⟩ := hrel
              generalize wr = W at *
              have kb0 := blk_cell BB (j := 0) rfl
              have kb1 := blk_cell BB (j := 1) rfl
              by_cases hst : d < 8 ∧ L.length < 16
              · obtain ⟨hd, hLl⟩ := hst
                have hdI : (d : Int) < 8 := by omega
                have hdD : decide ((d : Int) < 8) = true := by simpa using hdI
                have hLI : (L.length : Int) < 16 := by omega
                have hLD : decide ((L.length : Int) < 16) = true := by simpa using hLI
                have hbM := bnew (Below.refl W.heap.size W) (.cells #[.int .i64 a, .int .i64 d] 52)
                have hoM := own_below ho hbM
                have hrd : Rd (W.alloc (.cells #[.int .i64 a, .int .i64 d] 52)) (some ⟨W.heap.size, 0, none⟩) [.int .i64 a, .int .i64 d] := Rd.made
                have hbW := BB.lt
                have hsM : B ≤ (W.alloc (.cells #[.int .i64 a, .int .i64 d] 52)).heap.size := Nat.le_trans (show B ≤ W.heap.size by omega) hbM.size
                have hk0 := cell_bel kb0 hbM
                have hk1 := cell_bel kb1 hbM
                replace RB := RB.below hbM
                replace BB := BB.below hbM
                have hcM := hc.below hbM
                have hgM := grown_below hg hbM
                have hLn : L.length + 1 = (L ++ [(⟨a, d⟩ : Pr)]).length := by simp
                have hcs : prCells L ++ [.int .i64 a, .int .i64 d] = prCells (L ++ [(⟨a, d⟩ : Pr)]) := by simp [prCells, Pr.cells]
                have hL60 : (L ++ [(⟨a, d⟩ : Pr)]).length ≤ 16 := by rw [← hLn]; omega
                have hrn : some r ≠ (Value.slice A' L.length c').ownBlock := own_ne ho hrB
                have hbn : some b ≠ (Value.slice A' L.length c').ownBlock := own_ne ho hbB
                have HRG : ∀ w5, (W.alloc (.cells #[.int .i64 a, .int .i64 d] 52)).grownBy w5 (Value.slice A' L.length c').ownBlock → Blk w5 r 27 [.int .i64 0, .slice none 0 0] := fun w5 h => RB.grown h (by simpa using hrn)
                have HBG : ∀ w5, (W.alloc (.cells #[.int .i64 a, .int .i64 d] 52)).grownBy w5 (Value.slice A' L.length c').ownBlock → Blk w5 b 27 [.int .i64 8, .slice A' L.length c'] := fun w5 h => BB.grown h (by simpa using hbn)
                go_wp2_with (at_builtin; go_must (refine wpl_app rfl (.tmp 141) (.tmp 145) 22 rfl el_Pr (v := .slice A' L.length c') rfl hoM rfl rfl hrd (by simp [Value.oneCell']) (by unfold maxLen; omega) (by omega) hsM ?_; intro A2 c2 w5 h5 hg5 _; have BB5 := HBG _ hg5; have RB5 := HRG _ hg5; rw [hcs, hLn] at h5; rw [hLn]; clear hLn hcs HBG HRG; generalize L ++ [(⟨a, d⟩ : Pr)] = L2 at *; have zb1 := blk_frozen BB5 1; have kbj := blk_cell BB5 (j := 1) rfl))
                have hc5 := hcM.own hg5 hoM hgB
                have hg5' := grown_own hgM hoM hg5 hwB
                have hnb : some b ≠ (Value.slice A2 L2.length c2).ownBlock := own_ne h5 hbB
                clear RB BB
                have RB := RB5
                have BB := BB5
                replace RB := RB.oset (g := r) (h := b) (by omega) 1 (.slice A2 L2.length c2)
                replace BB := Blk.setj BB 1 (.slice A2 L2.length c2)
                replace hc5 := hc5.set (k := b) hgb 1 (.slice A2 L2.length c2)
                replace hg5' := grown_set_new hg5' (k := b) hwb 1 (.slice A2 L2.length c2)
                have ho1 := own_setN h5 hnb 1 (.slice A2 L2.length c2)
                go_roundw
                case rel => exact ⟨d + 1, by go_num, by omega, A2, c2, L2, hL60, hc5, RB, BB, ho1, hg5'⟩
                case measure => simp [intOf]; omega
              · by_cases hd : d < 8
                · have hdI : (d : Int) < 8 := by omega
                  have hdD : decide ((d : Int) < 8) = true := by simpa using hdI
                  have hLI : ¬ (L.length : Int) < 16 := by omega
                  have hLD : decide ((L.length : Int) < 16) = false := by simpa using hLI
                  go_wp2_with fail
                  go_roundw
                  case rel => exact ⟨a + 1, by go_num, by omega, A', c', L, hL16, hc, RB, BB, ho, hg⟩
                  case measure => simp [intOf]; omega
                · have hdI : ¬ (d : Int) < 8 := by omega
                  have hdD : decide ((d : Int) < 8) = false := by simpa using hdI
                  go_wp2_with fail
                  go_roundw
                  case rel => exact ⟨a + 1, by go_num, by omega, A', c', L, hL16, hc, RB, BB, ho, hg⟩
                  case measure => simp [intOf]; omega
          · by_cases ha : a < 8
            · have haI : (a : Int) < 8 := by omega
              have haD : decide ((a : Int) < 8) = true := by simpa using haI
              have hLI : ¬ (L.length : Int) < 16 := by omega
              have hLD : decide ((L.length : Int) < 16) = false := by simpa using hLI
              have kb0 := blk_cell BB (j := 0) rfl
              have kb1 := blk_cell BB (j := 1) rfl
              have z0 := blk_frozen RB 0
              have z1 := blk_frozen RB 1
              have r0 := blk_cell RB (j := 0) rfl
              have r1 := blk_cell RB (j := 1) rfl
              go_wp2
              have RF := Blk.setj (Blk.setj RB 0 (.int .i64 8)) 1 (.slice A' L.length c')
              have f0 := blk_cell RF (j := 0) rfl
              have f1 := blk_cell RF (j := 1) rfl
              have hnr : some r ≠ (Value.slice A' L.length c').ownBlock := own_ne ho hrB
              exact bodyPost_ret (v := .agg #[.int .i64 8, .slice A' L.length c']) (by simp [results, Try.results81, go_sem, f0, f1]) rfl ⟨A', c', ⟨8, L⟩, rfl, (by show L.length ≤ 60; omega), own_base (own_setN (own_setN ho hnr 0 (.int .i64 8)) hnr 1 (.slice A' L.length c')) hwB, ((hc.set hgr 0 (.int .i64 8)).set hgr 1 (.slice A' L.length c')).more (by omega), grown_set_new (grown_set_new hg hwr 0 (.int .i64 8)) hwr 1 (.slice A' L.length c')⟩
            · have haI : ¬ (a : Int) < 8 := by omega
              have haD : decide ((a : Int) < 8) = false := by simpa using haI
              have kb0 := blk_cell BB (j := 0) rfl
              have kb1 := blk_cell BB (j := 1) rfl
              have z0 := blk_frozen RB 0
              have z1 := blk_frozen RB 1
              have r0 := blk_cell RB (j := 0) rfl
              have r1 := blk_cell RB (j := 1) rfl
              go_wp2
              have RF := Blk.setj (Blk.setj RB 0 (.int .i64 8)) 1 (.slice A' L.length c')
              have f0 := blk_cell RF (j := 0) rfl
              have f1 := blk_cell RF (j := 1) rfl
              have hnr : some r ≠ (Value.slice A' L.length c').ownBlock := own_ne ho hrB
              exact bodyPost_ret (v := .agg #[.int .i64 8, .slice A' L.length c']) (by simp [results, Try.results81, go_sem, f0, f1]) rfl ⟨A', c', ⟨8, L⟩, rfl, (by show L.length ≤ 60; omega), own_base (own_setN (own_setN ho hnr 0 (.int .i64 8)) hnr 1 (.slice A' L.length c')) hwB, ((hc.set hgr 0 (.int .i64 8)).set hgr 1 (.slice A' L.length c')).more (by omega), grown_set_new (grown_set_new hg hwr 0 (.int .i64 8)) hwr 1 (.slice A' L.length c')⟩
      have hv2' : (v == 2) = false := by simpa using hv2
      have kb0 := blk_cell BB (j := 0) rfl
      have kb1 := blk_cell BB (j := 1) rfl
      have z0 := blk_frozen RB 0
      have z1 := blk_frozen RB 1
      have r0 := blk_cell RB (j := 0) rfl
      have r1 := blk_cell RB (j := 1) rfl
      go_wp2
      have RF := Blk.setj (Blk.setj RB 0 (.int .i64 K)) 1 (.slice A' L.length c')
      have f0 := blk_cell RF (j := 0) rfl
      have f1 := blk_cell RF (j := 1) rfl
      have hnr : some r ≠ (Value.slice A' L.length c').ownBlock := own_ne ho hrB
      exact bodyPost_ret (v := .agg #[.int .i64 K, .slice A' L.length c']) (by simp [results, Try.results81, go_sem, f0, f1]) rfl ⟨A', c', ⟨K, L⟩, rfl, (by show L.length ≤ 60; omega), own_base (own_setN (own_setN ho hnr 0 (.int .i64 K)) hnr 1 (.slice A' L.length c')) hwB, ((hc.set hgr 0 (.int .i64 K)).set hgr 1 (.slice A' L.length c')).more (by omega), grown_set_new (grown_set_new hg hwr 0 (.int .i64 K)) hwr 1 (.slice A' L.length c')⟩
end Go.Proofs.Ytdbcbaahjhaonaa
