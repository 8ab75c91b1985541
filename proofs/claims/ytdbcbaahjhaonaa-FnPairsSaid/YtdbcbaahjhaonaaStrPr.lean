/-
  The laws' own helpers on pairs of ints and on a precedence: the size of an argument, its copy, equality, marks. Conditions: none of theirs.
-/
import Derived.Test.YtdbcbaahjhaonaaBase
import Derived.Test.YtdbcbaahjhaonaaPrecPure
import Derived.Test.YtdbcbaahjhaonaaRow
namespace Go.My
open Go.RowKit
def Pr.cells (s : Pr) : List Value := [.int .i64 s.a, .int .i64 s.b]
def prCells (xs : List Pr) : List Value := xs.flatMap Pr.cells
theorem prCells_len (xs : List Pr) : (prCells xs).length = xs.length * 2 := flat_length _ 2 (fun _ => rfl) xs
theorem Pr.cells_one (s : Pr) : ∀ u ∈ s.cells, u.oneCell' = true := by simp [Pr.cells, Value.oneCell']
theorem prCells_one (xs : List Pr) : ∀ u ∈ prCells xs, u.oneCell' = true := by
  intro u hu
  obtain ⟨s, _, hs⟩ := List.mem_flatMap.1 hu
  exact s.cells_one u hs
theorem prCells_succ (xs : List Pr) (k : Nat) (hk : k < xs.length) : prCells (xs.take (k + 1)) = prCells (xs.take k) ++ [.int .i64 xs[k].a, .int .i64 xs[k].b] := by
  unfold prCells
  rw [List.take_succ_eq_append_getElem hk, List.flatMap_append]
  rfl
theorem prCells_take (xs : List Pr) (k : Nat) (hk : k ≤ xs.length) : (prCells xs).take (k * 2) = prCells (xs.take k) := flat_take _ 2 (fun _ => rfl) xs k hk
theorem prCells_drop (xs : List Pr) (k : Nat) (hk : k ≤ xs.length) : (prCells xs).drop (k * 2) = prCells (xs.drop k) := flat_drop _ 2 (fun _ => rfl) xs k hk
theorem prCells_append (xs ys : List Pr) : prCells (xs ++ ys) = prCells xs ++ prCells ys := by simp [prCells]
theorem Rd.pr {w : World} {A : Option Addr} {xs : List Pr} (h : Rd w A (prCells xs)) {k : Nat} (hk : k < xs.length) :
    ∃ b off, A = some ⟨b, off, none⟩ ∧ w.cell? ⟨b, off + k * 2, none⟩ = some (.int .i64 xs[k].a) ∧ w.cell? ⟨b, off + k * 2 + 1, none⟩ = some (.int .i64 xs[k].b) := by
  obtain ⟨b, off, rfl, hc⟩ := Rd.at_ Pr.cells 2 (fun _ => rfl) h hk (by decide)
  exact ⟨b, off, rfl, hc 0 _ rfl, hc 1 _ rfl⟩
def Pr.mark (k : Int) : Pr := ⟨k, k + 1⟩
def prMarks (k : Int) : Nat → List Pr
  | 0 => []
  | n + 1 => prMarks k n ++ [Pr.mark (k + 2 * n)]
theorem prMarks_len (k : Int) (n : Nat) : (prMarks k n).length = n := by
  induction n with
  | zero => rfl
  | succ n ih => simp [prMarks, ih]
theorem prMarks_get (k : Int) (n i : Nat) (h : i < (prMarks k n).length) : (prMarks k n)[i] = Pr.mark (k + 2 * i) := by
  induction n with
  | zero => simp [prMarks] at h
  | succ n ih =>
    simp only [prMarks]
    by_cases hi : i < (prMarks k n).length
    · rw [List.getElem_append_left hi, ih hi]
    · have : i = n := by rw [prMarks_len] at h hi; omega
      subst this
      rw [List.getElem_append_right (by omega)]
      simp
theorem prMarks_succ (k : Int) (n : Nat) : prCells (prMarks k (n + 1)) = prCells (prMarks k n) ++ (Pr.mark (k + 2 * n)).cells := by
  simp [prMarks, prCells]
theorem pr_sets (L : List Value) (p : Nat) (v0 v1 : Value) (h : p + 2 ≤ L.length) : ((L.set p v0).set (p + 1) v1).take (p + 2) = L.take p ++ [v0, v1] := by
  rw [show p + 2 = p + 1 + 1 from rfl, take_set_next _ _ _ (by simp only [List.length_set]; omega), take_set_next _ _ _ (by omega)]
  simp
theorem Rd.prHeld {w : World} {A : Option Addr} {k : Int} {n j : Nat} (h : Rd w A (prCells (prMarks k n))) (hj : j < n) :
    ∃ b off, A = some ⟨b, off, none⟩ ∧ w.cell? ⟨b, off + j * 2, none⟩ = some (.int .i64 (k + 2 * j)) ∧ w.cell? ⟨b, off + j * 2 + 1, none⟩ = some (.int .i64 (k + 2 * j + 1)) := by
  have hl : j < (prMarks k n).length := by rw [prMarks_len]; exact hj
  obtain ⟨b, off, rfl, c0, c1⟩ := Rd.pr h hl
  rw [prMarks_get] at c0 c1
  exact ⟨b, off, rfl, c0, c1⟩
theorem cell_below' {w w' : World} {p : Addr} {v : Value} (h : w.cell? p = some v) (hb : Below w.heap.size w w') : w'.cell? p = some v := (hb.cell (World.block_lt_of_cell? w _ h)).trans h
theorem Blk.frozen {w : World} {g : Nat} {e : TypeId} {L : List Value} (h : Blk w g e L) (o : Nat) : w.frozen? ⟨g, o, none⟩ = false := by
  unfold World.frozen?; rw [show w.heap[g]? = _ from h]; simp
theorem Blk.cell {w : World} {g : Nat} {e : TypeId} {L : List Value} (h : Blk w g e L) {j : Nat} {v : Value} (hj : L[j]? = some v) : w.cell? ⟨g, j, none⟩ = some v := by
  rw [cell_of_row w g j _ e (0, 0) h]; simpa using hj
theorem Blk.made {w : World} {g : Nat} {e : TypeId} (cs : Array Value) (hg : g = w.heap.size) : Blk (w.alloc (.cells cs e)) g e cs.toList := by
  subst hg; unfold Blk; exact heap_alloc_new w _
theorem own_set_other {w : World} {B : Nat} {e : TypeId} {size n : Nat} {v : Value} {xs : List Value} (h : w.ownsRow B e size v n xs) {g : Nat} (hg : g < B) (j : Nat) (u : Value) : (w.setCell ⟨g, j, none⟩ u).ownsRow B e size v n xs :=
  h.kept (grown_set (World.grownBy.refl w (some g)) j u) (.inr (Ne.symm (own_ne h hg)))
structure Prec where
  kinds : Int
  over : List Pr
theorem szStep_ok {l n : Int} (h : 0 ≤ szStep l n) : szStep l n ≤ l - n ∧ n ≤ l := by
  unfold szStep at h ⊢
  split at h <;> split <;> omega
end Go.My
namespace Go.Proofs.Ytdbcbaahjhaonaa
open Go.RowKit Go.My
theorem el_Pr : ElemOk Try.prog 22 52 2 16 := elemOk_mk Try.underlying22 (by kernel_rfl) (z := .agg #[.int .i64 0, .int .i64 0]) rfl (by decide)
theorem zv_Pr (w : World) : (zeroValue 52).run Try.prog w = .ok (.agg #[.int .i64 0, .int .i64 0]) w := by kernel_rfl
set_option maxHeartbeats 400000 in
theorem szPrs_any (A : Option Addr) (c : Nat) (xs : List Pr) (l : Int) (w : World) (h0 : 0 ≤ l) (h1 : l ≤ 1048576) (hn : xs.length ≤ maxLen) :
    Calls Try.prog 51 #[.slice A xs.length c, .int .i64 l] w fun e w' => e = .returned (.int .i64 (szStep l xs.length)) ∧ Below w.heap.size w w' := by
  unfold maxLen at hn
  by_cases h : l - (xs.length : Int) < 0
  · rw [show szStep l xs.length = -1 by unfold szStep; rw [if_pos h]]
    go_enter Try.func51, Try.ntmps51
    go_wp2
    go_ret
    exact ⟨rfl, Below.refl _ _⟩
  · rw [show szStep l xs.length = l - xs.length by unfold szStep; rw [if_neg h]]
    go_enter Try.func51, Try.ntmps51
    go_wp2
    go_ret
    exact ⟨rfl, Below.refl _ _⟩
set_option maxHeartbeats 400000 in
theorem szPrec_any (A : Option Addr) (c : Nat) (p : Prec) (l : Int) (w : World) (h0 : 0 ≤ l) (h1 : l ≤ 1048576) (hn : p.over.length ≤ maxLen) (_ : Rd w A (prCells p.over)) :
    Calls Try.prog 14 #[.agg #[.int .i64 p.kinds, .slice A p.over.length c], .int .i64 l] w fun e w' => e = .returned (.int .i64 (szStep l p.over.length)) ∧ Below w.heap.size w w' := by
  have Hc := Lib.hid (fun w1 => szPrs_any A c p.over l w1 h0 h1 hn)
  by_cases h : szStep l p.over.length < 0
  · have he : szStep l p.over.length = -1 := by
      unfold szStep at h ⊢
      by_cases h2 : l - (p.over.length : Int) < 0
      · rw [if_pos h2]
      · rw [if_neg h2] at h; omega
    rw [he] at Hc ⊢
    clear h he
    go_enter Try.func14, Try.ntmps14
    go_wp2_with (go_at_call 51; refine (Hc.out _).mono ?_; rintro e w1 ⟨rfl, hb1⟩)
    go_ret
    exact ⟨rfl, btr (bnew (Below.refl _ _) _) hb1⟩
  · generalize szStep l p.over.length = v at *
    go_enter Try.func14, Try.ntmps14
    go_wp2_with (go_at_call 51; refine (Hc.out _).mono ?_; rintro e w1 ⟨rfl, hb1⟩)
    go_ret
    exact ⟨rfl, btr (bnew (Below.refl _ _) _) hb1⟩
set_option maxHeartbeats 1000000 in
theorem toPr_any (s : Pr) (w : World) :
    Calls Try.prog 85 #[.agg #[.int .i64 s.a, .int .i64 s.b]] w fun e w' => e = .returned (.agg #[.int .i64 s.a, .int .i64 s.b]) ∧ Below w.heap.size w w' := by
  go_enter Try.func85, Try.ntmps85
  go_wp2
  refine wp_loop_rounds 3 ?_
  rw [rounds_succ]
  go_wp2
  rw [rounds_succ]
  go_wp2
  rw [rounds_succ]
  go_wp2
  exact bodyPost_ret (v := .agg #[.int .i64 s.a, .int .i64 s.b]) (by simp [results, Try.results85, go_sem]) rfl ⟨rfl, bnew (bnew (bnew (Below.refl _ _) _) _) _⟩
set_option maxHeartbeats 1000000 in
theorem toPrs_any (A : Option Addr) (c : Nat) (xs : List Pr) (w : World) (hn : xs.length ≤ 1048576) (hx : Rd w A (prCells xs)) :
    Calls Try.prog 53 #[.slice A xs.length c] w fun e w' => ∃ A' c', e = .returned (.slice A' xs.length c') ∧ w'.ownsRow w.heap.size 52 2 (.slice A' xs.length c') xs.length (prCells xs) ∧ Below w.heap.size w w' := by
  go_enter Try.func53, Try.ntmps53
  go_wp2_with (at_make; refine wpl_make rfl (.tmp 6) (.tmp 6) 22 rfl el_Pr rfl rfl rfl rfl (by omega) (by unfold maxLen; omega) (Nat.le_refl _) ?_; intro L0 w1 hL0 ho1 hg1)
  go_loopw [4] (fun i wr => ∃ k : Nat, ∃ L : List Value, k ≤ xs.length ∧ i = .int .i64 k ∧ Hid (L.length = xs.length * 2) ∧ Hid (L.take (k * 2) = prCells (xs.take k)) ∧ wr.ownsRow w.heap.size 52 2 (.slice (some ⟨w.heap.size, 0, none⟩) xs.length xs.length) xs.length L ∧ Below w.heap.size w wr) (fun i _ => xs.length - (intOf i).toNat)
  case atStart => exact ⟨0, L0, by omega, rfl, hL0, by simp [Hid, prCells], ho1, below_grown hg1 (Nat.le_refl _) (by simp)⟩
  case round =>
    obtain ⟨k, L, hk, rfl, hL, H, ho, hb⟩ := hrel
    clear ho1 hg1 hL0
    by_cases hlt : k < xs.length
    · obtain ⟨b, off, rfl, c0, c1⟩ := Rd.pr (hx.below hb) hlt
      have Hs := Lib.hid (prCells_succ xs k hlt)
      generalize xs[k] = s at *
      have hlL := hL.out
      go_wp2_with fail
      refine (toPr_any s _).mono ?_
      rintro e w2 ⟨rfl, hb2⟩
      have ho2 := own_below ho hb2
      obtain ⟨u0, f0⟩ := own_some ho2 (k * 2) (by omega)
      have z0 := ho2.frozenAt (k * 2)
      obtain ⟨u1, f1⟩ := own_some ho2 (k * 2 + 1) (by omega)
      have z1 := ho2.frozenAt (k * 2 + 1)
      have Hn := Lib.hid (pr_sets L (k * 2) (.int .i64 s.a) (.int .i64 s.b) (by omega))
      have Hm : Hid (∀ M : List Value, M.take (k * 2 + 2) = L.take (k * 2) ++ [.int .i64 s.a, .int .i64 s.b] → M.take ((k + 1) * 2) = prCells (xs.take (k + 1))) := by
        intro M hM
        rw [show (k + 1) * 2 = k * 2 + 2 by omega, hM, Hs.out, H.out]
      clear H Hs hlL
      go_wp2
      go_roundw
      case rel => exact ⟨k + 1, _, by omega, by go_num, by simpa using hL, Hm.out _ Hn.out, own_set (own_set ho2 _ _) _ _, ((btr hb hb2).setCell (Nat.le_refl _) _).setCell (Nat.le_refl _) _⟩
      case measure => simp [intOf]; omega
    · have hL' := hL.out
      have HL : Hid (L = prCells xs) := by
        have := H.out
        rw [List.take_of_length_le (by omega), List.take_of_length_le (by omega)] at this
        exact this
      clear H hL hL'
      go_wp2
      go_ret
      exact ⟨_, _, rfl, HL.out ▸ ho, hb⟩
set_option maxHeartbeats 1000000 in
theorem toPrec_any (A : Option Addr) (c : Nat) (p : Prec) (w : World) (hn : p.over.length ≤ 1048576) (hx : Rd w A (prCells p.over)) :
    Calls Try.prog 16 #[.agg #[.int .i64 p.kinds, .slice A p.over.length c]] w fun e w' => ∃ A' c', e = .returned (.agg #[.int .i64 p.kinds, .slice A' p.over.length c']) ∧ w'.ownsRow w.heap.size 52 2 (.slice A' p.over.length c') p.over.length (prCells p.over) ∧ Below w.heap.size w w' := by
  have Hc : Hid (∀ w1, Below w.heap.size w w1 → _) := fun w1 hb => toPrs_any A c p.over w1 hn (hx.below hb)
  obtain ⟨ks, xs⟩ := p
  simp only at hn hx Hc ⊢
  generalize prCells xs = cs at *
  have hbW : Below w.heap.size w (((w.alloc (.cells #[.int .i64 ks, .slice A xs.length c] 24)).alloc (.cells #[.int .i64 0, .slice none 0 0] 27)).alloc (.cells #[.int .i64 ks, .slice none 0 0] 27)) := bnew (bnew (bnew (Below.refl _ _) _) _) _
  have B1 : Blk (((w.alloc (.cells #[.int .i64 ks, .slice A xs.length c] 24)).alloc (.cells #[.int .i64 0, .slice none 0 0] 27)).alloc (.cells #[.int .i64 ks, .slice none 0 0] 27)) (w.heap.size + 1) 27 [.int .i64 0, .slice none 0 0] := (Blk.made #[.int .i64 0, .slice none 0 0] (by simp)).below (bnew (Below.refl _ _) _)
  have B2 : Blk (((w.alloc (.cells #[.int .i64 ks, .slice A xs.length c] 24)).alloc (.cells #[.int .i64 0, .slice none 0 0] 27)).alloc (.cells #[.int .i64 ks, .slice none 0 0] 27)) (w.heap.size + 1 + 1) 27 [.int .i64 ks, .slice none 0 0] := Blk.made #[.int .i64 ks, .slice none 0 0] (by simp)
  go_enter Try.func16, Try.ntmps16
  go_wp2_with fail
  generalize (((w.alloc (.cells #[.int .i64 ks, .slice A xs.length c] 24)).alloc (.cells #[.int .i64 0, .slice none 0 0] 27)).alloc (.cells #[.int .i64 ks, .slice none 0 0] 27)) = W at *
  refine (Hc.out W hbW).mono ?_
  rintro e w1 ⟨A', c', rfl, ho1, hb1⟩
  have B2lt := B2.lt
  replace B1 := B1.below hb1
  replace B2 := B2.below hb1
  have k1a := B1.cell (j := 0) rfl
  have k1b := B1.cell (j := 1) rfl
  have k2a := B2.cell (j := 0) rfl
  have k2b := B2.cell (j := 1) rfl
  have z1a := B1.frozen 0
  have z1b := B1.frozen 1
  have z2b := B2.frozen 1
  have hsW : w.heap.size + 1 + 1 < W.heap.size := B2lt
  go_wp2_with fail
  exact bodyPost_ret (v := .agg #[.int .i64 ks, .slice A' xs.length c']) (by simp [results, Try.results16, go_sem, k1a, k1b]) rfl ⟨A', c', rfl, own_base (own_set_other (own_set_other (own_set_other ho1 hsW _ _) (by omega) _ _) (by omega) _ _) (by omega), Below.setCell (Below.setCell (Below.setCell (btr hbW hb1) (by simp; omega) _) (by simp) _) (by simp) _⟩
set_option maxHeartbeats 1000000 in
theorem eqPr_same (s : Pr) (w : World) :
    Calls Try.prog 65 #[.agg #[.int .i64 s.a, .int .i64 s.b], .agg #[.int .i64 s.a, .int .i64 s.b]] w fun e w' => e = .returned (.bool true) ∧ Below w.heap.size w w' := by
  have HB : Hid (Below w.heap.size w ((w.alloc (.cells #[.int .i64 s.a, .int .i64 s.b] 52)).alloc (.cells #[.int .i64 s.a, .int .i64 s.b] 52))) := bnew (bnew (Below.refl _ _) _) _
  have B1 : Blk ((w.alloc (.cells #[.int .i64 s.a, .int .i64 s.b] 52)).alloc (.cells #[.int .i64 s.a, .int .i64 s.b] 52)) w.heap.size 52 [.int .i64 s.a, .int .i64 s.b] := (Blk.made #[.int .i64 s.a, .int .i64 s.b] rfl).below (bnew (Below.refl _ _) _)
  have B2 : Blk ((w.alloc (.cells #[.int .i64 s.a, .int .i64 s.b] 52)).alloc (.cells #[.int .i64 s.a, .int .i64 s.b] 52)) (w.heap.size + 1) 52 [.int .i64 s.a, .int .i64 s.b] := Blk.made #[.int .i64 s.a, .int .i64 s.b] (by simp)
  go_enter Try.func65, Try.ntmps65
  go_wp2_with fail
  generalize (w.alloc (.cells #[.int .i64 s.a, .int .i64 s.b] 52)).alloc (.cells #[.int .i64 s.a, .int .i64 s.b] 52) = W at *
  refine wp_loop_rounds 3 ?_
  rw [rounds_succ]
  have g0 := cell_after (B1.cell (j := 0) rfl)
  have g1 := cell_after (B2.cell (j := 0) rfl)
  go_wp2_with fail
  refine wp_region_after (by kernel_rfl) (by kernel_rfl) ?_
  repeat (go_big_quiet_step (fail))
  refine wpQuiet_nil ?_
  intro nq
  have hb1 := nq.bel
  replace B1 := B1.below hb1
  replace B2 := B2.below hb1
  replace HB := Lib.hid (btr HB.out hb1)
  clear g0 g1
  generalize nq.val = W1 at *
  clear nq hb1
  go_wp2_with fail
  rw [rounds_succ]
  have g0 := cell_after (B1.cell (j := 1) rfl)
  have g1 := cell_after (B2.cell (j := 1) rfl)
  go_wp2_with fail
  refine wp_region_after (by kernel_rfl) (by kernel_rfl) ?_
  repeat (go_big_quiet_step (fail))
  refine wpQuiet_nil ?_
  intro nq
  have hb1 := nq.bel
  replace HB := Lib.hid (btr HB.out hb1)
  clear g0 g1
  generalize nq.val = W2 at *
  clear nq hb1
  go_wp2_with fail
  rw [rounds_succ]
  go_wp2
  go_ret
  exact ⟨rfl, HB.out⟩
set_option maxHeartbeats 1000000 in
theorem eqPrs_same (A A' : Option Addr) (c c' : Nat) (xs : List Pr) (w : World) (hn : xs.length ≤ maxLen) (hx : Rd w A (prCells xs)) (hx' : Rd w A' (prCells xs)) :
    Calls Try.prog 31 #[.slice A xs.length c, .slice A' xs.length c'] w fun e w' => e = .returned (.bool true) ∧ Below w.heap.size w w' := by
  unfold maxLen at hn
  go_enter Try.func31, Try.ntmps31
  go_wp2
  go_loopw [5] (fun i wr => ∃ k : Nat, k ≤ xs.length ∧ i = .int .i64 k ∧ Below w.heap.size w wr) (fun i _ => xs.length - (intOf i).toNat)
  case atStart => exact ⟨0, by omega, rfl, Below.refl _ _⟩
  case round =>
    obtain ⟨k, hk, rfl, hb⟩ := hrel
    by_cases hlt : k < xs.length
    · obtain ⟨b, off, rfl, c0, c1⟩ := Rd.pr (hx.below hb) hlt
      obtain ⟨b', off', rfl, d0, d1⟩ := Rd.pr (hx'.below hb) hlt
      have g0 := cell_after c0
      have q0 := cell_after d0
      have g1 := cell_after c1
      have q1 := cell_after d1
      have hkI : (k : Int) < (xs.length : Int) := by omega
      clear hx hx' c0 d0 c1 d1
      generalize hs : xs[k] = s at *
      clear hs
      go_wp2_with fail
      refine wp_region_after (by kernel_rfl) (by kernel_rfl) ?_
      repeat (go_big_quiet_step ((go_at_call 65; exact Calls.after (eqPr_same s _))))
      refine wpQuiet_nil ?_
      intro nq
      go_wp2
      go_roundw
      case rel => exact ⟨k + 1, by omega, by go_num, hb.trans (nq.bel.mono hb.size)⟩
      case measure => simp [intOf]; omega
    · go_wp2
      go_ret
      exact ⟨rfl, hb⟩
set_option maxHeartbeats 1000000 in
theorem eqPrec_same (A A' : Option Addr) (c c' : Nat) (p : Prec) (w : World) (hn : p.over.length ≤ maxLen) (hx : Rd w A (prCells p.over)) (hx' : Rd w A' (prCells p.over)) :
    Calls Try.prog 18 #[.agg #[.int .i64 p.kinds, .slice A p.over.length c], .agg #[.int .i64 p.kinds, .slice A' p.over.length c']] w fun e w' => e = .returned (.bool true) ∧ Below w.heap.size w w' := by
  obtain ⟨ks, xs⟩ := p
  simp only at hn hx hx' ⊢
  have Hc : Hid (∀ w1, Below w.heap.size w w1 → _) := fun w1 hb => eqPrs_same A A' c c' xs w1 hn (hx.below hb) (hx'.below hb)
  have HB : Hid (Below w.heap.size w ((w.alloc (.cells #[.int .i64 ks, .slice A xs.length c] 27)).alloc (.cells #[.int .i64 ks, .slice A' xs.length c'] 27))) := bnew (bnew (Below.refl _ _) _) _
  have B1 : Blk ((w.alloc (.cells #[.int .i64 ks, .slice A xs.length c] 27)).alloc (.cells #[.int .i64 ks, .slice A' xs.length c'] 27)) w.heap.size 27 [.int .i64 ks, .slice A xs.length c] := (Blk.made #[.int .i64 ks, .slice A xs.length c] rfl).below (bnew (Below.refl _ _) _)
  have B2 : Blk ((w.alloc (.cells #[.int .i64 ks, .slice A xs.length c] 27)).alloc (.cells #[.int .i64 ks, .slice A' xs.length c'] 27)) (w.heap.size + 1) 27 [.int .i64 ks, .slice A' xs.length c'] := Blk.made #[.int .i64 ks, .slice A' xs.length c'] (by simp)
  clear hx hx'
  go_enter Try.func18, Try.ntmps18
  go_wp2_with (go_at_call 31; refine (Hc.out _ HB.out).mono ?_; rintro e w1 ⟨rfl, hb1⟩)
  go_ret
  exact ⟨rfl, btr HB.out hb1⟩
set_option maxHeartbeats 1000000 in
theorem markPrs_any (A : Option Addr) (c : Nat) (B n : Nat) (cs : List Value) (k : Int) (w : World) (h0 : 0 ≤ k) (h1 : k ≤ 8000000) (hn : n ≤ 2097152) (hx : w.ownsRow B 52 2 (.slice A n c) n cs) :
    Calls Try.prog 32 #[.slice A n c, .int .i64 k] w fun e w' => e = .returned (.int .i64 (k + 2 * n)) ∧ w'.ownsRow B 52 2 (.slice A n c) n (prCells (prMarks k n)) ∧ w.grownBy w' (Value.slice A n c).ownBlock := by
  go_enter Try.func32, Try.ntmps32
  go_wp2
  go_loopw [1, 5] (fun q i wr => ∃ j : Nat, ∃ L : List Value, j ≤ n ∧ i = .int .i64 j ∧ q = .int .i64 (k + 2 * j) ∧ Hid (L.length = n * 2) ∧ Hid (L.take (j * 2) = prCells (prMarks k j)) ∧ wr.ownsRow B 52 2 (.slice A n c) n L ∧ w.grownBy wr (Value.slice A n c).ownBlock) (fun _ i _ => n - (intOf i).toNat)
  case atStart => exact ⟨0, cs, by omega, rfl, by simp, hx.1, by simp [Hid, prMarks, prCells], hx, World.grownBy.refl _ _⟩
  case round =>
    obtain ⟨j, L, hj, rfl, rfl, hL, H, ho, hg⟩ := hrel
    clear hx
    by_cases hlt : j < n
    · obtain ⟨g, rfl, hB, hgs⟩ := own_at ho (by omega)
      obtain ⟨u0, f0⟩ := own_some ho (j * 2) (by omega)
      have z0 := ho.frozenAt (j * 2)
      have ho2 := own_set ho (j * 2) (.int .i64 (k + 2 * j))
      obtain ⟨u1, f1⟩ := own_some ho2 (j * 2 + 1) (by omega)
      have z1 := ho2.frozenAt (j * 2 + 1)
      have Hm : Hid (((L.set (j * 2) (.int .i64 (k + 2 * j))).set (j * 2 + 1) (.int .i64 (k + 2 * j + 1))).take ((j + 1) * 2) = prCells (prMarks k (j + 1))) := by
        show _ = _
        rw [prMarks_succ, show (j + 1) * 2 = j * 2 + 2 by omega, pr_sets L (j * 2) _ _ (by have := hL.out; omega), H.out]
        rfl
      clear H
      go_wp2_with fail
      refine wp_loop_rounds 3 ?_
      rw [rounds_succ]
      go_wp2_with fail
      rw [rounds_succ]
      go_wp2_with fail
      rw [rounds_succ]
      go_wp2_with fail
      go_roundw
      case rel => exact ⟨j + 1, _, by omega, by go_num, by go_num, by simpa using hL, Hm, own_set ho2 _ _, grown_set (grown_set hg _ _) _ _⟩
      case measure => simp [intOf]; omega
    · have hL' := hL.out
      have HL : Hid (L = prCells (prMarks k n)) := by
        have := H.out
        rw [List.take_of_length_le (by omega), show j = n by omega] at this
        exact this
      have hjn : j = n := by omega
      have HJ := Lib.hid hjn
      clear H hL hL' hjn
      go_wp2
      go_ret
      exact ⟨by rw [HJ.out]; rfl, HL.out ▸ ho, hg⟩
set_option maxHeartbeats 2000000 in
set_option maxRecDepth 100000 in
theorem heldPrs_any (A : Option Addr) (c : Nat) (n : Nat) (k : Int) (w : World) (h0 : 0 ≤ k) (h1 : k ≤ 8000000) (hn : n ≤ 2097152) (hx : Rd w A (prCells (prMarks k n))) :
    Calls Try.prog 33 #[.slice A n c, .int .i64 k] w fun e w' => e = .returned (.int .i64 (k + 2 * n)) ∧ Below w.heap.size w w' := by
  go_enter Try.func33, Try.ntmps33
  go_wp2
  go_loopw [1, 5] (fun q i wr => ∃ j : Nat, j ≤ n ∧ i = .int .i64 j ∧ q = .int .i64 (k + 2 * j) ∧ Below w.heap.size w wr) (fun _ i _ => n - (intOf i).toNat)
  case atStart => exact ⟨0, by omega, rfl, by simp, Below.refl _ _⟩
  case round =>
    obtain ⟨j, hj, rfl, rfl, hb⟩ := hrel
    by_cases hlt : j < n
    · obtain ⟨b, off, rfl, c0, c1⟩ := Rd.prHeld (hx.below hb) hlt
      have e0 : ((k + 2 * (j : Int)) != (k + 2 * (j : Int))) = false := by simp
      have e1 : ((k + 2 * (j : Int) + 1) != (k + 2 * (j : Int) + 1)) = false := by simp
      have hjI : (j : Int) < (n : Int) := by omega
      clear hx
      go_wp2_with fail
      refine wp_loop_rounds 3 ?_
      rw [rounds_succ]
      go_wp2_with fail
      rw [rounds_succ]
      go_wp2_with fail
      rw [rounds_succ]
      go_wp2_with fail
      go_roundw
      case rel => exact ⟨j + 1, by omega, by go_num, by go_num, hb⟩
      case measure => simp [intOf]; omega
    · have HJ := Lib.hid (show j = n by omega)
      go_wp2
      go_ret
      exact ⟨by rw [HJ.out]; rfl, hb⟩
set_option maxHeartbeats 400000 in
theorem markPrec_any (A : Option Addr) (c : Nat) (ks : Int) (B n : Nat) (cs : List Value) (k : Int) (w : World) (h0 : 0 ≤ k) (h1 : k ≤ 8000000) (hn : n ≤ 2097152) (hx : w.ownsRow B 52 2 (.slice A n c) n cs) :
    Calls Try.prog 24 #[.agg #[.int .i64 ks, .slice A n c], .int .i64 k] w fun e w' => e = .returned (.int .i64 (k + 2 * n)) ∧ w'.ownsRow B 52 2 (.slice A n c) n (prCells (prMarks k n)) ∧ w.grownBy w' (Value.slice A n c).ownBlock := by
  have Hc := Lib.hid (markPrs_any A c B n cs k (w.alloc (.cells #[.int .i64 ks, .slice A n c] 27)) h0 h1 hn (own_below hx (bnew (Below.refl _ _) _)))
  have HN : Hid (w.grownBy (w.alloc (.cells #[.int .i64 ks, .slice A n c] 27)) (Value.slice A n c).ownBlock) := grown_below (World.grownBy.refl w _) (bnew (Below.refl _ _) _)
  go_enter Try.func24, Try.ntmps24
  go_wp2_with (go_at_call 32; refine Hc.out.mono ?_; rintro e w1 ⟨rfl, ho1, hg1⟩)
  go_ret
  exact ⟨rfl, ho1, grown_trans HN.out hg1⟩
set_option maxHeartbeats 400000 in
theorem heldPrec_any (A : Option Addr) (c : Nat) (ks : Int) (n : Nat) (k : Int) (w : World) (h0 : 0 ≤ k) (h1 : k ≤ 8000000) (hn : n ≤ 2097152) (hx : Rd w A (prCells (prMarks k n))) :
    Calls Try.prog 42 #[.agg #[.int .i64 ks, .slice A n c], .int .i64 k] w fun e w' => e = .returned (.int .i64 (k + 2 * n)) ∧ Below w.heap.size w w' := by
  have Hc : Hid (∀ w1, Below w.heap.size w w1 → _) := fun w1 hb => heldPrs_any A c n k w1 h0 h1 hn (hx.below hb)
  have hkk : ¬ k + 2 * (n : Int) < 0 := by omega
  have hbW := bnew (Below.refl w.heap.size w) (.cells #[.int .i64 ks, .slice A n c] 27)
  go_enter Try.func42, Try.ntmps42
  go_wp2_with (go_at_call 33; refine (Hc.out _ hbW).mono ?_; rintro e w1 ⟨rfl, hb1⟩)
  go_ret
  exact ⟨rfl, btr hbW hb1⟩
end Go.Proofs.Ytdbcbaahjhaonaa
