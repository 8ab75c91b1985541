/-
  Draws of members, numbers and offices. Conditions: none.
-/
import Derived.Test.YtidmdppcamgaoaaMemD
namespace Go.Proofs.Ytidmdppcamgaoaa
open Go.RowKit Go.My
theorem own_snocI {w : World} {B n : Nat} {A : Option Addr} {c : Nat} {L : List Int} {m : Int} (h : w.ownsRow B 3 1 (.slice A (n + 1) c) (n + 1) (intCells L ++ [.int .i64 m])) (hn : n = L.length := by rfl) : w.ownsRow B 3 1 (.slice A (L ++ [m]).length c) (L ++ [m]).length (intCells (L ++ [m])) := by
  subst hn
  have e : intCells (L ++ [m]) = intCells L ++ [.int .i64 m] := by simp [intCells]
  rw [e, List.length_append]; exact h
set_option maxHeartbeats 4000000 in
theorem memberNumber_any (g N B : Nat) (A : Option Addr) (c : Nat) (xs : List Mem) (w : World) (h : Cur w g N 76) (hN : N ≤ 500000000000) (hn : xs.length ≤ 13) (ho : w.ownsRow B 60 3 (.slice A xs.length c) xs.length (memCells xs)) (hlt : g < B) :
    Calls Try.prog 58 #[.pointer (some ⟨g, 0, none⟩), .slice A xs.length c] w fun e w' => ∃ v : Int, e = .returned (.int .i64 v) ∧ Cur w' g (N + 5) 76 ∧ w.grownBy w' (some g) := by
  have hc := h
  have hg := World.grownBy.refl w (some g)
  clear h
  by_cases h0 : xs.length = 0
  · go_enter Try.func58, Try.ntmps58
    go_wp2_with fail
    have hbA := bnew (Below.refl w.heap.size w) (.cells #[.int .i64 0, .int .i64 1, .int .i64 5, .int .i64 50] 3)
    refine (among_any g _ _ 4 4 _ (fun _ => true) _ (hc.below hbA) (by omega) rfl (by decide) (by decide) Rd.made (by decide) (fun ad e => by cases e; simp; have := hc.lt; omega)).mono ?_
    rintro e w9 ⟨v, rfl, -, hc9, hg9⟩
    replace ho := World.ownsRow.kept (own_below ho hbA) hg9 (.inr (Ne.symm (own_ne ho hlt)))
    replace hg := grown_trans (grown_below hg hbA) hg9
    clear hbA
    replace hc := hc9
    clear hc9 hg9
    generalize w9 = W at *
    go_wp2
    go_ret
    exact ⟨v, rfl, hc.more (by omega), hg⟩
  · have h0I : ((xs.length : Int) == 0) = false := by rw [beq_eq_false_iff_ne]; omega
    have h0J : ¬ (xs.length : Int) = 0 := by omega
    go_enter Try.func58, Try.ntmps58
    go_wp2_with fail
    refine (one_any g _ 8 _ hc (by omega)).mono ?_
    rintro e w9 ⟨b, rfl, hc9, hg9⟩
    replace ho := World.ownsRow.kept ho hg9 (.inr (Ne.symm (own_ne ho hlt)))
    replace hg := grown_trans hg hg9
    replace hc := hc9
    clear hc9 hg9
    generalize w9 = W at *
    cases b with
    | true =>
      go_wp2_with fail
      have hbA := bnew (Below.refl W.heap.size W) (.cells #[.int .i64 0, .int .i64 1, .int .i64 5, .int .i64 50] 3)
      refine (among_any g _ _ 4 4 _ (fun _ => true) _ (hc.below hbA) (by omega) rfl (by decide) (by decide) Rd.made (by decide) (fun ad e => by cases e; simp; have := hc.lt; omega)).mono ?_
      rintro e w9 ⟨v, rfl, -, hc9, hg9⟩
      replace ho := World.ownsRow.kept (own_below ho hbA) hg9 (.inr (Ne.symm (own_ne ho hlt)))
      replace hg := grown_trans (grown_below hg hbA) hg9
      clear hbA
      replace hc := hc9
      clear hc9 hg9
      generalize w9 = W at *
      go_wp2
      go_ret
      exact ⟨v, rfl, hc.more (by omega), hg⟩
    | false =>
      go_wp2_with fail
      refine (pick_any g _ (xs.length : Int) _ hc (by omega)).mono ?_
      rintro e w9 ⟨v, rfl, hv, hc9, hg9⟩
      replace ho := World.ownsRow.kept ho hg9 (.inr (Ne.symm (own_ne ho hlt)))
      replace hg := grown_trans hg hg9
      replace hc := hc9
      clear hc9 hg9
      generalize w9 = W at *
      obtain ⟨k, rfl⟩ : ∃ m : Nat, v = m := ⟨v.toNat, by omega⟩
      have hk : k < xs.length := by have := hv.2.1 (by omega); omega
      have hkI : (k : Int) < (xs.length : Int) := by omega
      obtain ⟨b, off, rfl, c0, c1, c2⟩ := Rd.mem (own_rd ho) hk
      generalize xs[k] = s at *
      go_wp2
      go_ret
      exact ⟨s.num, rfl, hc.more (by omega), hg⟩
set_option maxHeartbeats 8000000 in
theorem present_any (g N B : Nat) (A : Option Addr) (c : Nat) (xs : List Mem) (w : World) (h : Cur w g N 76) (hN : N ≤ 500000000000) (hn : xs.length ≤ 13) (hxs : w.ownsRow B 60 3 (.slice A xs.length c) xs.length (memCells xs)) (hlx : g < B) :
    Calls Try.prog 67 #[.pointer (some ⟨g, 0, none⟩), .slice A xs.length c] w fun e w' => ∃ A' c', ∃ ps : List Int, e = .returned (.slice A' ps.length c') ∧ ps.length ≤ 14 ∧ w'.ownsRow w.heap.size 3 1 (.slice A' ps.length c') ps.length (intCells ps) ∧ w'.ownsRow B 60 3 (.slice A xs.length c) xs.length (memCells xs) ∧ Cur w' g (N + 40) 76 ∧ w.grownBy w' (some g) := by
  have hlt := h.lt
  have ht0 := own_top hxs
  go_enter Try.func67, Try.ntmps67
  go_wp2_with fail
  have hbE := bnew (Below.refl w.heap.size w) (.cells #[] 3)
  have ho := own_lit (e := 3) (size := 1) (B := w.heap.size) (w := w) #[] 0 (Nat.le_refl _) (by unfold maxLen; omega) rfl
  have hc := h.below hbE
  have hx := own_below hxs hbE
  have hg := grown_wide (row := some g) (grown_of_below hbE)
  clear hbE h hxs
  generalize w.alloc (.cells #[] 3) = W at *
  obtain ⟨r, hr⟩ : ∃ r, r = w.heap.size := ⟨_, rfl⟩
  rw [← hr] at ho ⊢
  have hgr : g < r := by omega
  have hrw : w.heap.size ≤ r := by omega
  have hrw2 : r ≤ w.heap.size := by omega
  have ht : ∀ k, (Value.slice A xs.length c).ownBlock = some k → k < r := fun k hk => by have := ht0 k hk; omega
  clear hr ht0
  go_loopw [5, 6] (fun l q wr => ∃ (A' : Option Addr) (c' : Nat) (L : List Int) (k : Nat), l = .slice A' L.length c' ∧ q = .int .i64 k ∧ k ≤ xs.length ∧ L.length ≤ k ∧ Cur wr g (N + 2 * k) 76 ∧ wr.ownsRow r 3 1 (.slice A' L.length c') L.length (intCells L) ∧ wr.ownsRow B 60 3 (.slice A xs.length c) xs.length (memCells xs) ∧ w.grownBy wr (some g)) (fun _ q _ => xs.length - (intOf q).toNat)
  case atStart => exact ⟨_, _, [], 0, rfl, rfl, by omega, by simp, hc, by simpa [intCells] using ho, hx, hg⟩
  case round =>
    clear hc ho hg hx
    obtain ⟨A', c', L, k, rfl, rfl, hk, hLk, hc, ho, hx, hg⟩ := hrel
    generalize wr = W at *
    by_cases hlk : k < xs.length
    · have hkI : (k : Int) < (xs.length : Int) := by omega
      go_wp2_with fail
      refine (one_any g _ 2 _ hc (by omega)).mono ?_
      rintro e w9 ⟨b, rfl, hc9, hg9⟩
      replace ho := World.ownsRow.kept ho hg9 (.inr (Ne.symm (own_ne ho hgr)))
      replace hx := World.ownsRow.kept hx hg9 (.inr (Ne.symm (own_ne hx hlx)))
      replace hg := grown_trans hg hg9
      replace hc := hc9
      clear hc9 hg9
      generalize w9 = W at *
      cases b with
      | false =>
        go_wp2_with fail
        go_roundw
        case rel => exact ⟨A', c', L, k + 1, rfl, by go_num, by omega, by omega, hc.more (by omega), ho, hx, hg⟩
        case measure => simp [intOf]; omega
      | true =>
        obtain ⟨b, off, rfl, c0, c1, c2⟩ := Rd.mem (own_rd hx) hlk
        generalize xs[k] = s at *
        have hbM := bnew (Below.refl W.heap.size W) (.cells #[.int .i64 s.num] 3)
        have hoM := own_below ho hbM
        have hxM := own_below hx hbM
        have hcM := hc.below hbM
        have hgM := grown_below hg hbM
        have hrd : Rd (W.alloc (.cells #[.int .i64 s.num] 3)) (some ⟨W.heap.size, 0, none⟩) [.int .i64 s.num] := Rd.made
        have hhs : r ≤ W.heap.size := by have := hg.size; omega
        go_wp2_with (at_builtin; go_must (refine wpl_app rfl (.tmp 16) (.tmp 22) 33 rfl el_Int (v := .slice A' L.length c') rfl hoM rfl rfl hrd (by simp [Value.oneCell']) (by unfold maxLen; omega) (by omega) (Nat.le_trans hhs hbM.size) ?_; intro A2 c2 w5 h5 hg5 _; have hl2 : L.length + 1 = (L ++ [s.num]).length := (by simp); have h5' := own_snocI h5; have hl3 : (L ++ [s.num]).length ≤ L.length + 1 := Nat.le_of_eq hl2.symm; rw [hl2]; clear hl2 h5; have hc5 := hcM.own hg5 hoM hgr; have hx5 := own_kept2 hxM ht hg5 hoM; have hg5' := grown_own hgM hoM hg5 hrw; clear hg5 hbM hrd hoM hcM hgM hxM; generalize L ++ [s.num] = LL at *))
        go_roundw
        case rel => exact ⟨A2, c2, LL, k + 1, rfl, by go_num, by omega, by omega, hc5.more (by omega), h5', hx5, hg5'⟩
        case measure => simp [intOf]; omega
    · have hkI : ¬ (k : Int) < (xs.length : Int) := by omega
      go_wp2_with fail
      refine (one_any g _ 20 _ hc (by omega)).mono ?_
      rintro e w9 ⟨b, rfl, hc9, hg9⟩
      replace ho := World.ownsRow.kept ho hg9 (.inr (Ne.symm (own_ne ho hgr)))
      replace hx := World.ownsRow.kept hx hg9 (.inr (Ne.symm (own_ne hx hlx)))
      replace hg := grown_trans hg hg9
      replace hc := hc9
      clear hc9 hg9
      generalize w9 = W at *
      cases b with
      | false =>
        go_wp2
        go_ret
        exact ⟨A', c', L, rfl, by omega, own_base ho hrw, hx, hc.more (by omega), hg⟩
      | true =>
        go_wp2_with fail
        have hbA := bnew (Below.refl W.heap.size W) (.cells #[.int .i64 0, .int .i64 1, .int .i64 99] 3)
        refine (among_any g _ _ 3 3 _ (fun _ => true) _ (hc.below hbA) (by omega) rfl (by decide) (by decide) Rd.made (by decide) (fun ad e => by cases e; simp; have := hc.lt; omega)).mono ?_
        rintro e w9 ⟨v, rfl, -, hc9, hg9⟩
        replace ho := World.ownsRow.kept (own_below ho hbA) hg9 (.inr (Ne.symm (own_ne ho hgr)))
        replace hx := World.ownsRow.kept (own_below hx hbA) hg9 (.inr (Ne.symm (own_ne hx hlx)))
        replace hg := grown_trans (grown_below hg hbA) hg9
        clear hbA
        replace hc := hc9
        clear hc9 hg9
        generalize w9 = W at *
        have hbM := bnew (Below.refl W.heap.size W) (.cells #[.int .i64 v] 3)
        have hoM := own_below ho hbM
        have hxM := own_below hx hbM
        have hcM := hc.below hbM
        have hgM := grown_below hg hbM
        have hrd : Rd (W.alloc (.cells #[.int .i64 v] 3)) (some ⟨W.heap.size, 0, none⟩) [.int .i64 v] := Rd.made
        have hhs : r ≤ W.heap.size := by have := hg.size; omega
        go_wp2_with (at_builtin; go_must (refine wpl_app rfl (.tmp 26) (.tmp 30) 33 rfl el_Int (v := .slice A' L.length c') rfl hoM rfl rfl hrd (by simp [Value.oneCell']) (by unfold maxLen; omega) (by omega) (Nat.le_trans hhs hbM.size) ?_; intro A2 c2 w5 h5 hg5 _; have hl2 : L.length + 1 = (L ++ [v]).length := (by simp); have h5' := own_snocI h5; have hl3 : (L ++ [v]).length ≤ L.length + 1 := Nat.le_of_eq hl2.symm; rw [hl2]; clear hl2 h5; have hc5 := hcM.own hg5 hoM hgr; have hx5 := own_kept2 hxM ht hg5 hoM; have hg5' := grown_own hgM hoM hg5 hrw; clear hg5 hbM hrd hoM hcM hgM hxM; generalize L ++ [v] = LL at *))
        go_ret
        exact ⟨A2, c2, LL, rfl, by omega, own_base h5' hrw, hx5, hc5.more (by omega), hg5'⟩
set_option maxHeartbeats 8000000 in
theorem drawGive_any (A : Option Addr) (n c : Nat) (w : World) (hn : n ≤ maxLen) (hx : RdCode w A n) :
    Calls Try.prog 29 #[.slice A n c] w fun e w' => ∃ A' c', ∃ xs : List Mem, ∃ num off : Int, e = .returned (.tuple #[.slice A' xs.length c', .int .i64 num, .int .i64 off]) ∧ xs.length ≤ 13 ∧ (∀ s ∈ xs, s.name.size ≤ 10) ∧ w'.ownsRow w.heap.size 60 3 (.slice A' xs.length c') xs.length (memCells xs) ∧ Below w.heap.size w w' := by
  have hc := cur_start (w := w) (cap := c) (t := 76) hx hn
  have hb0 : Below w.heap.size w (w.alloc (.cells #[.slice A n c, .int .i64 0, .int .u64 0] 76)) := bnew (Below.refl _ _) _
  have hB1 : w.heap.size < (w.alloc (.cells #[.slice A n c, .int .i64 0, .int .u64 0] 76)).heap.size := by simp
  go_enter Try.func29, Try.ntmps29
  go_wp2_with fail
  generalize w.alloc (.cells #[.slice A n c, .int .i64 0, .int .u64 0] 76) = W0 at *
  generalize hgg : w.heap.size = g at *
  refine (members_any g 0 W0 hc (by omega)).mono ?_
  rintro e W ⟨A', c', xs, rfl, hx13, HX, ho, hc, hg⟩
  have hb := cur_below (w := W0) (Below.refl g W0) hg (Nat.le_refl _) (Nat.le_of_lt hB1)
  have hlt := hB1
  clear hx
  generalize hBB : W0.heap.size = B0 at *
  go_wp2_with fail
  refine (memberNumber_any g _ B0 A' c' xs W hc (by omega) hx13 ho hlt).mono ?_
  rintro e W1 ⟨num, rfl, hc1, hg1⟩
  replace ho := ho.kept hg1 (.inr (Ne.symm (own_ne ho hlt)))
  replace hg := grown_trans hg hg1
  replace hc := hc1
  clear hc1 hg1 hb
  generalize W1 = W at *
  go_wp2_with fail
  have hbA := bnew (Below.refl W.heap.size W) (.cells #[.int .i64 0, .int .i64 1, .int .i64 2, .int .i64 3, .int .i64 (-1), .int .i64 4] 3)
  have hRd : Rd (W.alloc (.cells #[.int .i64 0, .int .i64 1, .int .i64 2, .int .i64 3, .int .i64 (-1), .int .i64 4] 3)) (some ⟨W.heap.size, 0, none⟩) [.int .i64 0, .int .i64 1, .int .i64 2, .int .i64 3, .int .i64 (-1), .int .i64 4] := Rd.made
  have hlt2 := hc.lt
  have hsz := hbA.size
  replace hc := hc.below hbA
  replace hg := grown_below hg hbA
  replace ho := own_below ho hbA
  generalize hW2 : W.alloc (.cells #[.int .i64 0, .int .i64 1, .int .i64 2, .int .i64 3, .int .i64 (-1), .int .i64 4] 3) = W2 at *
  generalize hWs : W.heap.size = bA at *
  refine (pick_any g _ 24 _ hc (by omega)).mono ?_
  rintro e W3 ⟨v, rfl, hv, hc3, hg3⟩
  have hRd3 := hRd.grown hg3 (fun ad e => by cases e; simp; omega)
  replace ho := ho.kept hg3 (.inr (Ne.symm (own_ne ho hlt)))
  replace hg := grown_trans hg hg3
  obtain ⟨q, hq, hq2⟩ : ∃ q : Nat, v / 11 = (q : Int) ∧ q ≤ 2 := ⟨(v / 11).toNat, by omega, by omega⟩
  have hqw : IntKind.i64.wrap (v / 11) = (q : Int) := by rw [IntKind.wrap_i64]; omega
  have hqt : v.tdiv 11 = (q : Int) := by rw [Int.tdiv_eq_ediv_of_nonneg hv.1]; exact hq
  have hsw : IntKind.i64.wrap (4 + (q : Int)) = ((4 + q : Nat) : Int) := by rw [IntKind.wrap_i64]; omega
  go_wp2_with fail
  refine (among_any g _ _ (4 + q) 6 (List.take (4 + q) [.int .i64 0, .int .i64 1, .int .i64 2, .int .i64 3, .int .i64 (-1), .int .i64 4]) (fun _ => true) _ hc3 (by omega) (by simp; omega) (by omega) (by omega) (by have := hRd3.take (4 + q); exact this) (by rcases q with _ | _ | _ | q; rfl; rfl; rfl; omega) (fun ad e => by cases e; simp; omega)).mono ?_
  rintro e W4 ⟨o, rfl, -, hc4, hg4⟩
  replace ho := ho.kept hg4 (.inr (Ne.symm (own_ne ho hlt)))
  replace hg := grown_trans hg hg4
  have hbe := cur_below hb0 hg (Nat.le_refl g) (Nat.le_of_eq hgg.symm)
  go_wp2
  exact bodyPost_ret (v := .tuple #[.slice A' xs.length c', .int .i64 num, .int .i64 o]) (by simp [results, Try.results29, go_sem]) rfl ⟨A', c', xs, num, o, rfl, hx13, HX, own_base ho (by omega), by rw [hgg]; exact hbe⟩
set_option maxHeartbeats 8000000 in
theorem drawHolder_any (A : Option Addr) (n c : Nat) (w : World) (hn : n ≤ maxLen) (hx : RdCode w A n) :
    Calls Try.prog 33 #[.slice A n c] w fun e w' => ∃ A' c', ∃ xs : List Mem, ∃ off : Int, e = .returned (.tuple #[.slice A' xs.length c', .int .i64 off]) ∧ xs.length ≤ 13 ∧ (∀ s ∈ xs, s.name.size ≤ 10) ∧ w'.ownsRow w.heap.size 60 3 (.slice A' xs.length c') xs.length (memCells xs) ∧ Below w.heap.size w w' := by
  have hc := cur_start (w := w) (cap := c) (t := 76) hx hn
  have hb0 : Below w.heap.size w (w.alloc (.cells #[.slice A n c, .int .i64 0, .int .u64 0] 76)) := bnew (Below.refl _ _) _
  have hB1 : w.heap.size < (w.alloc (.cells #[.slice A n c, .int .i64 0, .int .u64 0] 76)).heap.size := by simp
  go_enter Try.func33, Try.ntmps33
  go_wp2_with fail
  generalize w.alloc (.cells #[.slice A n c, .int .i64 0, .int .u64 0] 76) = W0 at *
  generalize hgg : w.heap.size = g at *
  refine (members_any g 0 W0 hc (by omega)).mono ?_
  rintro e W ⟨A', c', xs, rfl, hx13, HX, ho, hc, hg⟩
  have hb := cur_below (w := W0) (Below.refl g W0) hg (Nat.le_refl _) (Nat.le_of_lt hB1)
  have hlt := hB1
  clear hx
  generalize hBB : W0.heap.size = B0 at *
  clear hb
  go_wp2_with fail
  have hbA := bnew (Below.refl W.heap.size W) (.cells #[.int .i64 1, .int .i64 2, .int .i64 3, .int .i64 0, .int .i64 4] 3)
  have hRd : Rd (W.alloc (.cells #[.int .i64 1, .int .i64 2, .int .i64 3, .int .i64 0, .int .i64 4] 3)) (some ⟨W.heap.size, 0, none⟩) [.int .i64 1, .int .i64 2, .int .i64 3, .int .i64 0, .int .i64 4] := Rd.made
  have hlt2 := hc.lt
  have hsz := hbA.size
  replace hc := hc.below hbA
  replace hg := grown_below hg hbA
  replace ho := own_below ho hbA
  generalize hW2 : W.alloc (.cells #[.int .i64 1, .int .i64 2, .int .i64 3, .int .i64 0, .int .i64 4] 3) = W2 at *
  generalize hWs : W.heap.size = bA at *
  refine (pick_any g _ 24 _ hc (by omega)).mono ?_
  rintro e W3 ⟨v, rfl, hv, hc3, hg3⟩
  have hRd3 := hRd.grown hg3 (fun ad e => by cases e; simp; omega)
  replace ho := ho.kept hg3 (.inr (Ne.symm (own_ne ho hlt)))
  replace hg := grown_trans hg hg3
  obtain ⟨q, hq, hq2⟩ : ∃ q : Nat, v / 11 = (q : Int) ∧ q ≤ 2 := ⟨(v / 11).toNat, by omega, by omega⟩
  have hqw : IntKind.i64.wrap (v / 11) = (q : Int) := by rw [IntKind.wrap_i64]; omega
  have hqt : v.tdiv 11 = (q : Int) := by rw [Int.tdiv_eq_ediv_of_nonneg hv.1]; exact hq
  have hsw : IntKind.i64.wrap (3 + (q : Int)) = ((3 + q : Nat) : Int) := by rw [IntKind.wrap_i64]; omega
  go_wp2_with fail
  refine (among_any g _ _ (3 + q) 5 (List.take (3 + q) [.int .i64 1, .int .i64 2, .int .i64 3, .int .i64 0, .int .i64 4]) (fun _ => true) _ hc3 (by omega) (by simp; omega) (by omega) (by omega) (by have := hRd3.take (3 + q); exact this) (by rcases q with _ | _ | _ | q; rfl; rfl; rfl; omega) (fun ad e => by cases e; simp; omega)).mono ?_
  rintro e W4 ⟨o, rfl, -, hc4, hg4⟩
  replace ho := ho.kept hg4 (.inr (Ne.symm (own_ne ho hlt)))
  replace hg := grown_trans hg hg4
  have hbe := cur_below hb0 hg (Nat.le_refl g) (Nat.le_of_eq hgg.symm)
  go_wp2
  exact bodyPost_ret (v := .tuple #[.slice A' xs.length c', .int .i64 o]) (by simp [results, Try.results33, go_sem]) rfl ⟨A', c', xs, o, rfl, hx13, HX, own_base ho (by omega), by rw [hgg]; exact hbe⟩
set_option maxHeartbeats 8000000 in
theorem drawPres_any (A : Option Addr) (n c : Nat) (w : World) (hn : n ≤ maxLen) (hx : RdCode w A n) :
    Calls Try.prog 35 #[.slice A n c] w fun e w' => ∃ A' c' A2 c2, ∃ xs : List Mem, ∃ ps : List Int, e = .returned (.tuple #[.slice A' xs.length c', .slice A2 ps.length c2]) ∧ xs.length ≤ 13 ∧ (∀ s ∈ xs, s.name.size ≤ 10) ∧ ps.length ≤ 14 ∧ w'.ownsRow w.heap.size 60 3 (.slice A' xs.length c') xs.length (memCells xs) ∧ w'.ownsRow w.heap.size 3 1 (.slice A2 ps.length c2) ps.length (intCells ps) ∧ Below w.heap.size w w' := by
  have hc := cur_start (w := w) (cap := c) (t := 76) hx hn
  have hb0 : Below w.heap.size w (w.alloc (.cells #[.slice A n c, .int .i64 0, .int .u64 0] 76)) := bnew (Below.refl _ _) _
  have hB1 : w.heap.size < (w.alloc (.cells #[.slice A n c, .int .i64 0, .int .u64 0] 76)).heap.size := by simp
  go_enter Try.func35, Try.ntmps35
  go_wp2_with fail
  generalize w.alloc (.cells #[.slice A n c, .int .i64 0, .int .u64 0] 76) = W0 at *
  generalize hgg : w.heap.size = g at *
  refine (members_any g 0 W0 hc (by omega)).mono ?_
  rintro e W ⟨A', c', xs, rfl, hx13, HX, ho, hc, hg⟩
  have hb := cur_below (w := W0) (Below.refl g W0) hg (Nat.le_refl _) (Nat.le_of_lt hB1)
  have hlt := hB1
  clear hx
  generalize hBB : W0.heap.size = B0 at *
  have hsW := hg.size
  go_wp2_with fail
  refine (present_any g _ B0 A' c' xs W hc (by omega) hx13 ho hlt).mono ?_
  rintro e W1 ⟨A2, c2, ps, rfl, hp, hop, ho1, hc1, hg1⟩
  have hbe := cur_below hb0 (grown_trans hg hg1) (Nat.le_refl g) (Nat.le_of_eq hgg.symm)
  go_wp2
  exact bodyPost_ret (v := .tuple #[.slice A' xs.length c', .slice A2 ps.length c2]) (by simp [results, Try.results35, go_sem]) rfl ⟨A', c', A2, c2, xs, ps, rfl, hx13, HX, hp, own_base ho1 (by omega), own_base hop (by omega), by rw [hgg]; exact hbe⟩
end Go.Proofs.Ytidmdppcamgaoaa
