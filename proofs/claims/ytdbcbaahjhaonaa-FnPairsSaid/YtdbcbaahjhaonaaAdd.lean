/-
  Contracts of AddPair. Conditions: lengths within Go's range.
-/
import Derived.Test.YtdbcbaahjhaonaaCyc
import Derived.Test.YtdbcbaahjhaonaaRanks
import Derived.Test.YtdbcbaahjhaonaaSlPr
import Derived.Test.YtdbcbaahjhaonaaLoose
namespace Go.My
open Go.RowKit
theorem lexB_irr (x : Pr) : lexB x x = false := by simp [lexB]
theorem lexB_iff {x y : Pr} : lexB x y = true ↔ x.a < y.a ∨ x.a = y.a ∧ x.b < y.b := by simp [lexB]
theorem lexB_trans {x y z : Pr} (h1 : lexB x y = true) (h2 : lexB y z = true) : lexB x z = true := by
  rw [lexB_iff] at *; omega
theorem good_pairwise {K : Int} : ∀ {xs pre : List Pr}, goodPre (prFits K) pre xs = true → pre.Pairwise (fun x y => lexB x y = true) → (pre ++ xs).Pairwise (fun x y => lexB x y = true)
  | [], pre, _, hp => by simpa using hp
  | x :: r, pre, h, hp => by
    simp only [goodPre, Bool.and_eq_true, prFits] at h
    have hx : ∀ y ∈ pre, lexB y x = true := by
      intro y hy
      have hl := h.1.2
      unfold lastLex at hl
      cases hz : pre.getLast? with
      | none => rw [List.getLast?_eq_none_iff] at hz; subst hz; simp at hy
      | some z =>
        rw [hz] at hl
        obtain ⟨ini, e⟩ := List.getLast?_eq_some_iff.1 hz
        subst e
        rw [List.pairwise_append] at hp
        rcases List.mem_append.1 hy with hy | hy
        · exact lexB_trans (hp.2.2 y hy z (by simp)) hl
        · simp at hy; subst hy; exact hl
    have := good_pairwise (xs := r) (pre := pre ++ [x]) h.2 (by
      rw [List.pairwise_append]
      exact ⟨hp, by simp, fun a ha b hb => by simp at hb; subst hb; exact hx a ha⟩)
    simpa using this
theorem insAt_twice {xs : List Pr} {k : Nat} {x : Pr} (hx : x ∈ xs) : ¬ (insAt xs k x).Pairwise (fun x y => lexB x y = true) := by
  intro h
  unfold insAt at h
  rw [List.pairwise_append, List.pairwise_cons] at h
  rw [← List.take_append_drop k xs, List.mem_append] at hx
  have hi := lexB_irr x
  rcases hx with hx | hx
  · have := h.2.2 x hx x (by simp)
    rw [hi] at this; cases this
  · have := h.2.1.1 x hx
    rw [hi] at this; cases this
def posPr (x : Pr) : Nat → List Pr → Nat
  | k, [] => k
  | k, y :: r => if lexB y x = true then posPr x (k + 1) r else k
def posP (xs : List Pr) (x : Pr) : Nat := posPr x 0 xs
theorem posPr_at {x : Pr} {j : Nat} {xs : List Pr} {k : Nat} (hk : k < xs.length) : posPr x j (xs.drop k) = if lexB xs[k] x = true then posPr x (j + 1) (xs.drop (k + 1)) else j := by
  rw [List.drop_eq_getElem_cons hk]; rfl
theorem posPr_le (x : Pr) (j : Nat) (xs : List Pr) : posPr x j xs ≤ j + xs.length := by
  induction xs generalizing j with
  | nil => simp [posPr]
  | cons y r ih =>
    simp only [posPr, List.length_cons]
    split
    · have := ih (j + 1); omega
    · omega
theorem posP_le (xs : List Pr) (x : Pr) : posP xs x ≤ xs.length := by have := posPr_le x 0 xs; unfold posP; omega
def addQ (p : Prec) (x : Pr) : Prec := ⟨p.kinds, insAt p.over (posP p.over x) x⟩
def addP (p : Prec) (x : Pr) : Prec × Bool := if goodPc p = true then (if okB (addQ p x) = true then (addQ p x, true) else (⟨0, []⟩, false)) else (⟨0, []⟩, false)
theorem add_dup {p : Prec} {x : Pr} (h : dirB p.over x.a x.b = true) : okB (addQ p x) = false := by
  obtain ⟨y, hy, e1, e2⟩ := dirB_iff.1 h
  have e : y = x := pr_ext e1 e2
  subst e
  rw [← Bool.not_eq_true]
  intro hok
  simp only [okB, goodPc, Bool.and_eq_true] at hok
  have hpw := good_pairwise (pre := []) hok.1.2 (by simp)
  rw [List.nil_append] at hpw
  exact insAt_twice (k := posP p.over y) hy hpw
theorem addP_len (p : Prec) (x : Pr) : (addP p x).1.over.length ≤ 17 := by
  unfold addP
  split
  · rename_i hg
    split
    · have h1 := (goodPc_in hg).2.2.1
      show (insAt p.over (posP p.over x) x).length ≤ 17
      rw [insAt_len _ _ _ (posP_le _ _)]; omega
    · simp
  · simp
end Go.My
namespace Go.Proofs.Ytdbcbaahjhaonaa
open Go.RowKit Go.My
set_option maxHeartbeats 8000000 in
set_option maxRecDepth 100000 in
theorem addPr_any (A : Option Addr) (c : Nat) (p : Prec) (x : Pr) (w : World) (hn : p.over.length ≤ maxLen) (hlc : p.over.length ≤ c) (hx : Rd w A (prCells p.over)) :
    Calls Try.prog 41 #[.agg #[.int .i64 p.kinds, .slice A p.over.length c], .int .i64 x.a, .int .i64 x.b] w fun en w' => ∃ A' c', en = .returned (.tuple #[.agg #[.int .i64 (addP p x).1.kinds, .slice A' (addP p x).1.over.length c'], .bool (addP p x).2]) ∧ w'.ownsRow w.heap.size 52 2 (.slice A' (addP p x).1.over.length c') (addP p x).1.over.length (prCells (addP p x).1.over) ∧ Below w.heap.size w w' := by
  obtain ⟨r, hr⟩ : ∃ r, r = addP p x := ⟨_, rfl⟩
  rw [← hr]
  have hb1 : Below w.heap.size w (w.alloc (.cells #[.int .i64 p.kinds, .slice A p.over.length c] 27)) := bnew (Below.refl _ _) _
  have hb0 := bnew hb1 (.cells #[.int .i64 0, .slice none 0 0] 27)
  have m0 : ((w.alloc (.cells #[.int .i64 p.kinds, .slice A p.over.length c] 27)).alloc (.cells #[.int .i64 0, .slice none 0 0] 27)).cell? ⟨w.heap.size, 0, none⟩ = some (.int .i64 p.kinds) := cell_below' (w := w.alloc (.cells #[.int .i64 p.kinds, .slice A p.over.length c] 27)) ((World.cell?_alloc_at _ _ _ _ rfl).trans rfl) (bnew (Below.refl _ _) _)
  have m1 : ((w.alloc (.cells #[.int .i64 p.kinds, .slice A p.over.length c] 27)).alloc (.cells #[.int .i64 0, .slice none 0 0] 27)).cell? ⟨w.heap.size, 1, none⟩ = some (.slice A p.over.length c) := cell_below' (w := w.alloc (.cells #[.int .i64 p.kinds, .slice A p.over.length c] 27)) ((World.cell?_alloc_at _ _ _ _ rfl).trans rfl) (bnew (Below.refl _ _) _)
  have RB : Blk ((w.alloc (.cells #[.int .i64 p.kinds, .slice A p.over.length c] 27)).alloc (.cells #[.int .i64 0, .slice none 0 0] 27)) (w.heap.size + 1) 27 [.int .i64 0, .slice none 0 0] := by
    have := heap_alloc_new (w.alloc (.cells #[.int .i64 p.kinds, .slice A p.over.length c] 27)) (.cells #[.int .i64 0, .slice none 0 0] 27)
    unfold Blk; simpa using this
  have Hv : Hid (∀ w1, Below w.heap.size w w1 → Calls Try.prog 17 #[.agg #[.int .i64 p.kinds, .slice A p.over.length c]] w1 fun e w' => e = .returned (.bool (goodPc p)) ∧ Below w1.heap.size w1 w') := fun w1 hb => isPrec_any A c p w1 hn (hx.below hb)
  have hx0 := hx.below hb0
  clear hx hb1
  generalize hW : (w.alloc (.cells #[.int .i64 p.kinds, .slice A p.over.length c] 27)).alloc (.cells #[.int .i64 0, .slice none 0 0] 27) = W0 at *
  have hwW : w.heap.size + 2 = W0.heap.size := by rw [← hW]; simp
  unfold addP at hr
  have HRE := Lib.hid hr
  clear hr
  by_cases hg : goodPc p = true
  rotate_left
  · have hg' : goodPc p = false := by simpa using hg
    have HR := Lib.hid (HRE.out.trans (if_neg hg))
    rw [hg'] at Hv
    clear HRE hg hg'
    go_enter Try.func41, Try.ntmps41
    go_wp2_with fail
    refine (Hv.out _ hb0).mono ?_
    rintro en w1 ⟨rfl, hb1⟩
    have hbz := btr hb0 hb1
    have RBz := RB.below hb1
    have k0 := RBz.cell (j := 0) rfl
    have k1 := RBz.cell (j := 1) rfl
    have z0 := RBz.frozen 0
    have z1 := RBz.frozen 1
    go_wp2
    obtain ⟨q0, q1⟩ := two_setN (u := .int .i64 0) (v := .slice none 0 0) (RBz.cell (j := 0) rfl) (RBz.cell (j := 1) rfl)
    exact bodyPost_ret (v := .tuple #[.agg #[.int .i64 0, .slice none 0 0], .bool false]) (by simp [results, Try.results41, go_sem, q0, q1]) rfl ⟨none, 0, by rw [HR.out]; rfl, by rw [HR.out]; exact own_nil, (hbz.setCell (by simp) _).setCell (by simp) _⟩
  have HRE2 := Lib.hid (HRE.out.trans (if_pos hg))
  clear HRE
  rw [hg] at Hv
  obtain ⟨hk1, hk8, h16, hin, _⟩ := goodPc_in hg
  have HQk : Hid ((addQ p x).kinds = p.kinds) := rfl
  have HQo : Hid ((addQ p x).over = insAt p.over (posP p.over x) x) := rfl
  have HG0 : Hid (posP p.over x = posPr x 0 (p.over.drop 0)) := rfl
  generalize addQ p x = q at *
  generalize hG : posP p.over x = G at *
  clear hG hg
  obtain ⟨ks, xs⟩ := p
  simp only at *
  go_enter Try.func41, Try.ntmps41
  go_wp2_with fail
  clear hW
  refine (Hv.out _ hb0).mono ?_
  rintro en w1 ⟨rfl, hb1⟩
  have hbA := btr hb0 hb1
  have hWA := hb1
  have hbX := btr hWA (bnew (Below.refl w1.heap.size w1) (.cells #[.int .i64 x.a, .int .i64 x.b] 52))
  have n0 : (w1.alloc (.cells #[.int .i64 x.a, .int .i64 x.b] 52)).cell? ⟨w1.heap.size, 0, none⟩ = some (.int .i64 x.a) := (World.cell?_alloc_at _ _ _ _ rfl).trans rfl
  have n1 : (w1.alloc (.cells #[.int .i64 x.a, .int .i64 x.b] 52)).cell? ⟨w1.heap.size, 1, none⟩ = some (.int .i64 x.b) := (World.cell?_alloc_at _ _ _ _ rfl).trans rfl
  have k0 := cell_below' m0 hbX
  have k1 := cell_below' m1 hbX
  clear Hv
  go_wp2_with fail
  obtain ⟨bx, hbx⟩ : ∃ bx, bx = w1.heap.size := ⟨_, rfl⟩
  rw [← hbx] at n0 n1
  rw [← hbx]
  clear hbx
  generalize w1.alloc (.cells #[.int .i64 x.a, .int .i64 x.b] 52) = W1 at *
  have hxX := hx0.below hbX
  have RBX := RB.below hbX
  have hbWX := btr hb0 hbX
  clear hbA hWA hx0 RB m0 m1
  go_loopw [9] (fun q wr => ∃ k : Nat, k ≤ xs.length ∧ q = .int .i64 k ∧ Hid (G = posPr x k (xs.drop k)) ∧ Below W1.heap.size W1 wr) (fun q _ => xs.length - (intOf q).toNat)
  case atStart => exact ⟨0, by omega, rfl, HG0, Below.refl _ _⟩
  case round =>
    obtain ⟨k, hk, rfl, H, hb⟩ := hrel
    have k0r := cell_below' k0 hb
    have k1r := cell_below' k1 hb
    have n0r := cell_below' n0 hb
    have n1r := cell_below' n1 hb
    have hkn : (k : Int) ≤ (xs.length : Int) := by omega
    by_cases hlt : k < xs.length
    · obtain ⟨b, off, eA, c0, c1⟩ := Rd.pr (hxX.below hb) hlt
      subst eA
      have Hn := Lib.hid (H.out.trans (posPr_at hlt))
      have hkI : (k : Int) < (xs.length : Int) := by omega
      have hkD : decide ((k : Int) < (xs.length : Int)) = true := by simpa using hkI
      generalize xs[k] = y at *
      have g0 := cell_after k0r
      have g1 := cell_after k1r
      have g2 := cell_after n0r
      have g3 := cell_after n1r
      have g4 := cell_after c0
      have g5 := cell_after c1
      clear c0 c1 H
      by_cases hq : lexB y x = true
      · have Hf := Lib.hid (Hn.out.trans (if_pos hq))
        have hp0 := cmpP_yes hq
        have hp2 : decide (cmpP y x < 0) = true := by simpa using hp0
        have HCP : Hid (∀ w1, Calls Try.prog 56 #[.agg #[.int .i64 y.a, .int .i64 y.b], .agg #[.int .i64 x.a, .int .i64 x.b]] w1 fun e w' => e = .returned (.int .i64 (cmpP y x)) ∧ Below w1.heap.size w1 w') := fun w1 => comparePairs_any y x w1
        clear Hn hq
        generalize cmpP y x = v at *
        go_wp2_with fail
        refine wp_region_after (by kernel_rfl) (by kernel_rfl) ?_
        repeat (go_big_quiet_step ((go_at_call 56; exact Calls.after (HCP.out _))))
        refine wpQuiet_nil ?_
        intro nq
        go_wp2
        go_roundw
        case rel => exact ⟨k + 1, by omega, by go_num, Hf, btr hb nq.bel⟩
        case measure => simp [intOf]; omega
      · have Hf := Lib.hid (Hn.out.trans (if_neg hq))
        have hp0 := cmpP_no hq
        have hp1 : ¬ cmpP y x < 0 := by omega
        have hp2 : decide (cmpP y x < 0) = false := by simpa using hp0
        have HCP : Hid (∀ w1, Calls Try.prog 56 #[.agg #[.int .i64 y.a, .int .i64 y.b], .agg #[.int .i64 x.a, .int .i64 x.b]] w1 fun e w' => e = .returned (.int .i64 (cmpP y x)) ∧ Below w1.heap.size w1 w') := fun w1 => comparePairs_any y x w1
        clear Hn hq
        generalize cmpP y x = v at *
        go_wp2_with fail
        refine wp_region_after (by kernel_rfl) (by kernel_rfl) ?_
        repeat (go_big_quiet_step ((go_at_call 56; exact Calls.after (HCP.out _))))
        refine wpQuiet_nil ?_
        intro nq
        have hbN := btr hb nq.bel
        generalize nq.val = wq at *
        clear g0 g1 g2 g3 g4 g5 HCP
        have HQ2 : Hid (q.over = insAt xs k x) := HQo.out.trans (by rw [Hf.out])
        have HQL : Hid (q.over.length = xs.length + 1) := by show _ = _; rw [HQ2.out]; exact insAt_len _ _ _ hk
        have HQC : Hid (prCells q.over = prCells (xs.take k) ++ [.int .i64 x.a, .int .i64 x.b] ++ prCells (xs.drop k)) := by show _ = _; rw [HQ2.out]; simp [insAt, prCells, Pr.cells]
        have k0q := cell_below' k0 hbN
        have k1q := cell_below' k1 hbN
        have n0q := cell_below' n0 hbN
        have n1q := cell_below' n1 hbN
        have hxq := hxX.below hbN
        clear k0r k1r n0r n1r Hf hb
        have HT := prCells_len xs
        have HT1 := prCells_one xs
        have hXw : ∀ w1, ClP wq.drew [] w1 → Rd w1 (some ⟨b, off, none⟩) (prCells xs) := fun w1 h1 => (hxq.drew).below (clP_below h1)
        have HI : Hid (∀ (w1 : World) (A1 : Option Addr) (c1 g8 : Nat), wq.drew.heap.size ≤ w1.heap.size → w1.ownsRow wq.drew.heap.size 52 2 (.slice A1 xs.length c1) xs.length (prCells xs) → Blk w1 g8 52 [.int .i64 x.a, .int .i64 x.b] → some g8 ≠ (Value.slice A1 xs.length c1).ownBlock →
            Calls Try.prog 79 #[.slice A1 xs.length c1, .int .i64 k, .slice (some ⟨g8, 0, none⟩) 1 1] w1 (RowRetN w1 wq.drew.heap.size 52 2 q.over.length (prCells q.over) (Value.slice A1 xs.length c1).ownBlock)) := fun w1 A1 c1 g8 hsz ho hB hne =>
          insertN_Pr A1 c1 wq.drew.heap.size xs q.over x k g8 1 w1 hk (by omega) hsz ho hB hne HQ2
        have g0 := cell_cl (w := wq.drew) k0q
        have g1 := cell_cl (w := wq.drew) k1q
        have g2 := cell_cl (w := wq.drew) n0q
        have g3 := cell_cl (w := wq.drew) n1q
        go_wp2_with fail
        refine wp_loose_tail0 (U := fun _ => undef) (τ := lk [(2, rowS [] wq.drew.heap.size 52 2 0 []), (5, rowS [2] wq.drew.heap.size 52 2 (0 + xs.length) ([] ++ prCells xs)), (8, litS [] wq.drew.heap.size 52 1 [.int .i64 x.a, .int .i64 x.b]), (9, rowS [5, 8] wq.drew.heap.size 52 2 q.over.length (prCells q.over)), (11, boxS [] wq.drew.heap.size 27 [.int .i64 0, .slice none 0 0])]) (F := []) 12 (by kernel_rfl) (by kernel_rfl) (fits_of rfl (by kernel_rfl)) (inv_start (by intro r s h; have := lk_mem h; simp at this; (first | omega | (simp only [List.length_cons, List.length_nil]; omega)))) ?_
        simp only [List.take_succ_cons, List.take_zero, List.drop_succ_cons, List.drop_zero]
        refine wpL_quiet 2 rfl rfl ?_
        simp only [List.take_succ_cons, List.take_zero, List.drop_succ_cons, List.drop_zero]
        repeat (go_big_quiet_step (fail))
        refine wpQuiet_nil ?_
        refine gives_loose rfl (ob_lit (cs := #[]) (Nat.le_refl _) (by unfold maxLen; omega) rfl (fun w1 _ => ?_)) ?_
        · go_simp
        rintro u2 ⟨A2, c2, rfl⟩
        simp only [Act.put, List.setIfInBounds_toArray, List.set_cons_zero, List.set_cons_succ]
        refine wpL_quiet 2 rfl rfl ?_
        simp only [List.take_succ_cons, List.take_zero, List.drop_succ_cons, List.drop_zero]
        repeat (go_big_quiet_step (fail))
        refine wpQuiet_nil ?_
        refine gives_loose rfl (ob_app (.tmp 37) (.tmp 39) 22 rfl el_Pr 2 rfl rfl rfl HT (ds := []) (fun w1 h1 _ => hXw w1 h1) HT1 (by unfold maxLen; omega) (by omega) (Nat.le_refl _)) ?_
        rintro u5 ⟨A5, c5, rfl⟩
        simp only [Act.put, List.setIfInBounds_toArray, List.set_cons_zero, List.set_cons_succ]
        refine wpL_quiet 2 rfl rfl ?_
        simp only [List.take_succ_cons, List.take_zero, List.drop_succ_cons, List.drop_zero]
        repeat (go_big_quiet_step (fail))
        refine wpQuiet_nil ?_
        refine gives_loose rfl (ob_litS (cs := #[.int .i64 x.a, .int .i64 x.b]) (Nat.le_refl _) (fun w1 _ => by go_simp)) ?_
        rintro u8 ⟨g8, rfl⟩
        simp only [Act.put, List.setIfInBounds_toArray, List.set_cons_zero, List.set_cons_succ]
        refine gives_loose rfl (ob_grow (cd := [2]) (ds := [8]) 5 rfl (fun w1 h1 hh ho => by simp only [Nat.zero_add, List.nil_append] at ho; obtain ⟨g8, e8, _, hB8⟩ := (hh.1 8 (by simp) _ rfl).1; cases e8; have hne := hh.2 8 (by simp) 5 (by simp) (by decide) _ _ rfl rfl g8 (mem_toList.2 rfl); simp [stepTo, stepUpon, go_sem]; refine (HI.out w1 A5 c5 g8 (by obtain ⟨N, e⟩ := h1; rw [e]; exact N.size) ho hB8 (fun e => hne (mem_toList.2 (show (Value.slice A5 (0 + xs.length) c5).ownBlock = some g8 from by rw [Nat.zero_add]; exact e.symm)))).mono ?_; rintro e w2 ⟨A4, c4, rfl, h2, h3, h4⟩; exact ⟨_, rfl, h2, h3, h4⟩)) ?_
        rintro u9 ⟨A9, c9, rfl⟩
        simp only [Act.put, List.setIfInBounds_toArray, List.set_cons_zero, List.set_cons_succ]
        refine wpL_quiet 1 rfl rfl ?_
        simp only [List.take_succ_cons, List.take_zero, List.drop_succ_cons, List.drop_zero]
        repeat (go_big_quiet_step (fail))
        refine wpQuiet_nil ?_
        refine gives_loose rfl (ob_box (cs := #[.int .i64 0, .slice none 0 0]) (Nat.le_refl _) (fun w1 _ => ?_)) ?_
        · go_simp
        rintro u11 ⟨g11, rfl⟩
        simp only [Act.put, List.setIfInBounds_toArray, List.set_cons_zero, List.set_cons_succ]
        refine wpL_nil ?_
        intro w8 hEnd
        have hRow : w8.ownsRow wq.drew.heap.size 52 2 (.slice A9 q.over.length c9) q.over.length (prCells q.over) := ends_get hEnd 9 rfl rfl
        obtain ⟨BZ, hzB, hzn⟩ := ends_box_row (A := A9) (m := q.over.length) (c := c9) (g := g11) hEnd 11 9 rfl rfl rfl rfl (by decide) rfl rfl
        have hb78 : Below wq.heap.size wq w8 := btr (Below.refl wq.heap.size wq).drew (ends_below hEnd)
        have q0 := BZ.cell (j := 0) rfl
        have q1 := BZ.cell (j := 1) rfl
        have z0 := BZ.frozen 0
        have z1 := BZ.frozen 1
        clear hEnd g0 g1 g2 g3 HI hXw HT HT1
        go_wp2_with fail
        obtain ⟨p0, p1⟩ := two_setN (u := .int .i64 ks) (v := .slice A9 q.over.length c9) q0 q1
        have ho9 := own_setN (own_setN hRow hzn 0 (.int .i64 ks)) hzn 1 (.slice A9 q.over.length c9)
        have hb9 : Below wq.heap.size wq ((w8.setCell ⟨g11, 0, none⟩ (.int .i64 ks)).setCell ⟨g11, 1, none⟩ (.slice A9 q.over.length c9)) := (hb78.setCell (show wq.heap.size ≤ g11 from hzB) _).setCell (show wq.heap.size ≤ g11 from hzB) _
        clear q0 q1 z0 z1 BZ hzn hb78 hRow
        generalize ((w8.setCell ⟨g11, 0, none⟩ (.int .i64 ks)).setCell ⟨g11, 1, none⟩ (.slice A9 q.over.length c9)) = w9 at *
        have hbw9 := btr hbN hb9
        have RB9 := RBX.below hbw9
        have hbz9 := btr hbWX hbw9
        have HGo : Hid (∀ w1, Below w9.heap.size w9 w1 → Calls Try.prog 17 #[.agg #[.int .i64 ks, .slice A9 q.over.length c9]] w1 fun e w' => e = .returned (.bool (goodPc q)) ∧ Below w1.heap.size w1 w') := fun w1 h1 => by
          have := isPrec_any A9 c9 q w1 (by have := HQL.out; unfold maxLen; omega) ((own_rd ho9).below h1)
          rwa [HQk.out] at this
        have HSo : Hid (∀ w1, Below w9.heap.size w9 w1 → goodPc q = true → Calls Try.prog 58 #[.agg #[.int .i64 ks, .slice A9 q.over.length c9]] w1 fun e w' => e = .returned (.bool (soundB q.over q.kinds.toNat)) ∧ Below w1.heap.size w1 w') := fun w1 h1 hgq => by
          obtain ⟨hk1', hk8', h16', hin', _⟩ := goodPc_in hgq
          have := isSound_any A9 c9 q.kinds.toNat q.over w1 ⟨by omega, by omega⟩ h16' ((own_rd ho9).below h1) hin'
          rwa [show ((q.kinds.toNat : Nat) : Int) = ks by rw [← HQk.out]; omega] at this
        have hbk : W1.heap.size ≤ w9.heap.size := hbw9.size
        by_cases hgq : goodPc q = true
        · have HS2 : Hid (∀ w1, Below w9.heap.size w9 w1 → _) := fun w1 h1 => HSo.out w1 h1 hgq
          have HOK : Hid (okB q = soundB q.over q.kinds.toNat) := by show _ = _; unfold okB; rw [hgq, Bool.true_and]
          rw [hgq] at HGo
          clear HSo hgq
          by_cases hsq : soundB q.over q.kinds.toNat = true
          · have HR := Lib.hid (HRE2.out.trans (if_pos (HOK.out.trans hsq)))
            rw [hsq] at HS2
            clear HRE2 HOK hsq
            go_wp2_with (first | (go_at_call 17; refine (HGo.out _ (Below.refl _ _)).mono ?_; rintro en w10 ⟨rfl, hb10⟩; have p0a := cell_below' p0 hb10; have p1a := cell_below' p1 hb10) | (go_at_call 58; refine (HS2.out _ hb10).mono ?_; rintro en w11 ⟨rfl, hb11⟩; have p0b := cell_below' p0a hb11; have p1b := cell_below' p1a hb11; have RBz := RB9.below (btr hb10 hb11); have k0z := RBz.cell (j := 0) rfl; have k1z := RBz.cell (j := 1) rfl; have z0z := RBz.frozen 0; have z1z := RBz.frozen 1))
            obtain ⟨s0, s1⟩ := two_setN (u := .int .i64 ks) (v := .slice A9 q.over.length c9) (RBz.cell (j := 0) rfl) (RBz.cell (j := 1) rfl)
            have hne : some (w.heap.size + 1) ≠ (Value.slice A9 q.over.length c9).ownBlock := own_ne ho9 (show w.heap.size + 1 < wq.heap.size from by have := hbX.size; have := hbN.size; omega)
            have hoz := own_setN (own_setN (own_below ho9 (btr hb10 hb11)) hne 0 (.int .i64 ks)) hne 1 (.slice A9 q.over.length c9)
            exact bodyPost_ret (v := .tuple #[.agg #[.int .i64 ks, .slice A9 q.over.length c9], .bool true]) (by simp [results, Try.results41, go_sem, s0, s1]) rfl ⟨A9, c9, by rw [HR.out, HQk.out], by rw [HR.out]; exact own_base hoz (show w.heap.size ≤ wq.heap.size from by have := hbX.size; have := hbN.size; omega), ((btr hbz9 (btr hb10 hb11)).setCell (by simp) _).setCell (by simp) _⟩
          · have hsq' : soundB q.over q.kinds.toNat = false := by simpa using hsq
            have HR := Lib.hid (HRE2.out.trans (if_neg (by rw [HOK.out, hsq']; decide)))
            rw [hsq'] at HS2
            clear HRE2 HOK hsq hsq'
            go_wp2_with (first | (go_at_call 17; refine (HGo.out _ (Below.refl _ _)).mono ?_; rintro en w10 ⟨rfl, hb10⟩; have p0a := cell_below' p0 hb10; have p1a := cell_below' p1 hb10) | (go_at_call 58; refine (HS2.out _ hb10).mono ?_; rintro en w11 ⟨rfl, hb11⟩; have RBz := RB9.below (btr hb10 hb11); have k0z := RBz.cell (j := 0) rfl; have k1z := RBz.cell (j := 1) rfl; have z0z := RBz.frozen 0; have z1z := RBz.frozen 1))
            obtain ⟨s0, s1⟩ := two_setN (u := .int .i64 0) (v := .slice none 0 0) (RBz.cell (j := 0) rfl) (RBz.cell (j := 1) rfl)
            exact bodyPost_ret (v := .tuple #[.agg #[.int .i64 0, .slice none 0 0], .bool false]) (by simp [results, Try.results41, go_sem, s0, s1]) rfl ⟨none, 0, by rw [HR.out]; rfl, by rw [HR.out]; exact own_nil, ((btr hbz9 (btr hb10 hb11)).setCell (by simp) _).setCell (by simp) _⟩
        · have hgq' : goodPc q = false := by simpa using hgq
          have HR := Lib.hid (HRE2.out.trans (if_neg (by unfold okB; rw [hgq']; simp)))
          rw [hgq'] at HGo
          clear HRE2 HSo hgq hgq'
          go_wp2_with (go_at_call 17; refine (HGo.out _ (Below.refl _ _)).mono ?_; rintro en w10 ⟨rfl, hb10⟩; have RBz := RB9.below hb10; have k0z := RBz.cell (j := 0) rfl; have k1z := RBz.cell (j := 1) rfl; have z0z := RBz.frozen 0; have z1z := RBz.frozen 1)
          obtain ⟨s0, s1⟩ := two_setN (u := .int .i64 0) (v := .slice none 0 0) (RBz.cell (j := 0) rfl) (RBz.cell (j := 1) rfl)
          exact bodyPost_ret (v := .tuple #[.agg #[.int .i64 0, .slice none 0 0], .bool false]) (by simp [results, Try.results41, go_sem, s0, s1]) rfl ⟨none, 0, by rw [HR.out]; rfl, by rw [HR.out]; exact own_nil, ((btr hbz9 hb10).setCell (by simp) _).setCell (by simp) _⟩
    · have Hf : Hid (G = k) := H.out.trans (by rw [List.drop_eq_nil_of_le (by omega)]; rfl)
      have hkD : decide ((k : Int) < (xs.length : Int)) = false := by simp; omega
      have hkI : ¬ (k : Int) < (xs.length : Int) := by omega
      have g1 := cell_after k1r
      clear H
      go_wp2_with fail
      refine wp_region_after (by kernel_rfl) (by kernel_rfl) ?_
      repeat (go_big_quiet_step (fail))
      refine wpQuiet_nil ?_
      intro nq
      have hbN := btr hb nq.bel
      generalize nq.val = wq at *
      clear g1
      have HQ2 : Hid (q.over = insAt xs k x) := HQo.out.trans (by rw [Hf.out])
      have HQL : Hid (q.over.length = xs.length + 1) := by show _ = _; rw [HQ2.out]; exact insAt_len _ _ _ hk
      have HQC : Hid (prCells q.over = prCells (xs.take k) ++ [.int .i64 x.a, .int .i64 x.b] ++ prCells (xs.drop k)) := by show _ = _; rw [HQ2.out]; simp [insAt, prCells, Pr.cells]
      have k0q := cell_below' k0 hbN
      have k1q := cell_below' k1 hbN
      have n0q := cell_below' n0 hbN
      have n1q := cell_below' n1 hbN
      have hxq := hxX.below hbN
      clear k0r k1r n0r n1r Hf hb
      have HT := prCells_len xs
      have HT1 := prCells_one xs
      have hXw : ∀ w1, ClP wq.drew [] w1 → Rd w1 A (prCells xs) := fun w1 h1 => (hxq.drew).below (clP_below h1)
      have HI : Hid (∀ (w1 : World) (A1 : Option Addr) (c1 g8 : Nat), wq.drew.heap.size ≤ w1.heap.size → w1.ownsRow wq.drew.heap.size 52 2 (.slice A1 xs.length c1) xs.length (prCells xs) → Blk w1 g8 52 [.int .i64 x.a, .int .i64 x.b] → some g8 ≠ (Value.slice A1 xs.length c1).ownBlock →
          Calls Try.prog 79 #[.slice A1 xs.length c1, .int .i64 k, .slice (some ⟨g8, 0, none⟩) 1 1] w1 (RowRetN w1 wq.drew.heap.size 52 2 q.over.length (prCells q.over) (Value.slice A1 xs.length c1).ownBlock)) := fun w1 A1 c1 g8 hsz ho hB hne =>
        insertN_Pr A1 c1 wq.drew.heap.size xs q.over x k g8 1 w1 hk (by omega) hsz ho hB hne HQ2
      have g0 := cell_cl (w := wq.drew) k0q
      have g1 := cell_cl (w := wq.drew) k1q
      have g2 := cell_cl (w := wq.drew) n0q
      have g3 := cell_cl (w := wq.drew) n1q
      go_wp2_with fail
      refine wp_loose_tail0 (U := fun _ => undef) (τ := lk [(2, rowS [] wq.drew.heap.size 52 2 0 []), (5, rowS [2] wq.drew.heap.size 52 2 (0 + xs.length) ([] ++ prCells xs)), (8, litS [] wq.drew.heap.size 52 1 [.int .i64 x.a, .int .i64 x.b]), (9, rowS [5, 8] wq.drew.heap.size 52 2 q.over.length (prCells q.over)), (11, boxS [] wq.drew.heap.size 27 [.int .i64 0, .slice none 0 0])]) (F := []) 12 (by kernel_rfl) (by kernel_rfl) (fits_of rfl (by kernel_rfl)) (inv_start (by intro r s h; have := lk_mem h; simp at this; (first | omega | (simp only [List.length_cons, List.length_nil]; omega)))) ?_
      simp only [List.take_succ_cons, List.take_zero, List.drop_succ_cons, List.drop_zero]
      refine wpL_quiet 2 rfl rfl ?_
      simp only [List.take_succ_cons, List.take_zero, List.drop_succ_cons, List.drop_zero]
      repeat (go_big_quiet_step (fail))
      refine wpQuiet_nil ?_
      refine gives_loose rfl (ob_lit (cs := #[]) (Nat.le_refl _) (by unfold maxLen; omega) rfl (fun w1 _ => ?_)) ?_
      · go_simp
      rintro u2 ⟨A2, c2, rfl⟩
      simp only [Act.put, List.setIfInBounds_toArray, List.set_cons_zero, List.set_cons_succ]
      refine wpL_quiet 2 rfl rfl ?_
      simp only [List.take_succ_cons, List.take_zero, List.drop_succ_cons, List.drop_zero]
      repeat (go_big_quiet_step (fail))
      refine wpQuiet_nil ?_
      refine gives_loose rfl (ob_app (.tmp 37) (.tmp 39) 22 rfl el_Pr 2 rfl rfl rfl HT (ds := []) (fun w1 h1 _ => hXw w1 h1) HT1 (by unfold maxLen; omega) (by omega) (Nat.le_refl _)) ?_
      rintro u5 ⟨A5, c5, rfl⟩
      simp only [Act.put, List.setIfInBounds_toArray, List.set_cons_zero, List.set_cons_succ]
      refine wpL_quiet 2 rfl rfl ?_
      simp only [List.take_succ_cons, List.take_zero, List.drop_succ_cons, List.drop_zero]
      repeat (go_big_quiet_step (fail))
      refine wpQuiet_nil ?_
      refine gives_loose rfl (ob_litS (cs := #[.int .i64 x.a, .int .i64 x.b]) (Nat.le_refl _) (fun w1 _ => by go_simp)) ?_
      rintro u8 ⟨g8, rfl⟩
      simp only [Act.put, List.setIfInBounds_toArray, List.set_cons_zero, List.set_cons_succ]
      refine gives_loose rfl (ob_grow (cd := [2]) (ds := [8]) 5 rfl (fun w1 h1 hh ho => by simp only [Nat.zero_add, List.nil_append] at ho; obtain ⟨g8, e8, _, hB8⟩ := (hh.1 8 (by simp) _ rfl).1; cases e8; have hne := hh.2 8 (by simp) 5 (by simp) (by decide) _ _ rfl rfl g8 (mem_toList.2 rfl); simp [stepTo, stepUpon, go_sem]; refine (HI.out w1 A5 c5 g8 (by obtain ⟨N, e⟩ := h1; rw [e]; exact N.size) ho hB8 (fun e => hne (mem_toList.2 (show (Value.slice A5 (0 + xs.length) c5).ownBlock = some g8 from by rw [Nat.zero_add]; exact e.symm)))).mono ?_; rintro e w2 ⟨A4, c4, rfl, h2, h3, h4⟩; exact ⟨_, rfl, h2, h3, h4⟩)) ?_
      rintro u9 ⟨A9, c9, rfl⟩
      simp only [Act.put, List.setIfInBounds_toArray, List.set_cons_zero, List.set_cons_succ]
      refine wpL_quiet 1 rfl rfl ?_
      simp only [List.take_succ_cons, List.take_zero, List.drop_succ_cons, List.drop_zero]
      repeat (go_big_quiet_step (fail))
      refine wpQuiet_nil ?_
      refine gives_loose rfl (ob_box (cs := #[.int .i64 0, .slice none 0 0]) (Nat.le_refl _) (fun w1 _ => ?_)) ?_
      · go_simp
      rintro u11 ⟨g11, rfl⟩
      simp only [Act.put, List.setIfInBounds_toArray, List.set_cons_zero, List.set_cons_succ]
      refine wpL_nil ?_
      intro w8 hEnd
      have hRow : w8.ownsRow wq.drew.heap.size 52 2 (.slice A9 q.over.length c9) q.over.length (prCells q.over) := ends_get hEnd 9 rfl rfl
      obtain ⟨BZ, hzB, hzn⟩ := ends_box_row (A := A9) (m := q.over.length) (c := c9) (g := g11) hEnd 11 9 rfl rfl rfl rfl (by decide) rfl rfl
      have hb78 : Below wq.heap.size wq w8 := btr (Below.refl wq.heap.size wq).drew (ends_below hEnd)
      have q0 := BZ.cell (j := 0) rfl
      have q1 := BZ.cell (j := 1) rfl
      have z0 := BZ.frozen 0
      have z1 := BZ.frozen 1
      clear hEnd g0 g1 g2 g3 HI hXw HT HT1
      go_wp2_with fail
      obtain ⟨p0, p1⟩ := two_setN (u := .int .i64 ks) (v := .slice A9 q.over.length c9) q0 q1
      have ho9 := own_setN (own_setN hRow hzn 0 (.int .i64 ks)) hzn 1 (.slice A9 q.over.length c9)
      have hb9 : Below wq.heap.size wq ((w8.setCell ⟨g11, 0, none⟩ (.int .i64 ks)).setCell ⟨g11, 1, none⟩ (.slice A9 q.over.length c9)) := (hb78.setCell (show wq.heap.size ≤ g11 from hzB) _).setCell (show wq.heap.size ≤ g11 from hzB) _
      clear q0 q1 z0 z1 BZ hzn hb78 hRow
      generalize ((w8.setCell ⟨g11, 0, none⟩ (.int .i64 ks)).setCell ⟨g11, 1, none⟩ (.slice A9 q.over.length c9)) = w9 at *
      have hbw9 := btr hbN hb9
      have RB9 := RBX.below hbw9
      have hbz9 := btr hbWX hbw9
      have HGo : Hid (∀ w1, Below w9.heap.size w9 w1 → Calls Try.prog 17 #[.agg #[.int .i64 ks, .slice A9 q.over.length c9]] w1 fun e w' => e = .returned (.bool (goodPc q)) ∧ Below w1.heap.size w1 w') := fun w1 h1 => by
        have := isPrec_any A9 c9 q w1 (by have := HQL.out; unfold maxLen; omega) ((own_rd ho9).below h1)
        rwa [HQk.out] at this
      have HSo : Hid (∀ w1, Below w9.heap.size w9 w1 → goodPc q = true → Calls Try.prog 58 #[.agg #[.int .i64 ks, .slice A9 q.over.length c9]] w1 fun e w' => e = .returned (.bool (soundB q.over q.kinds.toNat)) ∧ Below w1.heap.size w1 w') := fun w1 h1 hgq => by
        obtain ⟨hk1', hk8', h16', hin', _⟩ := goodPc_in hgq
        have := isSound_any A9 c9 q.kinds.toNat q.over w1 ⟨by omega, by omega⟩ h16' ((own_rd ho9).below h1) hin'
        rwa [show ((q.kinds.toNat : Nat) : Int) = ks by rw [← HQk.out]; omega] at this
      have hbk : W1.heap.size ≤ w9.heap.size := hbw9.size
      by_cases hgq : goodPc q = true
      · have HS2 : Hid (∀ w1, Below w9.heap.size w9 w1 → _) := fun w1 h1 => HSo.out w1 h1 hgq
        have HOK : Hid (okB q = soundB q.over q.kinds.toNat) := by show _ = _; unfold okB; rw [hgq, Bool.true_and]
        rw [hgq] at HGo
        clear HSo hgq
        by_cases hsq : soundB q.over q.kinds.toNat = true
        · have HR := Lib.hid (HRE2.out.trans (if_pos (HOK.out.trans hsq)))
          rw [hsq] at HS2
          clear HRE2 HOK hsq
          go_wp2_with (first | (go_at_call 17; refine (HGo.out _ (Below.refl _ _)).mono ?_; rintro en w10 ⟨rfl, hb10⟩; have p0a := cell_below' p0 hb10; have p1a := cell_below' p1 hb10) | (go_at_call 58; refine (HS2.out _ hb10).mono ?_; rintro en w11 ⟨rfl, hb11⟩; have p0b := cell_below' p0a hb11; have p1b := cell_below' p1a hb11; have RBz := RB9.below (btr hb10 hb11); have k0z := RBz.cell (j := 0) rfl; have k1z := RBz.cell (j := 1) rfl; have z0z := RBz.frozen 0; have z1z := RBz.frozen 1))
          obtain ⟨s0, s1⟩ := two_setN (u := .int .i64 ks) (v := .slice A9 q.over.length c9) (RBz.cell (j := 0) rfl) (RBz.cell (j := 1) rfl)
          have hne : some (w.heap.size + 1) ≠ (Value.slice A9 q.over.length c9).ownBlock := own_ne ho9 (show w.heap.size + 1 < wq.heap.size from by have := hbX.size; have := hbN.size; omega)
          have hoz := own_setN (own_setN (own_below ho9 (btr hb10 hb11)) hne 0 (.int .i64 ks)) hne 1 (.slice A9 q.over.length c9)
          exact bodyPost_ret (v := .tuple #[.agg #[.int .i64 ks, .slice A9 q.over.length c9], .bool true]) (by simp [results, Try.results41, go_sem, s0, s1]) rfl ⟨A9, c9, by rw [HR.out, HQk.out], by rw [HR.out]; exact own_base hoz (show w.heap.size ≤ wq.heap.size from by have := hbX.size; have := hbN.size; omega), ((btr hbz9 (btr hb10 hb11)).setCell (by simp) _).setCell (by simp) _⟩
        · have hsq' : soundB q.over q.kinds.toNat = false := by simpa using hsq
          have HR := Lib.hid (HRE2.out.trans (if_neg (by rw [HOK.out, hsq']; decide)))
          rw [hsq'] at HS2
          clear HRE2 HOK hsq hsq'
          go_wp2_with (first | (go_at_call 17; refine (HGo.out _ (Below.refl _ _)).mono ?_; rintro en w10 ⟨rfl, hb10⟩; have p0a := cell_below' p0 hb10; have p1a := cell_below' p1 hb10) | (go_at_call 58; refine (HS2.out _ hb10).mono ?_; rintro en w11 ⟨rfl, hb11⟩; have RBz := RB9.below (btr hb10 hb11); have k0z := RBz.cell (j := 0) rfl; have k1z := RBz.cell (j := 1) rfl; have z0z := RBz.frozen 0; have z1z := RBz.frozen 1))
          obtain ⟨s0, s1⟩ := two_setN (u := .int .i64 0) (v := .slice none 0 0) (RBz.cell (j := 0) rfl) (RBz.cell (j := 1) rfl)
          exact bodyPost_ret (v := .tuple #[.agg #[.int .i64 0, .slice none 0 0], .bool false]) (by simp [results, Try.results41, go_sem, s0, s1]) rfl ⟨none, 0, by rw [HR.out]; rfl, by rw [HR.out]; exact own_nil, ((btr hbz9 (btr hb10 hb11)).setCell (by simp) _).setCell (by simp) _⟩
      · have hgq' : goodPc q = false := by simpa using hgq
        have HR := Lib.hid (HRE2.out.trans (if_neg (by unfold okB; rw [hgq']; simp)))
        rw [hgq'] at HGo
        clear HRE2 HSo hgq hgq'
        go_wp2_with (go_at_call 17; refine (HGo.out _ (Below.refl _ _)).mono ?_; rintro en w10 ⟨rfl, hb10⟩; have RBz := RB9.below hb10; have k0z := RBz.cell (j := 0) rfl; have k1z := RBz.cell (j := 1) rfl; have z0z := RBz.frozen 0; have z1z := RBz.frozen 1)
        obtain ⟨s0, s1⟩ := two_setN (u := .int .i64 0) (v := .slice none 0 0) (RBz.cell (j := 0) rfl) (RBz.cell (j := 1) rfl)
        exact bodyPost_ret (v := .tuple #[.agg #[.int .i64 0, .slice none 0 0], .bool false]) (by simp [results, Try.results41, go_sem, s0, s1]) rfl ⟨none, 0, by rw [HR.out]; rfl, by rw [HR.out]; exact own_nil, ((btr hbz9 hb10).setCell (by simp) _).setCell (by simp) _⟩
set_option maxHeartbeats 8000000 in
set_option maxRecDepth 100000 in
theorem specAddPr_any (A : Option Addr) (c : Nat) (p : Prec) (x : Pr) (w : World) (hn : p.over.length ≤ maxLen) (hlc : p.over.length ≤ c) (hx : Rd w A (prCells p.over)) :
    Calls Try.prog 40 #[.agg #[.int .i64 p.kinds, .slice A p.over.length c], .int .i64 x.a, .int .i64 x.b] w fun en w' => ∃ A' c', en = .returned (.tuple #[.agg #[.int .i64 (addP p x).1.kinds, .slice A' (addP p x).1.over.length c'], .bool (addP p x).2]) ∧ w'.ownsRow w.heap.size 52 2 (.slice A' (addP p x).1.over.length c') (addP p x).1.over.length (prCells (addP p x).1.over) ∧ Below w.heap.size w w' := by
  obtain ⟨r, hr⟩ : ∃ r, r = addP p x := ⟨_, rfl⟩
  rw [← hr]
  have hb1 : Below w.heap.size w (w.alloc (.cells #[.int .i64 p.kinds, .slice A p.over.length c] 27)) := bnew (Below.refl _ _) _
  have hb0 := bnew hb1 (.cells #[.int .i64 0, .slice none 0 0] 27)
  have m0 : ((w.alloc (.cells #[.int .i64 p.kinds, .slice A p.over.length c] 27)).alloc (.cells #[.int .i64 0, .slice none 0 0] 27)).cell? ⟨w.heap.size, 0, none⟩ = some (.int .i64 p.kinds) := cell_below' (w := w.alloc (.cells #[.int .i64 p.kinds, .slice A p.over.length c] 27)) ((World.cell?_alloc_at _ _ _ _ rfl).trans rfl) (bnew (Below.refl _ _) _)
  have m1 : ((w.alloc (.cells #[.int .i64 p.kinds, .slice A p.over.length c] 27)).alloc (.cells #[.int .i64 0, .slice none 0 0] 27)).cell? ⟨w.heap.size, 1, none⟩ = some (.slice A p.over.length c) := cell_below' (w := w.alloc (.cells #[.int .i64 p.kinds, .slice A p.over.length c] 27)) ((World.cell?_alloc_at _ _ _ _ rfl).trans rfl) (bnew (Below.refl _ _) _)
  have RB : Blk ((w.alloc (.cells #[.int .i64 p.kinds, .slice A p.over.length c] 27)).alloc (.cells #[.int .i64 0, .slice none 0 0] 27)) (w.heap.size + 1) 27 [.int .i64 0, .slice none 0 0] := by
    have := heap_alloc_new (w.alloc (.cells #[.int .i64 p.kinds, .slice A p.over.length c] 27)) (.cells #[.int .i64 0, .slice none 0 0] 27)
    unfold Blk; simpa using this
  have Hv : Hid (∀ w1, Below w.heap.size w w1 → Calls Try.prog 52 #[.agg #[.int .i64 p.kinds, .slice A p.over.length c]] w1 fun e w' => e = .returned (.bool (goodPc p)) ∧ Below w1.heap.size w1 w') := fun w1 hb => l4Good_any A c p w1 hn (hx.below hb)
  have Hd : Hid (∀ w1, Below w.heap.size w w1 → Calls Try.prog 77 #[.agg #[.int .i64 p.kinds, .slice A p.over.length c], .int .i64 x.a, .int .i64 x.b] w1 fun e w' => e = .returned (.bool (dirB p.over x.a x.b)) ∧ Below w1.heap.size w1 w') := fun w1 hb => l4Direct_any A c p.kinds p.over x.a x.b w1 hn (hx.below hb)
  have hx0 := hx.below hb0
  clear hx hb1
  generalize hW : (w.alloc (.cells #[.int .i64 p.kinds, .slice A p.over.length c] 27)).alloc (.cells #[.int .i64 0, .slice none 0 0] 27) = W0 at *
  have hwW : w.heap.size + 2 = W0.heap.size := by rw [← hW]; simp
  unfold addP at hr
  have HRE := Lib.hid hr
  clear hr
  by_cases hg : goodPc p = true
  rotate_left
  · have hg' : goodPc p = false := by simpa using hg
    have HR := Lib.hid (HRE.out.trans (if_neg hg))
    rw [hg'] at Hv
    clear HRE hg hg'
    go_enter Try.func40, Try.ntmps40
    go_wp2_with fail
    refine (Hv.out _ hb0).mono ?_
    rintro en w1 ⟨rfl, hb1⟩
    have hbz := btr hb0 hb1
    have RBz := RB.below hb1
    have k0 := RBz.cell (j := 0) rfl
    have k1 := RBz.cell (j := 1) rfl
    have z0 := RBz.frozen 0
    have z1 := RBz.frozen 1
    go_wp2
    obtain ⟨q0, q1⟩ := two_setN (u := .int .i64 0) (v := .slice none 0 0) (RBz.cell (j := 0) rfl) (RBz.cell (j := 1) rfl)
    exact bodyPost_ret (v := .tuple #[.agg #[.int .i64 0, .slice none 0 0], .bool false]) (by simp [results, Try.results40, go_sem, q0, q1]) rfl ⟨none, 0, by rw [HR.out]; rfl, by rw [HR.out]; exact own_nil, (hbz.setCell (by simp) _).setCell (by simp) _⟩
  have HRE2 := Lib.hid (HRE.out.trans (if_pos hg))
  clear HRE
  rw [hg] at Hv
  by_cases hdi : dirB p.over x.a x.b = true
  · have HR : Hid (r = (⟨0, []⟩, false)) := HRE2.out.trans (if_neg (by rw [add_dup hdi]; decide))
    rw [hdi] at Hd
    clear HRE2 hdi hg
    go_enter Try.func40, Try.ntmps40
    go_wp2_with fail
    refine (Hv.out _ hb0).mono ?_
    rintro en w1 ⟨rfl, hb1⟩
    have m0a := cell_below' m0 hb1
    have m1a := cell_below' m1 hb1
    go_wp2_with fail
    refine (Hd.out _ (btr hb0 hb1)).mono ?_
    rintro en w2 ⟨rfl, hb2⟩
    have hbz := btr hb0 (btr hb1 hb2)
    have RBz := RB.below (btr hb1 hb2)
    have k0 := RBz.cell (j := 0) rfl
    have k1 := RBz.cell (j := 1) rfl
    have z0 := RBz.frozen 0
    have z1 := RBz.frozen 1
    go_wp2
    obtain ⟨q0, q1⟩ := two_setN (u := .int .i64 0) (v := .slice none 0 0) (RBz.cell (j := 0) rfl) (RBz.cell (j := 1) rfl)
    exact bodyPost_ret (v := .tuple #[.agg #[.int .i64 0, .slice none 0 0], .bool false]) (by simp [results, Try.results40, go_sem, q0, q1]) rfl ⟨none, 0, by rw [HR.out]; rfl, by rw [HR.out]; exact own_nil, (hbz.setCell (by simp) _).setCell (by simp) _⟩
  have hdi' : dirB p.over x.a x.b = false := by simpa using hdi
  rw [hdi'] at Hd
  clear hdi hdi'
  obtain ⟨hk1, hk8, h16, hin, _⟩ := goodPc_in hg
  have HQk : Hid ((addQ p x).kinds = p.kinds) := rfl
  have HQo : Hid ((addQ p x).over = insAt p.over (posP p.over x) x) := rfl
  have HG0 : Hid (posP p.over x = posPr x 0 (p.over.drop 0)) := rfl
  generalize addQ p x = q at *
  generalize hG : posP p.over x = G at *
  clear hG hg
  obtain ⟨ks, xs⟩ := p
  simp only at *
  go_enter Try.func40, Try.ntmps40
  go_wp2_with fail
  clear hW
  refine (Hv.out _ hb0).mono ?_
  rintro en w1 ⟨rfl, hb1⟩
  have m0a := cell_below' m0 hb1
  have m1a := cell_below' m1 hb1
  go_wp2_with fail
  refine (Hd.out _ (btr hb0 hb1)).mono ?_
  rintro en w1' ⟨rfl, hb2⟩
  have hbA := btr hb0 (btr hb1 hb2)
  have hWA := btr hb1 hb2
  clear m0a m1a hb1 hb2
  generalize w1' = w1 at *
  have hbX := btr hWA (bnew (Below.refl w1.heap.size w1) (.cells #[.int .i64 x.a, .int .i64 x.b] 52))
  have n0 : (w1.alloc (.cells #[.int .i64 x.a, .int .i64 x.b] 52)).cell? ⟨w1.heap.size, 0, none⟩ = some (.int .i64 x.a) := (World.cell?_alloc_at _ _ _ _ rfl).trans rfl
  have n1 : (w1.alloc (.cells #[.int .i64 x.a, .int .i64 x.b] 52)).cell? ⟨w1.heap.size, 1, none⟩ = some (.int .i64 x.b) := (World.cell?_alloc_at _ _ _ _ rfl).trans rfl
  have k0 := cell_below' m0 hbX
  have k1 := cell_below' m1 hbX
  clear Hv
  go_wp2_with fail
  obtain ⟨bx, hbx⟩ : ∃ bx, bx = w1.heap.size := ⟨_, rfl⟩
  rw [← hbx] at n0 n1
  rw [← hbx]
  clear hbx
  generalize w1.alloc (.cells #[.int .i64 x.a, .int .i64 x.b] 52) = W1 at *
  have hxX := hx0.below hbX
  have RBX := RB.below hbX
  have hbWX := btr hb0 hbX
  clear hbA hWA hx0 RB m0 m1
  go_loopw [9] (fun q wr => ∃ k : Nat, k ≤ xs.length ∧ q = .int .i64 k ∧ Hid (G = posPr x k (xs.drop k)) ∧ Below W1.heap.size W1 wr) (fun q _ => xs.length - (intOf q).toNat)
  case atStart => exact ⟨0, by omega, rfl, HG0, Below.refl _ _⟩
  case round =>
    obtain ⟨k, hk, rfl, H, hb⟩ := hrel
    have k0r := cell_below' k0 hb
    have k1r := cell_below' k1 hb
    have n0r := cell_below' n0 hb
    have n1r := cell_below' n1 hb
    have hkn : (k : Int) ≤ (xs.length : Int) := by omega
    by_cases hlt : k < xs.length
    · obtain ⟨b, off, eA, c0, c1⟩ := Rd.pr (hxX.below hb) hlt
      subst eA
      have Hn := Lib.hid (H.out.trans (posPr_at hlt))
      have hkI : (k : Int) < (xs.length : Int) := by omega
      have hkD : decide ((k : Int) < (xs.length : Int)) = true := by simpa using hkI
      generalize xs[k] = y at *
      have g0 := cell_after k0r
      have g1 := cell_after k1r
      have g2 := cell_after n0r
      have g3 := cell_after n1r
      have g4 := cell_after c0
      have g5 := cell_after c1
      clear c0 c1 H
      by_cases hq : lexB y x = true
      · have Hf := Lib.hid (Hn.out.trans (if_pos hq))
        have HCP : Hid (∀ w1, Calls Try.prog 78 #[.agg #[.int .i64 y.a, .int .i64 y.b], .agg #[.int .i64 x.a, .int .i64 x.b]] w1 fun e w' => e = .returned (.bool true) ∧ Below w1.heap.size w1 w') := fun w1 => by have := l4Before_any y x w1; rwa [hq] at this
        clear Hn hq
        go_wp2_with fail
        refine wp_region_after (by kernel_rfl) (by kernel_rfl) ?_
        repeat (go_big_quiet_step ((go_at_call 78; exact Calls.after (HCP.out _))))
        refine wpQuiet_nil ?_
        intro nq
        go_wp2
        go_roundw
        case rel => exact ⟨k + 1, by omega, by go_num, Hf, btr hb nq.bel⟩
        case measure => simp [intOf]; omega
      · have Hf := Lib.hid (Hn.out.trans (if_neg hq))
        have hq' : lexB y x = false := by simpa using hq
        have HCP : Hid (∀ w1, Calls Try.prog 78 #[.agg #[.int .i64 y.a, .int .i64 y.b], .agg #[.int .i64 x.a, .int .i64 x.b]] w1 fun e w' => e = .returned (.bool false) ∧ Below w1.heap.size w1 w') := fun w1 => by have := l4Before_any y x w1; rwa [hq'] at this
        clear Hn hq hq'
        go_wp2_with fail
        refine wp_region_after (by kernel_rfl) (by kernel_rfl) ?_
        repeat (go_big_quiet_step ((go_at_call 78; exact Calls.after (HCP.out _))))
        refine wpQuiet_nil ?_
        intro nq
        have hbN := btr hb nq.bel
        generalize nq.val = wq at *
        clear g0 g1 g2 g3 g4 g5 HCP
        have HQ2 : Hid (q.over = insAt xs k x) := HQo.out.trans (by rw [Hf.out])
        have HQL : Hid (q.over.length = xs.length + 1) := by show _ = _; rw [HQ2.out]; exact insAt_len _ _ _ hk
        have HQC : Hid (prCells q.over = prCells (xs.take k) ++ [.int .i64 x.a, .int .i64 x.b] ++ prCells (xs.drop k)) := by show _ = _; rw [HQ2.out]; simp [insAt, prCells, Pr.cells]
        have k0q := cell_below' k0 hbN
        have k1q := cell_below' k1 hbN
        have n0q := cell_below' n0 hbN
        have n1q := cell_below' n1 hbN
        have hxq := hxX.below hbN
        clear k0r k1r n0r n1r Hf hb
        have hpre := run_pre el_Pr (some ⟨b, off, none⟩) (n := xs.length) (c := c) (k := k) (by omega)
        have hcut := run_cut el_Pr (some ⟨b, off, none⟩) (n := xs.length) (c := c) (k := k) (by omega)
        have hT : Rd wq (some ⟨b, off, none⟩) (prCells (xs.take k)) := by have := hxq.take (k * 2); rwa [prCells_take xs k (by omega)] at this
        have hD : Rd wq (cutA (some ⟨b, off, none⟩) c k 2) (prCells (xs.drop k)) := by
          have := hxq.cutA k 2 c (by intro h; rw [prCells_len]; omega)
          rwa [prCells_drop xs k (by omega)] at this
        have hT1 := prCells_one (xs.take k)
        have hTl : (prCells (xs.take k)).length = k * 2 := by rw [prCells_len, List.length_take, Nat.min_eq_left (by omega)]
        have hD1 := prCells_one (xs.drop k)
        have hDl : (prCells (xs.drop k)).length = (xs.length - k) * 2 := by rw [prCells_len, List.length_drop]
        generalize prCells (xs.take k) = TC at *
        generalize prCells (xs.drop k) = DC at *
        generalize cutA (some ⟨b, off, none⟩) c k 2 = DA at *
        have HQN : Hid (∀ n, n = q.over.length → n = k + 1 + (xs.length - k)) := fun n h => by rw [h, HQL.out]; omega
        have hTw : ∀ w1, ClP wq.drew [] w1 → Rd w1 (some ⟨b, off, none⟩) TC := fun w1 h1 => (hT.drew).below (clP_below h1)
        have hDw : ∀ w1, ClP wq.drew [] w1 → Rd w1 DA DC := fun w1 h1 => (hD.drew).below (clP_below h1)
        have g0 := cell_cl (w := wq.drew) k0q
        have g1 := cell_cl (w := wq.drew) k1q
        have g2 := cell_cl (w := wq.drew) n0q
        have g3 := cell_cl (w := wq.drew) n1q
        go_wp2_with fail
        refine wp_loose_tail0 (U := fun _ => undef) (τ := lk [(2, rowS [] wq.drew.heap.size 52 2 0 []), (7, rowS [2] wq.drew.heap.size 52 2 (0 + k) ([] ++ TC)), (9, rowS [] wq.drew.heap.size 52 2 1 [.int .i64 x.a, .int .i64 x.b]), (10, rowS [7, 9] wq.drew.heap.size 52 2 (0 + k + 1) ([] ++ TC ++ [.int .i64 x.a, .int .i64 x.b])), (15, rowS [10] wq.drew.heap.size 52 2 (0 + k + 1 + (xs.length - k)) ([] ++ TC ++ [.int .i64 x.a, .int .i64 x.b] ++ DC)), (17, boxS [] wq.drew.heap.size 27 [.int .i64 0, .slice none 0 0])]) (F := []) 18 (by kernel_rfl) (by kernel_rfl) (fits_of rfl (by kernel_rfl)) (inv_start (by intro r s h; have := lk_mem h; simp at this; (first | omega | (simp only [List.length_cons, List.length_nil]; omega)))) ?_
        simp only [List.take_succ_cons, List.take_zero, List.drop_succ_cons, List.drop_zero]
        refine wpL_quiet 2 rfl rfl ?_
        simp only [List.take_succ_cons, List.take_zero, List.drop_succ_cons, List.drop_zero]
        repeat (go_big_quiet_step (fail))
        refine wpQuiet_nil ?_
        refine gives_loose rfl (ob_lit (cs := #[]) (Nat.le_refl _) (by unfold maxLen; omega) rfl (fun w1 _ => ?_)) ?_
        · go_simp
        rintro u2 ⟨A2, c2, rfl⟩
        simp only [Act.put, List.setIfInBounds_toArray, List.set_cons_zero, List.set_cons_succ]
        refine wpL_quiet 4 rfl rfl ?_
        simp only [List.take_succ_cons, List.take_zero, List.drop_succ_cons, List.drop_zero]
        repeat (go_big_quiet_step (fail))
        refine wpQuiet_nil ?_
        refine gives_loose rfl (ob_app (.tmp 42) (.tmp 46) 22 rfl el_Pr 2 rfl rfl rfl hTl (ds := []) (fun w1 h1 _ => hTw w1 h1) hT1 (by unfold maxLen; omega) (by omega) (Nat.le_refl _)) ?_
        rintro u7 ⟨A7, c7, rfl⟩
        simp only [Act.put, List.setIfInBounds_toArray, List.set_cons_zero, List.set_cons_succ]
        refine wpL_quiet 1 rfl rfl ?_
        simp only [List.take_succ_cons, List.take_zero, List.drop_succ_cons, List.drop_zero]
        repeat (go_big_quiet_step (fail))
        refine wpQuiet_nil ?_
        refine gives_loose rfl (ob_lit (cs := #[.int .i64 x.a, .int .i64 x.b]) (Nat.le_refl _) (by unfold maxLen; omega) rfl (fun w1 _ => ?_)) ?_
        · go_simp
        rintro u9 ⟨A9, c9, rfl⟩
        simp only [Act.put, List.setIfInBounds_toArray, List.set_cons_zero, List.set_cons_succ]
        refine gives_loose rfl (ob_app (.tmp 47) (.tmp 49) 22 rfl el_Pr 7 rfl rfl rfl rfl (ds := [9]) (fun w1 _ hh => own_rd (hh 9 (by simp) _ rfl)) (by simp [Value.oneCell']) (by unfold maxLen; omega) (by omega) (Nat.le_refl _)) ?_
        rintro u10 ⟨A10, c10, rfl⟩
        simp only [Act.put, List.setIfInBounds_toArray, List.set_cons_zero, List.set_cons_succ]
        refine wpL_quiet 4 rfl rfl ?_
        simp only [List.take_succ_cons, List.take_zero, List.drop_succ_cons, List.drop_zero]
        repeat (go_big_quiet_step (fail))
        refine wpQuiet_nil ?_
        refine gives_loose rfl (ob_app (.tmp 50) (.tmp 54) 22 rfl el_Pr 10 rfl rfl rfl hDl (ds := []) (fun w1 h1 _ => hDw w1 h1) hD1 (by unfold maxLen; omega) (by omega) (Nat.le_refl _)) ?_
        rintro u15 ⟨A15, c15, rfl⟩
        simp only [Act.put, List.setIfInBounds_toArray, List.set_cons_zero, List.set_cons_succ]
        refine wpL_quiet 1 rfl rfl ?_
        simp only [List.take_succ_cons, List.take_zero, List.drop_succ_cons, List.drop_zero]
        repeat (go_big_quiet_step (fail))
        refine wpQuiet_nil ?_
        refine gives_loose rfl (ob_box (cs := #[.int .i64 0, .slice none 0 0]) (Nat.le_refl _) (fun w1 _ => ?_)) ?_
        · go_simp
        rintro u17 ⟨g17, rfl⟩
        simp only [Act.put, List.setIfInBounds_toArray, List.set_cons_zero, List.set_cons_succ]
        refine wpL_nil ?_
        intro w8 hEnd
        have hRow : w8.ownsRow wq.drew.heap.size 52 2 (.slice A15 (0 + k + 1 + (xs.length - k)) c15) (0 + k + 1 + (xs.length - k)) ([] ++ TC ++ [.int .i64 x.a, .int .i64 x.b] ++ DC) := ends_get hEnd 15 rfl rfl
        obtain ⟨BZ, hzB, hzn⟩ := ends_box_row (A := A15) (m := (0 + k + 1 + (xs.length - k))) (c := c15) (g := g17) hEnd 17 15 rfl rfl rfl rfl (by decide) rfl rfl
        have hb78 : Below wq.heap.size wq w8 := btr (Below.refl wq.heap.size wq).drew (ends_below hEnd)
        simp only [Nat.zero_add, List.nil_append] at hRow hzn
        have hL := HQN.out _ rfl
        rw [← HQC.out, ← hL] at hRow
        rw [← hL] at hzn ⊢
        have q0 := BZ.cell (j := 0) rfl
        have q1 := BZ.cell (j := 1) rfl
        have z0 := BZ.frozen 0
        have z1 := BZ.frozen 1
        clear hEnd g0 g1 g2 g3 hTw hDw hT hD hL HQN hT1 hTl hD1 hDl
        go_wp2_with fail
        obtain ⟨p0, p1⟩ := two_setN (u := .int .i64 ks) (v := .slice A15 q.over.length c15) q0 q1
        have ho9 := own_setN (own_setN hRow hzn 0 (.int .i64 ks)) hzn 1 (.slice A15 q.over.length c15)
        have hb9 : Below wq.heap.size wq ((w8.setCell ⟨g17, 0, none⟩ (.int .i64 ks)).setCell ⟨g17, 1, none⟩ (.slice A15 q.over.length c15)) := (hb78.setCell (show wq.heap.size ≤ g17 from hzB) _).setCell (show wq.heap.size ≤ g17 from hzB) _
        clear q0 q1 z0 z1 BZ hzn hb78 hRow
        generalize ((w8.setCell ⟨g17, 0, none⟩ (.int .i64 ks)).setCell ⟨g17, 1, none⟩ (.slice A15 q.over.length c15)) = w9 at *
        have hbw9 := btr hbN hb9
        have RB9 := RBX.below hbw9
        have hbz9 := btr hbWX hbw9
        have HGo : Hid (∀ w1, Below w9.heap.size w9 w1 → Calls Try.prog 52 #[.agg #[.int .i64 ks, .slice A15 q.over.length c15]] w1 fun e w' => e = .returned (.bool (goodPc q)) ∧ Below w1.heap.size w1 w') := fun w1 h1 => by
          have := l4Good_any A15 c15 q w1 (by have := HQL.out; unfold maxLen; omega) ((own_rd ho9).below h1)
          rwa [HQk.out] at this
        have HSo : Hid (∀ w1, Below w9.heap.size w9 w1 → goodPc q = true → Calls Try.prog 57 #[.agg #[.int .i64 ks, .slice A15 q.over.length c15]] w1 fun e w' => e = .returned (.bool (soundB q.over q.kinds.toNat)) ∧ Below w1.heap.size w1 w') := fun w1 h1 hgq => by
          obtain ⟨hk1', hk8', h16', hin', _⟩ := goodPc_in hgq
          have := l4Sound_any A15 c15 q.kinds.toNat q.over w1 ⟨by omega, by omega⟩ h16' ((own_rd ho9).below h1) hin'
          rwa [show ((q.kinds.toNat : Nat) : Int) = ks by rw [← HQk.out]; omega] at this
        have hbk : W1.heap.size ≤ w9.heap.size := hbw9.size
        by_cases hgq : goodPc q = true
        · have HS2 : Hid (∀ w1, Below w9.heap.size w9 w1 → _) := fun w1 h1 => HSo.out w1 h1 hgq
          have HOK : Hid (okB q = soundB q.over q.kinds.toNat) := by show _ = _; unfold okB; rw [hgq, Bool.true_and]
          rw [hgq] at HGo
          clear HSo hgq
          by_cases hsq : soundB q.over q.kinds.toNat = true
          · have HR := Lib.hid (HRE2.out.trans (if_pos (HOK.out.trans hsq)))
            rw [hsq] at HS2
            clear HRE2 HOK hsq
            go_wp2_with (first | (go_at_call 52; refine (HGo.out _ (Below.refl _ _)).mono ?_; rintro en w10 ⟨rfl, hb10⟩; have p0a := cell_below' p0 hb10; have p1a := cell_below' p1 hb10) | (go_at_call 57; refine (HS2.out _ hb10).mono ?_; rintro en w11 ⟨rfl, hb11⟩; have p0b := cell_below' p0a hb11; have p1b := cell_below' p1a hb11; have RBz := RB9.below (btr hb10 hb11); have k0z := RBz.cell (j := 0) rfl; have k1z := RBz.cell (j := 1) rfl; have z0z := RBz.frozen 0; have z1z := RBz.frozen 1))
            obtain ⟨s0, s1⟩ := two_setN (u := .int .i64 ks) (v := .slice A15 q.over.length c15) (RBz.cell (j := 0) rfl) (RBz.cell (j := 1) rfl)
            have hne : some (w.heap.size + 1) ≠ (Value.slice A15 q.over.length c15).ownBlock := own_ne ho9 (show w.heap.size + 1 < wq.heap.size from by have := hbX.size; have := hbN.size; omega)
            have hoz := own_setN (own_setN (own_below ho9 (btr hb10 hb11)) hne 0 (.int .i64 ks)) hne 1 (.slice A15 q.over.length c15)
            exact bodyPost_ret (v := .tuple #[.agg #[.int .i64 ks, .slice A15 q.over.length c15], .bool true]) (by simp [results, Try.results40, go_sem, s0, s1]) rfl ⟨A15, c15, by rw [HR.out, HQk.out], by rw [HR.out]; exact own_base hoz (show w.heap.size ≤ wq.heap.size from by have := hbX.size; have := hbN.size; omega), ((btr hbz9 (btr hb10 hb11)).setCell (by simp) _).setCell (by simp) _⟩
          · have hsq' : soundB q.over q.kinds.toNat = false := by simpa using hsq
            have HR := Lib.hid (HRE2.out.trans (if_neg (by rw [HOK.out, hsq']; decide)))
            rw [hsq'] at HS2
            clear HRE2 HOK hsq hsq'
            go_wp2_with (first | (go_at_call 52; refine (HGo.out _ (Below.refl _ _)).mono ?_; rintro en w10 ⟨rfl, hb10⟩; have p0a := cell_below' p0 hb10; have p1a := cell_below' p1 hb10) | (go_at_call 57; refine (HS2.out _ hb10).mono ?_; rintro en w11 ⟨rfl, hb11⟩; have RBz := RB9.below (btr hb10 hb11); have k0z := RBz.cell (j := 0) rfl; have k1z := RBz.cell (j := 1) rfl; have z0z := RBz.frozen 0; have z1z := RBz.frozen 1))
            obtain ⟨s0, s1⟩ := two_setN (u := .int .i64 0) (v := .slice none 0 0) (RBz.cell (j := 0) rfl) (RBz.cell (j := 1) rfl)
            exact bodyPost_ret (v := .tuple #[.agg #[.int .i64 0, .slice none 0 0], .bool false]) (by simp [results, Try.results40, go_sem, s0, s1]) rfl ⟨none, 0, by rw [HR.out]; rfl, by rw [HR.out]; exact own_nil, ((btr hbz9 (btr hb10 hb11)).setCell (by simp) _).setCell (by simp) _⟩
        · have hgq' : goodPc q = false := by simpa using hgq
          have HR := Lib.hid (HRE2.out.trans (if_neg (by unfold okB; rw [hgq']; simp)))
          rw [hgq'] at HGo
          clear HRE2 HSo hgq hgq'
          go_wp2_with (go_at_call 52; refine (HGo.out _ (Below.refl _ _)).mono ?_; rintro en w10 ⟨rfl, hb10⟩; have RBz := RB9.below hb10; have k0z := RBz.cell (j := 0) rfl; have k1z := RBz.cell (j := 1) rfl; have z0z := RBz.frozen 0; have z1z := RBz.frozen 1)
          obtain ⟨s0, s1⟩ := two_setN (u := .int .i64 0) (v := .slice none 0 0) (RBz.cell (j := 0) rfl) (RBz.cell (j := 1) rfl)
          exact bodyPost_ret (v := .tuple #[.agg #[.int .i64 0, .slice none 0 0], .bool false]) (by simp [results, Try.results40, go_sem, s0, s1]) rfl ⟨none, 0, by rw [HR.out]; rfl, by rw [HR.out]; exact own_nil, ((btr hbz9 hb10).setCell (by simp) _).setCell (by simp) _⟩
    · have Hf : Hid (G = k) := H.out.trans (by rw [List.drop_eq_nil_of_le (by omega)]; rfl)
      have hkD : decide ((k : Int) < (xs.length : Int)) = false := by simp; omega
      have hkI : ¬ (k : Int) < (xs.length : Int) := by omega
      have g1 := cell_after k1r
      clear H
      go_wp2_with fail
      refine wp_region_after (by kernel_rfl) (by kernel_rfl) ?_
      repeat (go_big_quiet_step (fail))
      refine wpQuiet_nil ?_
      intro nq
      have hbN := btr hb nq.bel
      generalize nq.val = wq at *
      clear g1
      have HQ2 : Hid (q.over = insAt xs k x) := HQo.out.trans (by rw [Hf.out])
      have HQL : Hid (q.over.length = xs.length + 1) := by show _ = _; rw [HQ2.out]; exact insAt_len _ _ _ hk
      have HQC : Hid (prCells q.over = prCells (xs.take k) ++ [.int .i64 x.a, .int .i64 x.b] ++ prCells (xs.drop k)) := by show _ = _; rw [HQ2.out]; simp [insAt, prCells, Pr.cells]
      have k0q := cell_below' k0 hbN
      have k1q := cell_below' k1 hbN
      have n0q := cell_below' n0 hbN
      have n1q := cell_below' n1 hbN
      have hxq := hxX.below hbN
      clear k0r k1r n0r n1r Hf hb
      have hpre := run_pre el_Pr A (n := xs.length) (c := c) (k := k) (by omega)
      have hcut := run_cut el_Pr A (n := xs.length) (c := c) (k := k) (by omega)
      have hT : Rd wq A (prCells (xs.take k)) := by have := hxq.take (k * 2); rwa [prCells_take xs k (by omega)] at this
      have hD : Rd wq (cutA A c k 2) (prCells (xs.drop k)) := by
        have := hxq.cutA k 2 c (by intro h; rw [prCells_len]; omega)
        rwa [prCells_drop xs k (by omega)] at this
      have hT1 := prCells_one (xs.take k)
      have hTl : (prCells (xs.take k)).length = k * 2 := by rw [prCells_len, List.length_take, Nat.min_eq_left (by omega)]
      have hD1 := prCells_one (xs.drop k)
      have hDl : (prCells (xs.drop k)).length = (xs.length - k) * 2 := by rw [prCells_len, List.length_drop]
      generalize prCells (xs.take k) = TC at *
      generalize prCells (xs.drop k) = DC at *
      generalize cutA A c k 2 = DA at *
      have HQN : Hid (∀ n, n = q.over.length → n = k + 1 + (xs.length - k)) := fun n h => by rw [h, HQL.out]; omega
      have hTw : ∀ w1, ClP wq.drew [] w1 → Rd w1 A TC := fun w1 h1 => (hT.drew).below (clP_below h1)
      have hDw : ∀ w1, ClP wq.drew [] w1 → Rd w1 DA DC := fun w1 h1 => (hD.drew).below (clP_below h1)
      have g0 := cell_cl (w := wq.drew) k0q
      have g1 := cell_cl (w := wq.drew) k1q
      have g2 := cell_cl (w := wq.drew) n0q
      have g3 := cell_cl (w := wq.drew) n1q
      go_wp2_with fail
      refine wp_loose_tail0 (U := fun _ => undef) (τ := lk [(2, rowS [] wq.drew.heap.size 52 2 0 []), (7, rowS [2] wq.drew.heap.size 52 2 (0 + k) ([] ++ TC)), (9, rowS [] wq.drew.heap.size 52 2 1 [.int .i64 x.a, .int .i64 x.b]), (10, rowS [7, 9] wq.drew.heap.size 52 2 (0 + k + 1) ([] ++ TC ++ [.int .i64 x.a, .int .i64 x.b])), (15, rowS [10] wq.drew.heap.size 52 2 (0 + k + 1 + (xs.length - k)) ([] ++ TC ++ [.int .i64 x.a, .int .i64 x.b] ++ DC)), (17, boxS [] wq.drew.heap.size 27 [.int .i64 0, .slice none 0 0])]) (F := []) 18 (by kernel_rfl) (by kernel_rfl) (fits_of rfl (by kernel_rfl)) (inv_start (by intro r s h; have := lk_mem h; simp at this; (first | omega | (simp only [List.length_cons, List.length_nil]; omega)))) ?_
      simp only [List.take_succ_cons, List.take_zero, List.drop_succ_cons, List.drop_zero]
      refine wpL_quiet 2 rfl rfl ?_
      simp only [List.take_succ_cons, List.take_zero, List.drop_succ_cons, List.drop_zero]
      repeat (go_big_quiet_step (fail))
      refine wpQuiet_nil ?_
      refine gives_loose rfl (ob_lit (cs := #[]) (Nat.le_refl _) (by unfold maxLen; omega) rfl (fun w1 _ => ?_)) ?_
      · go_simp
      rintro u2 ⟨A2, c2, rfl⟩
      simp only [Act.put, List.setIfInBounds_toArray, List.set_cons_zero, List.set_cons_succ]
      refine wpL_quiet 4 rfl rfl ?_
      simp only [List.take_succ_cons, List.take_zero, List.drop_succ_cons, List.drop_zero]
      repeat (go_big_quiet_step (fail))
      refine wpQuiet_nil ?_
      refine gives_loose rfl (ob_app (.tmp 42) (.tmp 46) 22 rfl el_Pr 2 rfl rfl rfl hTl (ds := []) (fun w1 h1 _ => hTw w1 h1) hT1 (by unfold maxLen; omega) (by omega) (Nat.le_refl _)) ?_
      rintro u7 ⟨A7, c7, rfl⟩
      simp only [Act.put, List.setIfInBounds_toArray, List.set_cons_zero, List.set_cons_succ]
      refine wpL_quiet 1 rfl rfl ?_
      simp only [List.take_succ_cons, List.take_zero, List.drop_succ_cons, List.drop_zero]
      repeat (go_big_quiet_step (fail))
      refine wpQuiet_nil ?_
      refine gives_loose rfl (ob_lit (cs := #[.int .i64 x.a, .int .i64 x.b]) (Nat.le_refl _) (by unfold maxLen; omega) rfl (fun w1 _ => ?_)) ?_
      · go_simp
      rintro u9 ⟨A9, c9, rfl⟩
      simp only [Act.put, List.setIfInBounds_toArray, List.set_cons_zero, List.set_cons_succ]
      refine gives_loose rfl (ob_app (.tmp 47) (.tmp 49) 22 rfl el_Pr 7 rfl rfl rfl rfl (ds := [9]) (fun w1 _ hh => own_rd (hh 9 (by simp) _ rfl)) (by simp [Value.oneCell']) (by unfold maxLen; omega) (by omega) (Nat.le_refl _)) ?_
      rintro u10 ⟨A10, c10, rfl⟩
      simp only [Act.put, List.setIfInBounds_toArray, List.set_cons_zero, List.set_cons_succ]
      refine wpL_quiet 4 rfl rfl ?_
      simp only [List.take_succ_cons, List.take_zero, List.drop_succ_cons, List.drop_zero]
      repeat (go_big_quiet_step (fail))
      refine wpQuiet_nil ?_
      refine gives_loose rfl (ob_app (.tmp 50) (.tmp 54) 22 rfl el_Pr 10 rfl rfl rfl hDl (ds := []) (fun w1 h1 _ => hDw w1 h1) hD1 (by unfold maxLen; omega) (by omega) (Nat.le_refl _)) ?_
      rintro u15 ⟨A15, c15, rfl⟩
      simp only [Act.put, List.setIfInBounds_toArray, List.set_cons_zero, List.set_cons_succ]
      refine wpL_quiet 1 rfl rfl ?_
      simp only [List.take_succ_cons, List.take_zero, List.drop_succ_cons, List.drop_zero]
      repeat (go_big_quiet_step (fail))
      refine wpQuiet_nil ?_
      refine gives_loose rfl (ob_box (cs := #[.int .i64 0, .slice none 0 0]) (Nat.le_refl _) (fun w1 _ => ?_)) ?_
      · go_simp
      rintro u17 ⟨g17, rfl⟩
      simp only [Act.put, List.setIfInBounds_toArray, List.set_cons_zero, List.set_cons_succ]
      refine wpL_nil ?_
      intro w8 hEnd
      have hRow : w8.ownsRow wq.drew.heap.size 52 2 (.slice A15 (0 + k + 1 + (xs.length - k)) c15) (0 + k + 1 + (xs.length - k)) ([] ++ TC ++ [.int .i64 x.a, .int .i64 x.b] ++ DC) := ends_get hEnd 15 rfl rfl
      obtain ⟨BZ, hzB, hzn⟩ := ends_box_row (A := A15) (m := (0 + k + 1 + (xs.length - k))) (c := c15) (g := g17) hEnd 17 15 rfl rfl rfl rfl (by decide) rfl rfl
      have hb78 : Below wq.heap.size wq w8 := btr (Below.refl wq.heap.size wq).drew (ends_below hEnd)
      simp only [Nat.zero_add, List.nil_append] at hRow hzn
      have hL := HQN.out _ rfl
      rw [← HQC.out, ← hL] at hRow
      rw [← hL] at hzn ⊢
      have q0 := BZ.cell (j := 0) rfl
      have q1 := BZ.cell (j := 1) rfl
      have z0 := BZ.frozen 0
      have z1 := BZ.frozen 1
      clear hEnd g0 g1 g2 g3 hTw hDw hT hD hL HQN hT1 hTl hD1 hDl
      go_wp2_with fail
      obtain ⟨p0, p1⟩ := two_setN (u := .int .i64 ks) (v := .slice A15 q.over.length c15) q0 q1
      have ho9 := own_setN (own_setN hRow hzn 0 (.int .i64 ks)) hzn 1 (.slice A15 q.over.length c15)
      have hb9 : Below wq.heap.size wq ((w8.setCell ⟨g17, 0, none⟩ (.int .i64 ks)).setCell ⟨g17, 1, none⟩ (.slice A15 q.over.length c15)) := (hb78.setCell (show wq.heap.size ≤ g17 from hzB) _).setCell (show wq.heap.size ≤ g17 from hzB) _
      clear q0 q1 z0 z1 BZ hzn hb78 hRow
      generalize ((w8.setCell ⟨g17, 0, none⟩ (.int .i64 ks)).setCell ⟨g17, 1, none⟩ (.slice A15 q.over.length c15)) = w9 at *
      have hbw9 := btr hbN hb9
      have RB9 := RBX.below hbw9
      have hbz9 := btr hbWX hbw9
      have HGo : Hid (∀ w1, Below w9.heap.size w9 w1 → Calls Try.prog 52 #[.agg #[.int .i64 ks, .slice A15 q.over.length c15]] w1 fun e w' => e = .returned (.bool (goodPc q)) ∧ Below w1.heap.size w1 w') := fun w1 h1 => by
        have := l4Good_any A15 c15 q w1 (by have := HQL.out; unfold maxLen; omega) ((own_rd ho9).below h1)
        rwa [HQk.out] at this
      have HSo : Hid (∀ w1, Below w9.heap.size w9 w1 → goodPc q = true → Calls Try.prog 57 #[.agg #[.int .i64 ks, .slice A15 q.over.length c15]] w1 fun e w' => e = .returned (.bool (soundB q.over q.kinds.toNat)) ∧ Below w1.heap.size w1 w') := fun w1 h1 hgq => by
        obtain ⟨hk1', hk8', h16', hin', _⟩ := goodPc_in hgq
        have := l4Sound_any A15 c15 q.kinds.toNat q.over w1 ⟨by omega, by omega⟩ h16' ((own_rd ho9).below h1) hin'
        rwa [show ((q.kinds.toNat : Nat) : Int) = ks by rw [← HQk.out]; omega] at this
      have hbk : W1.heap.size ≤ w9.heap.size := hbw9.size
      by_cases hgq : goodPc q = true
      · have HS2 : Hid (∀ w1, Below w9.heap.size w9 w1 → _) := fun w1 h1 => HSo.out w1 h1 hgq
        have HOK : Hid (okB q = soundB q.over q.kinds.toNat) := by show _ = _; unfold okB; rw [hgq, Bool.true_and]
        rw [hgq] at HGo
        clear HSo hgq
        by_cases hsq : soundB q.over q.kinds.toNat = true
        · have HR := Lib.hid (HRE2.out.trans (if_pos (HOK.out.trans hsq)))
          rw [hsq] at HS2
          clear HRE2 HOK hsq
          go_wp2_with (first | (go_at_call 52; refine (HGo.out _ (Below.refl _ _)).mono ?_; rintro en w10 ⟨rfl, hb10⟩; have p0a := cell_below' p0 hb10; have p1a := cell_below' p1 hb10) | (go_at_call 57; refine (HS2.out _ hb10).mono ?_; rintro en w11 ⟨rfl, hb11⟩; have p0b := cell_below' p0a hb11; have p1b := cell_below' p1a hb11; have RBz := RB9.below (btr hb10 hb11); have k0z := RBz.cell (j := 0) rfl; have k1z := RBz.cell (j := 1) rfl; have z0z := RBz.frozen 0; have z1z := RBz.frozen 1))
          obtain ⟨s0, s1⟩ := two_setN (u := .int .i64 ks) (v := .slice A15 q.over.length c15) (RBz.cell (j := 0) rfl) (RBz.cell (j := 1) rfl)
          have hne : some (w.heap.size + 1) ≠ (Value.slice A15 q.over.length c15).ownBlock := own_ne ho9 (show w.heap.size + 1 < wq.heap.size from by have := hbX.size; have := hbN.size; omega)
          have hoz := own_setN (own_setN (own_below ho9 (btr hb10 hb11)) hne 0 (.int .i64 ks)) hne 1 (.slice A15 q.over.length c15)
          exact bodyPost_ret (v := .tuple #[.agg #[.int .i64 ks, .slice A15 q.over.length c15], .bool true]) (by simp [results, Try.results40, go_sem, s0, s1]) rfl ⟨A15, c15, by rw [HR.out, HQk.out], by rw [HR.out]; exact own_base hoz (show w.heap.size ≤ wq.heap.size from by have := hbX.size; have := hbN.size; omega), ((btr hbz9 (btr hb10 hb11)).setCell (by simp) _).setCell (by simp) _⟩
        · have hsq' : soundB q.over q.kinds.toNat = false := by simpa using hsq
          have HR := Lib.hid (HRE2.out.trans (if_neg (by rw [HOK.out, hsq']; decide)))
          rw [hsq'] at HS2
          clear HRE2 HOK hsq hsq'
          go_wp2_with (first | (go_at_call 52; refine (HGo.out _ (Below.refl _ _)).mono ?_; rintro en w10 ⟨rfl, hb10⟩; have p0a := cell_below' p0 hb10; have p1a := cell_below' p1 hb10) | (go_at_call 57; refine (HS2.out _ hb10).mono ?_; rintro en w11 ⟨rfl, hb11⟩; have RBz := RB9.below (btr hb10 hb11); have k0z := RBz.cell (j := 0) rfl; have k1z := RBz.cell (j := 1) rfl; have z0z := RBz.frozen 0; have z1z := RBz.frozen 1))
          obtain ⟨s0, s1⟩ := two_setN (u := .int .i64 0) (v := .slice none 0 0) (RBz.cell (j := 0) rfl) (RBz.cell (j := 1) rfl)
          exact bodyPost_ret (v := .tuple #[.agg #[.int .i64 0, .slice none 0 0], .bool false]) (by simp [results, Try.results40, go_sem, s0, s1]) rfl ⟨none, 0, by rw [HR.out]; rfl, by rw [HR.out]; exact own_nil, ((btr hbz9 (btr hb10 hb11)).setCell (by simp) _).setCell (by simp) _⟩
      · have hgq' : goodPc q = false := by simpa using hgq
        have HR := Lib.hid (HRE2.out.trans (if_neg (by unfold okB; rw [hgq']; simp)))
        rw [hgq'] at HGo
        clear HRE2 HSo hgq hgq'
        go_wp2_with (go_at_call 52; refine (HGo.out _ (Below.refl _ _)).mono ?_; rintro en w10 ⟨rfl, hb10⟩; have RBz := RB9.below hb10; have k0z := RBz.cell (j := 0) rfl; have k1z := RBz.cell (j := 1) rfl; have z0z := RBz.frozen 0; have z1z := RBz.frozen 1)
        obtain ⟨s0, s1⟩ := two_setN (u := .int .i64 0) (v := .slice none 0 0) (RBz.cell (j := 0) rfl) (RBz.cell (j := 1) rfl)
        exact bodyPost_ret (v := .tuple #[.agg #[.int .i64 0, .slice none 0 0], .bool false]) (by simp [results, Try.results40, go_sem, s0, s1]) rfl ⟨none, 0, by rw [HR.out]; rfl, by rw [HR.out]; exact own_nil, ((btr hbz9 hb10).setCell (by simp) _).setCell (by simp) _⟩
end Go.Proofs.Ytdbcbaahjhaonaa
