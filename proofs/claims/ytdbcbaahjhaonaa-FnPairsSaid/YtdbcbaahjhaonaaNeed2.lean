/-
  The reference's own NeedlessPairs. Conditions: lengths within Go's range.
-/
import Derived.Test.YtdbcbaahjhaonaaNeed
import Derived.Test.YtdbcbaahjhaonaaLoose
namespace Go.Proofs.Ytdbcbaahjhaonaa
open Go.RowKit Go.My
set_option maxHeartbeats 8000000 in
set_option maxRecDepth 100000 in
theorem specNeedP_any (A : Option Addr) (c : Nat) (p : Prec) (w : World) (hn : p.over.length ≤ maxLen) (_ : p.over.length ≤ c) (hx : Rd w A (prCells p.over)) :
    Calls Try.prog 29 #[.agg #[.int .i64 p.kinds, .slice A p.over.length c]] w fun en w' => ∃ A' c', en = .returned (.tuple #[.slice A' (needR p).1.length c', .bool (needR p).2]) ∧ w'.ownsRow w.heap.size 52 2 (.slice A' (needR p).1.length c') (needR p).1.length (prCells (needR p).1) ∧ Below w.heap.size w w' := by
  obtain ⟨r, hr⟩ : ∃ r, r = needR p := ⟨_, rfl⟩
  rw [← hr]
  have hb0 : Below w.heap.size w (w.alloc (.cells #[.int .i64 p.kinds, .slice A p.over.length c] 27)) := bnew (Below.refl _ _) _
  have m0 : (w.alloc (.cells #[.int .i64 p.kinds, .slice A p.over.length c] 27)).cell? ⟨w.heap.size, 0, none⟩ = some (.int .i64 p.kinds) := (World.cell?_alloc_at _ _ _ _ rfl).trans rfl
  have m1 : (w.alloc (.cells #[.int .i64 p.kinds, .slice A p.over.length c] 27)).cell? ⟨w.heap.size, 1, none⟩ = some (.slice A p.over.length c) := (World.cell?_alloc_at _ _ _ _ rfl).trans rfl
  have Hv : Hid (∀ w1, Below w.heap.size w w1 → Calls Try.prog 52 #[.agg #[.int .i64 p.kinds, .slice A p.over.length c]] w1 fun e w' => e = .returned (.bool (goodPc p)) ∧ Below w1.heap.size w1 w') := fun w1 hb => l4Good_any A c p w1 hn (hx.below hb)
  have Hs : Hid (goodPc p = true → ∀ w1, Below w.heap.size w w1 → Calls Try.prog 57 #[.agg #[.int .i64 p.kinds, .slice A p.over.length c]] w1 fun e w' => e = .returned (.bool (soundB p.over p.kinds.toNat)) ∧ Below w1.heap.size w1 w') := fun hg w1 hb => by
    obtain ⟨hk1, hk8, h16, hin, _⟩ := goodPc_in hg
    have := l4Sound_any A c p.kinds.toNat p.over w1 ⟨by omega, by omega⟩ h16 (hx.below hb) hin
    rwa [show ((p.kinds.toNat : Nat) : Int) = p.kinds by omega] at this
  unfold needR at hr
  have HRE := Lib.hid hr
  clear hr hn
  have hbE := bnew hb0 (.cells #[] 52)
  have m0e := cell_below' m0 (bnew (Below.refl (w.alloc (.cells #[.int .i64 p.kinds, .slice A p.over.length c] 27)).heap.size (w.alloc (.cells #[.int .i64 p.kinds, .slice A p.over.length c] 27))) (.cells #[] 52))
  have m1e := cell_below' m1 (bnew (Below.refl (w.alloc (.cells #[.int .i64 p.kinds, .slice A p.over.length c] 27)).heap.size (w.alloc (.cells #[.int .i64 p.kinds, .slice A p.over.length c] 27))) (.cells #[] 52))
  have hbEE := bnew (Below.refl (w.alloc (.cells #[.int .i64 p.kinds, .slice A p.over.length c] 27)).heap.size (w.alloc (.cells #[.int .i64 p.kinds, .slice A p.over.length c] 27))) (.cells #[] 52)
  have ho00 := own_lit (e := 52) (size := 2) (B := (w.alloc (.cells #[.int .i64 p.kinds, .slice A p.over.length c] 27)).heap.size) (w := (w.alloc (.cells #[.int .i64 p.kinds, .slice A p.over.length c] 27))) #[] 0 (Nat.le_refl _) (by unfold maxLen; omega) rfl
  have hWS : (w.alloc (.cells #[.int .i64 p.kinds, .slice A p.over.length c] 27)).heap.size = w.heap.size + 1 := by simp
  rw [hWS] at ho00
  by_cases hm : okB p = true
  · have HR := Lib.hid (HRE.out.trans (if_pos hm))
    have Hs2 := Lib.hid (Hs.out (by simp only [okB, Bool.and_eq_true] at hm; exact hm.1))
    obtain ⟨ks, xs⟩ := p
    simp only at hx Hv Hs2 m0 m1 m0e m1e hbE hbEE ho00 hWS HR ⊢
    simp only [okB, Bool.and_eq_true] at hm
    obtain ⟨hg, hso⟩ := hm
    obtain ⟨hk1, hk8, h16, hin, _⟩ := goodPc_in hg
    simp only at hk1 hk8 h16 hin hso
    obtain ⟨K, rfl⟩ : ∃ K : Nat, ks = (K : Int) := ⟨ks.toNat, by omega⟩
    simp only [Int.toNat_natCast] at hin hso
    have hKK : 1 ≤ K ∧ K ≤ 8 := ⟨by omega, by omega⟩
    have hac := soundB_acyc hin hso
    simp only [Int.toNat_natCast] at Hs2
    rw [hg] at Hv
    rw [hso] at Hs2
    have hx0 := hx.below hb0
    have HIN := Lib.hid hin
    clear HRE hx hin hac hg hso Hs
    go_enter Try.func29, Try.ntmps29
    go_wp2_with (first | (go_at_call 52; refine (Hv.out _ hbE).mono ?_; rintro en w1 ⟨rfl, hb1⟩; have m0a := cell_below' m0e hb1; have m1a := cell_below' m1e hb1) | (go_at_call 57; refine (Hs2.out _ (btr hbE hb1)).mono ?_; rintro en w2 ⟨rfl, hb2⟩; have hb02 := btr hbEE (btr hb1 hb2)))
    have ho0 := own_below ho00 (btr hb1 hb2)
    generalize w.alloc (.cells #[.int .i64 (K : Int), .slice A xs.length c] 27) = W0 at *
    clear hb1 hb2 Hv Hs2 m0a m1a m0e m1e ho00 hbE hbEE
    go_loopw [4, 5] (fun out i wr => ∃ k : Nat, ∃ (A' : Option Addr) (c' : Nat) (L : List Pr), k ≤ xs.length ∧ i = .int .i64 k ∧ out = .slice A' L.length c' ∧ Hid (needL xs k = L) ∧ L.length ≤ k ∧ wr.ownsRow (w.heap.size + 1) 52 2 (.slice A' L.length c') L.length (prCells L) ∧ Below W0.heap.size W0 wr) (fun _ i _ => xs.length - (intOf i).toNat)
    case atStart => exact ⟨0, some ⟨w.heap.size + 1, 0, none⟩, 0, [], by omega, rfl, rfl, rfl, by simp, ho0, hb02⟩
    case round =>
      obtain ⟨k, A', c', L, hk, rfl, rfl, HP, hLk, ho, hb⟩ := hrel
      clear ho0 hb02
      have m0r := cell_below' m0 hb
      have m1r := cell_below' m1 hb
      by_cases hlt : k < xs.length
      · have HSP : Hid (∀ w1, Below W0.heap.size W0 w1 → ∃ b off, A = some ⟨b, off, none⟩ ∧ w1.cell? ⟨b, off + k * 2, none⟩ = some (.int .i64 xs[k].a) ∧ w1.cell? ⟨b, off + k * 2 + 1, none⟩ = some (.int .i64 xs[k].b)) := fun w1 h1 => Rd.pr (hx0.below h1) hlt
        have HNy := Lib.hid (fun h => (needL_yes hlt h).trans (by rw [HP.out]))
        have HNn := Lib.hid (fun h => (needL_no hlt h).trans HP.out)
        have hsin := HIN.out xs[k] (List.getElem_mem hlt)
        obtain ⟨rs, hrs⟩ : ∃ rs, rs = delAt xs k := ⟨_, rfl⟩
        have HDI : Hid (InK rs K) := by show InK _ _; rw [hrs]; exact delAt_in HIN.out k
        have HRL : Hid (rs.length = xs.length - 1) := by show _ = _; rw [hrs, delAt_len _ _ hlt]
        have HRC : Hid (prCells rs = prCells (xs.take k) ++ prCells (xs.drop (k + 1))) := by show _ = _; rw [hrs]; exact prCells_append _ _
        have HRN : Hid (∀ n, n = rs.length → n = k + (xs.length - (k + 1))) := fun n h => by rw [h, HRL.out]; omega
        rw [← hrs] at HNy HNn
        clear hrs
        generalize xs[k] = s at *
        have hx := hx0
        have hpre := run_pre el_Pr A (n := xs.length) (c := c) (k := k) (by omega)
        have hcut : ∀ w : World, (Instr.slice 22 (.slice A xs.length c) (some (.int .i64 ((k : Int) + 1))) none none).run Try.prog w = .ok (.slice (cutA A c (k + 1) 2) (xs.length - (k + 1)) (c - (k + 1))) w := by
          intro w
          have := run_cut el_Pr A (n := xs.length) (c := c) (k := k + 1) (by omega) w
          rwa [show ((k + 1 : Nat) : Int) = (k : Int) + 1 by omega] at this
        have hT : Rd W0 A (prCells (xs.take k)) := by have := hx.take (k * 2); rwa [prCells_take xs k (by omega)] at this
        have hD : Rd W0 (cutA A c (k + 1) 2) (prCells (xs.drop (k + 1))) := by
          have := hx.cutA (k + 1) 2 c (by intro h; rw [prCells_len]; omega)
          rwa [prCells_drop xs (k + 1) (by omega)] at this
        have hT1 := prCells_one (xs.take k)
        have hTl : (prCells (xs.take k)).length = k * 2 := by rw [prCells_len, List.length_take, Nat.min_eq_left (by omega)]
        have hD1 := prCells_one (xs.drop (k + 1))
        have hDl : (prCells (xs.drop (k + 1))).length = (xs.length - (k + 1)) * 2 := by rw [prCells_len, List.length_drop]
        generalize prCells (xs.take k) = TC at *
        generalize prCells (xs.drop (k + 1)) = DC at *
        generalize cutA A c (k + 1) 2 = DA at *
        have hkw : IntKind.i64.wrap ((k : Int) + 1) = (k : Int) + 1 := by rw [IntKind.wrap_i64]; omega
        have hkI : (k : Int) < (xs.length : Int) := by omega
        go_wp2_with fail
        have hS0 : (wr.cell? ⟨w.heap.size, 0, none⟩ = some (.int .i64 K) ∧ wr.cell? ⟨w.heap.size, 1, none⟩ = some (.slice A xs.length c)) := ⟨m0r, m1r⟩
        have g0 := cell_cl (w := wr.drew) m0r
        have g1 := cell_cl (w := wr.drew) m1r
        have hTw : ∀ w1, ClP wr.drew [] w1 → Rd w1 A TC := fun w1 ⟨N, e⟩ => e ▸ ((hT.below hb).drew).below (w' := N.val) N.below
        have hDw : ∀ w1, ClP wr.drew [] w1 → Rd w1 DA DC := fun w1 ⟨N, e⟩ => e ▸ ((hD.below hb).drew).below (w' := N.val) N.below
        refine wp_loose_tail0 (U := fun _ => undef) (τ := lk [(2, rowS [] wr.drew.heap.size 52 2 0 []), (7, rowS [2] wr.drew.heap.size 52 2 (0 + k) ([] ++ TC)), (13, rowS [7] wr.drew.heap.size 52 2 (0 + k + (xs.length - (k + 1))) ([] ++ TC ++ DC)), (15, boxS [] wr.drew.heap.size 27 [.int .i64 0, .slice none 0 0])]) (F := []) 16 (by kernel_rfl) (by kernel_rfl) (fits_of rfl (by kernel_rfl)) (inv_start (by intro r s h; have := lk_mem h; simp at this; (first | omega | (simp only [List.length_cons, List.length_nil]; omega)))) ?_
        simp only [List.take_succ_cons, List.take_zero, List.drop_succ_cons, List.drop_zero]
        refine wpL_quiet 2 rfl rfl ?_
        simp only [List.take_succ_cons, List.take_zero, List.drop_succ_cons, List.drop_zero]
        repeat (go_big_quiet_step (fail))
        refine wpQuiet_nil ?_
        refine gives_loose rfl (ob_lit (cs := #[]) (Nat.le_refl _) (by unfold maxLen; omega) rfl (fun w1 _ => ?_)) ?_
        · go_simp
        rintro u2 ⟨A2, c2, rfl⟩
        simp only [Act.put, List.setIfInBounds_toArray, List.set_cons_zero, List.set_cons_succ]
        refine wpL_quiet 4 rfl rfl ?_
        simp only [List.take_succ_cons, List.take_zero, List.drop_succ_cons, List.drop_zero]
        repeat (go_big_quiet_step (fail))
        refine wpQuiet_nil ?_
        refine gives_loose rfl (ob_app (.tmp 26) (.tmp 30) 22 rfl el_Pr 2 rfl rfl rfl hTl (ds := []) (fun w1 h1 _ => hTw w1 h1) hT1 (by unfold maxLen; omega) (by omega) (Nat.le_refl _)) ?_
        rintro u7 ⟨A7, c7, rfl⟩
        simp only [Act.put, List.setIfInBounds_toArray, List.set_cons_zero, List.set_cons_succ]
        refine wpL_quiet 5 rfl rfl ?_
        simp only [List.take_succ_cons, List.take_zero, List.drop_succ_cons, List.drop_zero]
        repeat (go_big_quiet_step (fail))
        refine wpQuiet_nil ?_
        refine gives_loose rfl (ob_app (.tmp 31) (.tmp 36) 22 rfl el_Pr 7 rfl rfl rfl hDl (ds := []) (fun w1 h1 _ => hDw w1 h1) hD1 (by unfold maxLen; omega) (by omega) (Nat.le_refl _)) ?_
        rintro u13 ⟨A13, c13, rfl⟩
        simp only [Act.put, List.setIfInBounds_toArray, List.set_cons_zero, List.set_cons_succ]
        refine wpL_quiet 1 rfl rfl ?_
        simp only [List.take_succ_cons, List.take_zero, List.drop_succ_cons, List.drop_zero]
        repeat (go_big_quiet_step (fail))
        refine wpQuiet_nil ?_
        refine gives_loose rfl (ob_box (cs := #[.int .i64 0, .slice none 0 0]) (Nat.le_refl _) (fun w1 _ => ?_)) ?_
        · go_simp
        rintro u15 ⟨g15, rfl⟩
        simp only [Act.put, List.setIfInBounds_toArray, List.set_cons_zero, List.set_cons_succ]
        refine wpL_nil ?_
        intro w8 hEnd
        have hRow : w8.ownsRow wr.drew.heap.size 52 2 (.slice A13 (0 + k + (xs.length - (k + 1))) c13) (0 + k + (xs.length - (k + 1))) ([] ++ TC ++ DC) := ends_get hEnd 13 rfl rfl
        obtain ⟨BZ, hzB, hzn⟩ := ends_box_row (A := A13) (m := 0 + k + (xs.length - (k + 1))) (c := c13) (g := g15) hEnd 15 13 rfl rfl rfl rfl (by decide) rfl rfl
        have hb78 : Below wr.heap.size wr w8 := btr (Below.refl wr.heap.size wr).drew (ends_below hEnd)
        simp only [Nat.zero_add, List.nil_append] at hRow hzn
        have hL := HRN.out _ rfl
        rw [← HRC.out, ← hL] at hRow
        rw [← hL] at hzn ⊢
        have q0 := BZ.cell (j := 0) rfl
        have q1 := BZ.cell (j := 1) rfl
        have z0 := BZ.frozen 0
        have z1 := BZ.frozen 1
        clear hEnd g0 g1 hTw hDw hT hD hL HRN HRC hT1 hTl hD1 hDl
        go_wp2_with fail
        obtain ⟨p0, p1⟩ := two_set (u := .int .i64 K) (v := .slice A13 rs.length c13) q0 q1
        have ho9 := own_set_ne (own_set_ne hRow hzn 0 (.int .i64 K)) hzn 1 (.slice A13 rs.length c13)
        have hb9 : Below wr.heap.size wr ((w8.setCell ⟨g15, 0, none⟩ (.int .i64 K)).setCell ⟨g15, 1, none⟩ (.slice A13 rs.length c13)) := (hb78.setCell (show wr.heap.size ≤ g15 from hzB) _).setCell (show wr.heap.size ≤ g15 from hzB) _
        clear q0 q1 z0 z1 BZ hzn hb78 hRow
        generalize ((w8.setCell ⟨g15, 0, none⟩ (.int .i64 K)).setCell ⟨g15, 1, none⟩ (.slice A13 rs.length c13)) = w9 at *
        have m0n := cell_below' m0r hb9
        have m1n := cell_below' m1r hb9
        obtain ⟨b, off, rfl, c0, c1⟩ := HSP.out _ (btr hb hb9)
        obtain ⟨nb, hnb⟩ : ∃ nb : Nat, s.b = nb := ⟨s.b.toNat, by omega⟩
        have hnbK : nb < K := by omega
        rw [hnb] at c1
        obtain ⟨sel, hsel⟩ : ∃ sel, sel = selTo (reachB rs s.a) K := ⟨_, rfl⟩
        have hsl : sel.length ≤ K := by rw [hsel]; exact selTo_len' _ _
        obtain ⟨rb, hrb⟩ : ∃ rb, rb = reachB rs s.a s.b := ⟨_, rfl⟩
        have HG : Hid ((sel.any fun y => y == (nb : Int)) = rb) := by show _ = _; rw [hsel, hrb, hnb]; exact hasK_selTo hnbK
        rw [← hrb] at HNy HNn
        have HRe : Hid (∀ w1, ClP w9.drew [] w1 → Calls Try.prog 60 #[.agg #[.int .i64 K, .slice A13 rs.length c13], .int .i64 s.a] w1 fun e w2 => ∃ u, e = .returned u ∧ w2.ownsRow w1.heap.size 3 1 u sel.length (intCells sel) ∧ w1.grownBy w2 none) := fun w1 h1 => by
          subst hsel
          refine (l4Reach_any A13 c13 K rs s.a w1 hKK (by have := HRL.out; omega) (((own_rd ho9).drew).below (clP_below h1)) HDI.out).mono ?_
          rintro e w2 ⟨A1, c1, rfl, ho, hb⟩
          exact ⟨_, rfl, ho, grown_of_below hb⟩
        clear hsel hrb
        have g0 := cell_cl (w := w9.drew) m0n
        have g1 := cell_cl (w := w9.drew) m1n
        have g2 := cell_cl (w := w9.drew) p0
        have g3 := cell_cl (w := w9.drew) p1
        have g4 := cell_cl (w := w9.drew) c0
        have g5 := cell_cl (w := w9.drew) c1
        refine wp_loose_tail0 (U := fun _ => undef) (τ := lk [(7, rowS [] w9.drew.heap.size 3 1 sel.length (intCells sel))]) (F := []) 14 (by kernel_rfl) (by kernel_rfl) (fits_of rfl (by kernel_rfl)) (inv_start (by intro r s h; have := lk_mem h; simp at this; (first | omega | (simp only [List.length_cons, List.length_nil]; omega)))) ?_
        simp only [List.take_succ_cons, List.take_zero, List.drop_succ_cons, List.drop_zero]
        refine wpL_quiet 7 rfl rfl ?_
        simp only [List.take_succ_cons, List.take_zero, List.drop_succ_cons, List.drop_zero]
        repeat (go_big_quiet_step (fail))
        refine wpQuiet_nil ?_
        refine gives_loose rfl (ob_row (Nat.le_refl _) (fun w1 h1 _ => by simp [stepTo, stepUpon, go_sem]; exact HRe.out w1 h1)) ?_
        rintro u7 ⟨A7, c7, rfl⟩
        simp only [Act.put, List.setIfInBounds_toArray, List.set_cons_zero, List.set_cons_succ]
        refine wpL_quiet 6 rfl rfl ?_
        simp only [List.take_succ_cons, List.take_zero, List.drop_succ_cons, List.drop_zero]
        repeat (go_big_quiet_step (fail))
        refine wpQuiet_nil ?_
        refine wpL_nil ?_
        intro w8 hEnd
        have ho7 : w8.ownsRow w9.drew.heap.size 3 1 (.slice A7 sel.length c7) sel.length (intCells sel) := ends_get hEnd 7 rfl rfl
        have hb89 : Below w9.heap.size w9 w8 := btr (Below.refl w9.heap.size w9).drew (ends_below hEnd)
        have h7 := own_rd ho7
        have hbw := btr hb (btr hb9 hb89)
        have m1z := cell_below' m1n hb89
        have d0 := cell_below' c0 hb89
        have d1 := cell_below' c1 hb89
        have hoL := own_below (own_below ho hb9) hb89
        have hbS := bnew hbw (.cells #[.int .i64 s.a, .int .i64 nb] 52)
        have hoS := own_below hoL (bnew (Below.refl w8.heap.size w8) (.cells #[.int .i64 s.a, .int .i64 nb] 52))
        have hrdS : Rd (w8.alloc (.cells #[.int .i64 s.a, .int .i64 nb] 52)) (some ⟨w8.heap.size, 0, none⟩) [.int .i64 s.a, .int .i64 nb] := Rd.made
        have hoLk := hoL
        have hbk := hbw
        clear hEnd g0 g1 g2 g3 g4 g5 HRe p0 p1 m0n m0r m1r ho9 hb9 c0 c1 hbw hoL hb89
        have HC : Hid (Calls Try.prog 62 #[.slice A7 sel.length c7, .int .i64 nb] w8 fun e w' => e = .returned (.bool rb) ∧ w8 = w') := by
          have := l1Has_any A7 c7 sel nb w8 (by unfold maxLen; omega) h7
          rw [HG.out] at this
          exact this
        clear HG
        cases rb with
        | false =>
          have HS := Lib.hid (HNn.out (by simp))
          clear HNn HNy
          go_wp2_with (go_at_call 62; refine HC.out.mono ?_; rintro en w10 ⟨rfl, rfl⟩)
          go_roundw
          case rel => exact ⟨k + 1, A', c', L, by omega, by go_num, rfl, HS, by omega, hoLk, hbk⟩
          case measure => simp [intOf]; omega
        | true =>
          have HS := Lib.hid (HNy.out rfl)
          clear HNn HNy
          go_wp2_with (first | (go_at_call 62; refine HC.out.mono ?_; rintro en w10 ⟨rfl, rfl⟩) | (at_builtin; go_must (refine wpl_app rfl (.tmp 54) (.tmp 60) 22 rfl el_Pr (v := .slice A' L.length c') rfl hoS rfl rfl hrdS (by simp [Value.oneCell']) (by unfold maxLen; omega) (by omega) (by rw [← hWS]; exact hbS.size) ?_); intro A1 c1 w11 ho1 hg1 hor; have hb11 : Below W0.heap.size W0 w11 := hbS.grown hg1 hbS.size (fun k hk => by rw [hWS]; exact (hoS.lt k hk).1); clear hor hg1))
          go_roundw
          case rel => exact ⟨k + 1, A1, c1, L ++ [s], by omega, by go_num, by simp, HS, (by simp; omega), (by rw [prCells_append]; simpa [prCells, Pr.cells, hnb] using ho1), hb11⟩
          case measure => simp [intOf]; omega
      · have HF : Hid (L = needL xs xs.length) := by have := HP.out; rw [show k = xs.length by omega] at this; exact this.symm
        clear HP
        go_wp2
        exact bodyPost_ret (v := .tuple #[.slice A' L.length c', .bool true]) (by simp [results, Try.results29, go_sem]) rfl ⟨A', c', by rw [HR.out, HF.out], by rw [HR.out]; exact (by rw [← HF.out]; exact own_base ho (by omega)), btr hb0 hb⟩
  · have HR := Lib.hid (HRE.out.trans (if_neg hm))
    by_cases hg : goodPc p = true
    · have hso : soundB p.over p.kinds.toNat = false := by
        have : ¬ (soundB p.over p.kinds.toNat = true) := fun h => hm (by simp only [okB]; rw [hg, h]; rfl)
        simpa using this
      have Hs2 := Lib.hid (Hs.out hg)
      rw [hg] at Hv
      rw [hso] at Hs2
      clear HRE hx hm hg hso Hs
      go_enter Try.func29, Try.ntmps29
      go_wp2_with (first | (go_at_call 52; refine (Hv.out _ hbE).mono ?_; rintro en w1 ⟨rfl, hb1⟩; have m0a := cell_below' m0e hb1; have m1a := cell_below' m1e hb1) | (go_at_call 57; refine (Hs2.out _ (btr hbE hb1)).mono ?_; rintro en w2 ⟨rfl, hb2⟩))
      have hbz := btr hbE (btr hb1 hb2)
      have wz := w2
      exact bodyPost_ret (v := .tuple #[.slice (some ⟨w.heap.size + 1, 0, none⟩) 0 0, .bool false]) (by simp [results, Try.results29, go_sem]) rfl ⟨some ⟨w.heap.size + 1, 0, none⟩, 0, by rw [HR.out]; rfl, by rw [HR.out]; exact own_base (own_below ho00 (btr hb1 hb2)) (by omega), hbz⟩
    · have hg' : goodPc p = false := by simpa using hg
      rw [hg'] at Hv
      clear HRE hx hm hg hg' Hs
      go_enter Try.func29, Try.ntmps29
      go_wp2_with (go_at_call 52; refine (Hv.out _ hbE).mono ?_; rintro en w1 ⟨rfl, hb1⟩)
      have hbz := btr hbE hb1
      exact bodyPost_ret (v := .tuple #[.slice (some ⟨w.heap.size + 1, 0, none⟩) 0 0, .bool false]) (by simp [results, Try.results29, go_sem]) rfl ⟨some ⟨w.heap.size + 1, 0, none⟩, 0, by rw [HR.out]; rfl, by rw [HR.out]; exact own_base (own_below ho00 hb1) (by omega), hbz⟩
end Go.Proofs.Ytdbcbaahjhaonaa
