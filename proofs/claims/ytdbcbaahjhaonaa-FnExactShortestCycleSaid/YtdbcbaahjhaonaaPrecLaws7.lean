/-
  FnExactShortestCycle returns true for every input and leaves its arguments as they were. Conditions: none.
-/
import Derived.Test.YtdbcbaahjhaonaaPrecLaws
import Derived.Test.YtdbcbaahjhaonaaCyc3
namespace Go.Proofs.Ytdbcbaahjhaonaa
open Go.RowKit Go.My Go.ChangeShapes Go.WideShapes Go.ChangeAt

set_option maxHeartbeats 4000000 in
set_option maxRecDepth 100000 in
theorem law_ShortestCycle (Ap : Option Addr) (cp : Nat) (p : Prec) (w : World) (hnp : p.over.length ≤ maxLen) (hxp : Rd w Ap (prCells p.over)) :
    Calls Try.prog 8 #[.agg #[.int .i64 p.kinds, .slice Ap p.over.length cp]] w fun e w' => e = .returned (.bool true) ∧ Below w.heap.size w w' := by
  have hmp : p.over.length ≤ 9223372036854775807 := by have := hnp; unfold maxLen at this; omega
  have hbw := bnew (Below.refl w.heap.size w) (.cells #[.int .i64 p.kinds, .slice Ap p.over.length cp] 24)
  have B0 : Blk (w.alloc (.cells #[.int .i64 p.kinds, .slice Ap p.over.length cp] 24)) w.heap.size 24 [.int .i64 p.kinds, .slice Ap p.over.length cp] := Blk.made #[.int .i64 p.kinds, .slice Ap p.over.length cp] rfl
  have hxp0 := hxp.below hbw
  clear hxp
  by_cases hy0 : 0 ≤ szStep 1048576 p.over.length
  rotate_left
  · go_enter Try.func8, Try.ntmps8
    go_wp2_with fail
    generalize w.alloc (.cells #[.int .i64 p.kinds, .slice Ap p.over.length cp] 24) = W0 at *
    have hb := Below.refl W0.heap.size W0
    have kv0 := B0.cell (j := 0) rfl
    have kv1 := B0.cell (j := 1) rfl
    refine (szPrec_any Ap cp p 1048576 _ (by omega) (by omega) hnp (hxp0.below hb)).mono ?_
    rintro e w1 ⟨rfl, hb2⟩
    replace hb := btr hb hb2; clear hb2
    go_wp2_with fail
    go_ret
    exact ⟨rfl, btr hbw hb⟩
  obtain ⟨hl0, hq0⟩ := szStep_ok hy0
  have hkp : p.over.length ≤ 1048576 := by omega
  obtain ⟨r, hr⟩ : ∃ r, r = (cycR p) := ⟨_, rfl⟩
  have Hs : Hid (∀ (w1 : World) (A1 : Option Addr) (c1 : Nat), p.over.length ≤ c1 → Rd w1 A1 (prCells p.over) → Calls Try.prog 34 #[.agg #[.int .i64 p.kinds, .slice A1 p.over.length c1]] w1 fun e w' => ∃ A0 c0, e = .returned (.tuple #[.slice A0 r.1.length c0, .bool r.2]) ∧ w'.ownsRow w1.heap.size 3 1 (.slice A0 r.1.length c0) r.1.length (intCells r.1) ∧ Below w1.heap.size w1 w') := by
    subst hr; exact fun w1 A1 c1 hc1 h1 => specCycle_any A1 c1 p  w1 hnp hc1 h1
  have Hi : Hid (∀ (w1 : World) (A1 : Option Addr) (c1 : Nat), p.over.length ≤ c1 → Rd w1 A1 (prCells p.over) → Calls Try.prog 35 #[.agg #[.int .i64 p.kinds, .slice A1 p.over.length c1]] w1 fun e w' => ∃ A0 c0, e = .returned (.tuple #[.slice A0 r.1.length c0, .bool r.2]) ∧ w'.ownsRow w1.heap.size 3 1 (.slice A0 r.1.length c0) r.1.length (intCells r.1) ∧ Below w1.heap.size w1 w') := by
    subst hr; exact fun w1 A1 c1 hc1 h1 => cycle_any A1 c1 p  w1 hnp hc1 h1
  have hB0 : r.1.length ≤ 2097152 := by subst hr; (have := cycR_len p; omega)
  clear hr hq0 hl0
  go_enter Try.func8, Try.ntmps8
  go_wp2_with fail
  generalize w.alloc (.cells #[.int .i64 p.kinds, .slice Ap p.over.length cp] 24) = W0 at *
  have hb := Below.refl W0.heap.size W0
  have kv0 := B0.cell (j := 0) rfl
  have kv1 := B0.cell (j := 1) rfl
  refine (szPrec_any Ap cp p 1048576 _ (by omega) (by omega) hnp (hxp0.below hb)).mono ?_
  rintro e w1 ⟨rfl, hb2⟩
  replace hb := btr hb hb2
  replace kv0 := cell_below' kv0 hb2
  replace kv1 := cell_below' kv1 hb2
  clear hb2
  go_wp2_with fail
  refine (toPrec_any Ap cp p _ hkp (hxp0.below hb)).mono ?_
  rintro e w2 ⟨As, cs, rfl, hos, hb2⟩
  have hnb_kv_s := own_ne hos (World.block_lt_of_cell? _ _ kv0)
  replace hos := own_base hos hb.size
  replace hb := btr hb hb2
  replace kv0 := cell_below' kv0 hb2
  replace kv1 := cell_below' kv1 hb2
  clear hb2
  go_wp2_with fail
  refine (Hs.out _ _ _ (own_le hos) (own_rd hos)).mono ?_
  rintro e w3 ⟨AW0, cW0, rfl, hoW0, hb2⟩
  have hap_s_W0 := apart_new hos hoW0; have hap_W0_s := apart_symm hap_s_W0
  have hnb_kv_W0 := own_ne hoW0 (World.block_lt_of_cell? _ _ kv0)
  replace hoW0 := own_base hoW0 hb.size
  replace hb := btr hb hb2
  replace kv0 := cell_below' kv0 hb2
  replace kv1 := cell_below' kv1 hb2
  replace hos := own_below hos hb2
  clear hb2
  clear hos
  clear hnb_kv_s
  clear hap_W0_s hap_s_W0
  go_wp2_with fail
  refine (toPrec_any Ap cp p _ hkp (hxp0.below hb)).mono ?_
  rintro e w4 ⟨Ax, cx, rfl, hox, hb2⟩
  have hap_W0_x := apart_new hoW0 hox; have hap_x_W0 := apart_symm hap_W0_x
  have hnb_kv_x := own_ne hox (World.block_lt_of_cell? _ _ kv0)
  replace hox := own_base hox hb.size
  replace hb := btr hb hb2
  replace kv0 := cell_below' kv0 hb2
  replace kv1 := cell_below' kv1 hb2
  replace hoW0 := own_below hoW0 hb2
  clear hb2
  go_wp2_with fail
  have hb2 := bnew (Below.refl w4.heap.size w4) (.cells #[.int .i64 p.kinds, .slice Ax p.over.length cx] 27)
  have Bk : Blk (w4.alloc (.cells #[.int .i64 p.kinds, .slice Ax p.over.length cx] 27)) w4.heap.size 27 [.int .i64 p.kinds, .slice Ax p.over.length cx] := Blk.made #[.int .i64 p.kinds, .slice Ax p.over.length cx] rfl
  have hnb_kx_W0 : some w4.heap.size ≠ _ := fun e => by have := (hoW0.lt _ e.symm).2; omega
  have hnb_kx_x : some w4.heap.size ≠ _ := fun e => by have := (hox.lt _ e.symm).2; omega
  replace hb := btr hb hb2
  replace kv0 := cell_below' kv0 hb2
  replace kv1 := cell_below' kv1 hb2
  replace hoW0 := own_below hoW0 hb2
  replace hox := own_below hox hb2
  clear hb2
  have kx0 := Bk.cell (j := 0) rfl
  have kx1 := Bk.cell (j := 1) rfl
  clear Bk
  go_wp2_with fail
  generalize w4.alloc (.cells #[.int .i64 p.kinds, .slice Ax p.over.length cx] 27) = w5 at *
  go_wp2_with fail
  refine (Hi.out _ _ _ (own_le hox) (own_rd hox)).mono ?_
  rintro e w6 ⟨AG0, cG0, rfl, hoG0, hb2⟩
  have hap_W0_G0 := apart_new hoW0 hoG0; have hap_G0_W0 := apart_symm hap_W0_G0
  have hap_x_G0 := apart_new hox hoG0; have hap_G0_x := apart_symm hap_x_G0
  have hnb_kv_G0 := own_ne hoG0 (World.block_lt_of_cell? _ _ kv0)
  have hnb_kx_G0 := own_ne hoG0 (World.block_lt_of_cell? _ _ kx0)
  replace hoG0 := own_base hoG0 hb.size
  replace hb := btr hb hb2
  replace kv0 := cell_below' kv0 hb2
  replace kv1 := cell_below' kv1 hb2
  replace kx0 := cell_below' kx0 hb2
  replace kx1 := cell_below' kx1 hb2
  replace hoW0 := own_below hoW0 hb2
  replace hox := own_below hox hb2
  clear hb2
  go_wp2_with fail
  refine (eqIntS_same AG0 AW0 cG0 cW0 r.1 _ (by have := hB0; unfold maxLen; omega) (own_rd hoG0) (own_rd hoW0)).mono ?_
  rintro e w7 ⟨rfl, hb2⟩
  replace hb := btr hb hb2
  replace kv0 := cell_below' kv0 hb2
  replace kv1 := cell_below' kv1 hb2
  replace kx0 := cell_below' kx0 hb2
  replace kx1 := cell_below' kx1 hb2
  replace hoW0 := own_below hoW0 hb2
  replace hox := own_below hox hb2
  replace hoG0 := own_below hoG0 hb2
  clear hb2
  go_wp2_with fail
  have hb2 := (Below.refl w7.heap.size w7).drew
  replace hb := btr hb hb2
  replace kv0 := cell_below' kv0 hb2
  replace kv1 := cell_below' kv1 hb2
  replace kx0 := cell_below' kx0 hb2
  replace kx1 := cell_below' kx1 hb2
  replace hoW0 := own_below hoW0 hb2
  replace hox := own_below hox hb2
  replace hoG0 := own_below hoG0 hb2
  clear hb2
  go_region_held3 (fun w' => w'.cell? ⟨w.heap.size, 0, none⟩ = some (.int .i64 p.kinds) ∧ w'.cell? ⟨w.heap.size, 1, none⟩ = some (.slice Ap p.over.length cp) ∧ w'.cell? ⟨w4.heap.size, 0, none⟩ = some (.int .i64 p.kinds) ∧ w'.cell? ⟨w4.heap.size, 1, none⟩ = some (.slice Ax p.over.length cx)) ((first | exact ⟨kv0, kv1, kx0, kx1⟩ | assumption | go_keep)) ((first | (go_at_call 16; refine (toPrec_any Ap cp p _ hkp (hxp0.below hb)).mono ?_; rintro e w8 ⟨At, ct, rfl, hot, hb2⟩; have hap_W0_t := apart_new hoW0 hot; have hap_t_W0 := apart_symm hap_W0_t; have hap_x_t := apart_new hox hot; have hap_t_x := apart_symm hap_x_t; have hap_G0_t := apart_new hoG0 hot; have hap_t_G0 := apart_symm hap_G0_t; have hnb_kv_t := own_ne hot (World.block_lt_of_cell? _ _ kv0); have hnb_kx_t := own_ne hot (World.block_lt_of_cell? _ _ kx0); replace hot := own_base hot hb.size; replace hb := btr hb hb2; replace kv0 := cell_below' kv0 hb2; replace kv1 := cell_below' kv1 hb2; replace kx0 := cell_below' kx0 hb2; replace kx1 := cell_below' kx1 hb2; replace hoW0 := own_below hoW0 hb2; replace hox := own_below hox hb2; replace hoG0 := own_below hoG0 hb2; clear hb2) | (go_at_call 18; refine (eqPrec_same Ax At cx ct p _ hnp (own_rd hox) (own_rd hot)).mono ?_; rintro e w9 ⟨rfl, hb2⟩; replace hb := btr hb hb2; replace kv0 := cell_below' kv0 hb2; replace kv1 := cell_below' kv1 hb2; replace kx0 := cell_below' kx0 hb2; replace kx1 := cell_below' kx1 hb2; replace hoW0 := own_below hoW0 hb2; replace hox := own_below hox hb2; replace hoG0 := own_below hoG0 hb2; replace hot := own_below hot hb2; clear hb2)))
  all_goals skip
  clear hot
  clear hnb_kv_t
  clear hnb_kx_t
  clear hap_W0_t hap_t_W0
  clear hap_x_t hap_t_x
  clear hap_G0_t hap_t_G0
  go_wp2_with fail
  refine (markPrec_any Ax cx _ _ _ _ _ _ (by omega) (by omega) (by omega) hox).mono ?_
  rintro e w10 ⟨rfl, hox', hg⟩
  replace hb := mark_below hb hox hg
  replace kv0 := hg.cell kv0 hnb_kv_x
  replace kv1 := hg.cell kv1 hnb_kv_x
  replace kx0 := hg.cell kx0 hnb_kx_x
  replace kx1 := hg.cell kx1 hnb_kx_x
  replace hoW0 := own_mark hoW0 hg hap_W0_x
  replace hoG0 := own_mark hoG0 hg hap_G0_x
  clear hg hox
  have hox := hox'; clear hox'
  go_wp2_with fail
  refine (eqIntS_same AG0 AW0 cG0 cW0 r.1 _ (by have := hB0; unfold maxLen; omega) (own_rd hoG0) (own_rd hoW0)).mono ?_
  rintro e w11 ⟨rfl, hb2⟩
  replace hb := btr hb hb2
  replace kv0 := cell_below' kv0 hb2
  replace kv1 := cell_below' kv1 hb2
  replace kx0 := cell_below' kx0 hb2
  replace kx1 := cell_below' kx1 hb2
  replace hoW0 := own_below hoW0 hb2
  replace hox := own_below hox hb2
  replace hoG0 := own_below hoG0 hb2
  clear hb2
  clear hox
  clear hnb_kv_x
  clear hnb_kx_x
  clear hap_W0_x hap_x_W0
  clear hap_G0_x hap_x_G0
  go_wp2_with fail
  refine (markIntS_any AG0 cG0 _ _ _ _ _ (by omega) (by omega) (by omega) hoG0).mono ?_
  rintro e w12 ⟨rfl, hoG0', hg⟩
  replace hb := mark_below hb hoG0 hg
  replace kv0 := hg.cell kv0 hnb_kv_G0
  replace kv1 := hg.cell kv1 hnb_kv_G0
  replace kx0 := hg.cell kx0 hnb_kx_G0
  replace kx1 := hg.cell kx1 hnb_kx_G0
  replace hoW0 := own_mark hoW0 hg hap_W0_G0
  clear hg hoG0
  have hoG0 := hoG0'; clear hoG0'
  go_wp2_with fail
  refine (heldIntS_any AG0 cG0 _ _ _ (by omega) (by omega) (by omega) (own_rd hoG0)).mono ?_
  rintro e w13 ⟨rfl, hb2⟩
  replace hb := btr hb hb2
  replace kv0 := cell_below' kv0 hb2
  replace kv1 := cell_below' kv1 hb2
  replace kx0 := cell_below' kx0 hb2
  replace kx1 := cell_below' kx1 hb2
  replace hoW0 := own_below hoW0 hb2
  replace hoG0 := own_below hoG0 hb2
  clear hb2
  go_wp2_with fail
  refine (toPrec_any Ap cp p _ hkp (hxp0.below hb)).mono ?_
  rintro e w14 ⟨Au, cu, rfl, hou, hb2⟩
  have hap_W0_u := apart_new hoW0 hou; have hap_u_W0 := apart_symm hap_W0_u
  have hap_G0_u := apart_new hoG0 hou; have hap_u_G0 := apart_symm hap_G0_u
  have hnb_kv_u := own_ne hou (World.block_lt_of_cell? _ _ kv0)
  have hnb_kx_u := own_ne hou (World.block_lt_of_cell? _ _ kx0)
  replace hou := own_base hou hb.size
  replace hb := btr hb hb2
  replace kv0 := cell_below' kv0 hb2
  replace kv1 := cell_below' kv1 hb2
  replace kx0 := cell_below' kx0 hb2
  replace kx1 := cell_below' kx1 hb2
  replace hoW0 := own_below hoW0 hb2
  replace hoG0 := own_below hoG0 hb2
  clear hb2
  go_wp2_with fail
  refine (Hi.out _ _ _ (own_le hou) (own_rd hou)).mono ?_
  rintro e w15 ⟨AK0, cK0, rfl, hoK0, hb2⟩
  have hap_W0_K0 := apart_new hoW0 hoK0; have hap_K0_W0 := apart_symm hap_W0_K0
  have hap_G0_K0 := apart_new hoG0 hoK0; have hap_K0_G0 := apart_symm hap_G0_K0
  have hap_u_K0 := apart_new hou hoK0; have hap_K0_u := apart_symm hap_u_K0
  have hnb_kv_K0 := own_ne hoK0 (World.block_lt_of_cell? _ _ kv0)
  have hnb_kx_K0 := own_ne hoK0 (World.block_lt_of_cell? _ _ kx0)
  replace hoK0 := own_base hoK0 hb.size
  replace hb := btr hb hb2
  replace kv0 := cell_below' kv0 hb2
  replace kv1 := cell_below' kv1 hb2
  replace kx0 := cell_below' kx0 hb2
  replace kx1 := cell_below' kx1 hb2
  replace hoW0 := own_below hoW0 hb2
  replace hoG0 := own_below hoG0 hb2
  replace hou := own_below hou hb2
  clear hb2
  clear hou
  clear hnb_kv_u
  clear hnb_kx_u
  clear hap_W0_u hap_u_W0
  clear hap_G0_u hap_u_G0
  clear hap_K0_u hap_u_K0
  go_wp2_with fail
  refine (eqIntS_same AK0 AW0 cK0 cW0 r.1 _ (by have := hB0; unfold maxLen; omega) (own_rd hoK0) (own_rd hoW0)).mono ?_
  rintro e w16 ⟨rfl, hb2⟩
  replace hb := btr hb hb2
  replace kv0 := cell_below' kv0 hb2
  replace kv1 := cell_below' kv1 hb2
  replace kx0 := cell_below' kx0 hb2
  replace kx1 := cell_below' kx1 hb2
  replace hoW0 := own_below hoW0 hb2
  replace hoG0 := own_below hoG0 hb2
  replace hoK0 := own_below hoK0 hb2
  clear hb2
  go_wp2_with fail
  refine (heldIntS_any AG0 cG0 _ _ _ (by omega) (by omega) (by omega) (own_rd hoG0)).mono ?_
  rintro e w17 ⟨rfl, hb2⟩
  replace hb := btr hb hb2
  replace kv0 := cell_below' kv0 hb2
  replace kv1 := cell_below' kv1 hb2
  replace kx0 := cell_below' kx0 hb2
  replace kx1 := cell_below' kx1 hb2
  replace hoW0 := own_below hoW0 hb2
  replace hoG0 := own_below hoG0 hb2
  replace hoK0 := own_below hoK0 hb2
  clear hb2
  go_wp2_with fail
  go_ret
  exact ⟨rfl, btr hbw hb⟩

set_option maxRecDepth 100000 in
theorem law_ShortestCycle_lifted (os : Os) (started : os.Started) (H : Type) (enc : TypeId × Value → H) :
    ReturnsInHanded {} Try.checked os 8 .any (Rows.fnExactShortestCycleSpec.pre6 enc Try.prog Try.f8 Rows.fnExactShortestCycleRow.domain false) (Rows.fnExactShortestCycleSpec.post enc Try.prog Try.f8 false true false false) := by
  refine returnsInHanded_of_change (C := Try.checked) own started (by kernel_rfl) Try.func8
    (ChangeSpec.witness6 (enc := enc) (C := Try.checked) false ⟨#[], #[.agg #[.int .i64 0, .slice none 0 0]], []⟩ 8 (by kernel_rfl) (by kernel_rfl) (by kernel_rfl) (by kernel_rfl)) ?_
  intro W base args ds gs before hval0 hW _ _
  have hval : ∀ (j : Nat) t v, Try.f8.params[j]? = some t → args[j]? = some v → Value.okWide Try.prog W .any base t v := hval0
  have hW' := hW
  obtain ⟨p, q, hA, -⟩ := hW
  replace hA : DataW.TrodAll enc Try.prog W 0 (fun _ => true) true Try.f8.params.toList args.toList ds p := hA
  rw [Try.params8] at hA hval
  obtain ⟨v0, d0, rfl, rfl, h0⟩ := trodAll_one hA
  obtain ⟨Ap, capp, p, rfl, hlcp, hcmp, hxp⟩ := open_Prec (hval 0 24 v0 rfl rfl) h0
  exact My.law_step laidOut Try.underlying4 (by kernel_rfl) (by kernel_rfl) rfl (fun H ds hd => by match ds, hd with | [_], _ => rfl) hW' (law_ShortestCycle Ap capp p W (Nat.le_trans hlcp hcmp) hxp)
theorem law_ShortestCycle_holds : Rows.FnExactShortestCycleSaid :=
  OpenClaim.holds_of_wide 8 Try.f8 rfl rfl rfl rfl rfl rfl rfl ⟨rfl, rfl, rfl, rfl, rfl⟩ rfl rfl rfl rfl rfl (by kernel_rfl) Try.func8 (by kernel_rfl)
    (of_decide_eq_true (by kernel_rfl)) (by unfold Func.isWrapper; first | (rw [if_pos (by decide +kernel)]; kernel_rfl) | (rw [if_neg (by decide +kernel)]; exact ⟨rfl, rfl⟩))
    (fun os started H enc _ => law_ShortestCycle_lifted os started H enc)

end Go.Proofs.Ytdbcbaahjhaonaa
