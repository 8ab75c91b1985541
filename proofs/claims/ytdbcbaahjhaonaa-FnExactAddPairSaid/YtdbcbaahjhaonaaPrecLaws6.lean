/-
  FnExactAddPair returns true for every input and leaves its arguments as they were. Conditions: none.
-/
import Derived.Test.YtdbcbaahjhaonaaPrecLaws
import Derived.Test.YtdbcbaahjhaonaaAdd
namespace Go.Proofs.Ytdbcbaahjhaonaa
open Go.RowKit Go.My Go.ChangeShapes Go.WideShapes Go.ChangeAt

theorem addPr_i (A : Option Addr) (c : Nat) (p : Prec) (lo hi : Int) (w : World) (hn : p.over.length ≤ maxLen) (hlc : p.over.length ≤ c) (hx : Rd w A (prCells p.over)) :
    Calls Try.prog 41 #[.agg #[.int .i64 p.kinds, .slice A p.over.length c], .int .i64 lo, .int .i64 hi] w fun en w' => ∃ A' c', en = .returned (.tuple #[.agg #[.int .i64 (addP p ⟨lo, hi⟩).1.kinds, .slice A' (addP p ⟨lo, hi⟩).1.over.length c'], .bool (addP p ⟨lo, hi⟩).2]) ∧ w'.ownsRow w.heap.size 52 2 (.slice A' (addP p ⟨lo, hi⟩).1.over.length c') (addP p ⟨lo, hi⟩).1.over.length (prCells (addP p ⟨lo, hi⟩).1.over) ∧ Below w.heap.size w w' := addPr_any A c p ⟨lo, hi⟩ w hn hlc hx
theorem specAddPr_i (A : Option Addr) (c : Nat) (p : Prec) (lo hi : Int) (w : World) (hn : p.over.length ≤ maxLen) (hlc : p.over.length ≤ c) (hx : Rd w A (prCells p.over)) :
    Calls Try.prog 40 #[.agg #[.int .i64 p.kinds, .slice A p.over.length c], .int .i64 lo, .int .i64 hi] w fun en w' => ∃ A' c', en = .returned (.tuple #[.agg #[.int .i64 (addP p ⟨lo, hi⟩).1.kinds, .slice A' (addP p ⟨lo, hi⟩).1.over.length c'], .bool (addP p ⟨lo, hi⟩).2]) ∧ w'.ownsRow w.heap.size 52 2 (.slice A' (addP p ⟨lo, hi⟩).1.over.length c') (addP p ⟨lo, hi⟩).1.over.length (prCells (addP p ⟨lo, hi⟩).1.over) ∧ Below w.heap.size w w' := specAddPr_any A c p ⟨lo, hi⟩ w hn hlc hx
set_option maxHeartbeats 4000000 in
set_option maxRecDepth 100000 in
theorem law_AddPair (Ap : Option Addr) (cp : Nat) (p : Prec) (lo : Int) (hi : Int) (w : World) (hnp : p.over.length ≤ maxLen) (hxp : Rd w Ap (prCells p.over)) :
    Calls Try.prog 11 #[.agg #[.int .i64 p.kinds, .slice Ap p.over.length cp], .int .i64 lo, .int .i64 hi] w fun e w' => e = .returned (.bool true) ∧ Below w.heap.size w w' := by
  have hmp : p.over.length ≤ 9223372036854775807 := by have := hnp; unfold maxLen at this; omega
  have hbw := bnew (Below.refl w.heap.size w) (.cells #[.int .i64 p.kinds, .slice Ap p.over.length cp] 24)
  have B0 : Blk (w.alloc (.cells #[.int .i64 p.kinds, .slice Ap p.over.length cp] 24)) w.heap.size 24 [.int .i64 p.kinds, .slice Ap p.over.length cp] := Blk.made #[.int .i64 p.kinds, .slice Ap p.over.length cp] rfl
  have hxp0 := hxp.below hbw
  clear hxp
  by_cases hy0 : 0 ≤ szStep 1048576 p.over.length
  rotate_left
  · go_enter Try.func11, Try.ntmps11
    go_wp2_with fail
    generalize w.alloc (.cells #[.int .i64 p.kinds, .slice Ap p.over.length cp] 24) = W0 at *
    have hb := Below.refl W0.heap.size W0
    have kv0 := B0.cell (j := 0) rfl
    have kv1 := B0.cell (j := 1) rfl
    refine (szPrec_any Ap cp p 1048576 _ (by omega) (by omega) hnp (hxp0.below hb)).mono ?_
    rintro e w1 ⟨rfl, hb2⟩
    replace hb := btr hb hb2; clear hb2
    go_wp2_with fail
    go_ret
    exact ⟨rfl, btr hbw hb⟩
  obtain ⟨hl0, hq0⟩ := szStep_ok hy0
  have hkp : p.over.length ≤ 1048576 := by omega
  obtain ⟨r, hr⟩ : ∃ r, r = (addP p ⟨lo, hi⟩) := ⟨_, rfl⟩
  have Hs : Hid (∀ (w1 : World) (A1 : Option Addr) (c1 : Nat), p.over.length ≤ c1 → Rd w1 A1 (prCells p.over) → Calls Try.prog 40 #[.agg #[.int .i64 p.kinds, .slice A1 p.over.length c1], .int .i64 lo, .int .i64 hi] w1 fun e w' => ∃ A0 c0, e = .returned (.tuple #[.agg #[.int .i64 r.1.kinds, .slice A0 r.1.over.length c0], .bool r.2]) ∧ w'.ownsRow w1.heap.size 52 2 (.slice A0 r.1.over.length c0) r.1.over.length (prCells r.1.over) ∧ Below w1.heap.size w1 w') := by
    subst hr; exact fun w1 A1 c1 hc1 h1 => specAddPr_i A1 c1 p lo hi w1 hnp hc1 h1
  have Hi : Hid (∀ (w1 : World) (A1 : Option Addr) (c1 : Nat), p.over.length ≤ c1 → Rd w1 A1 (prCells p.over) → Calls Try.prog 41 #[.agg #[.int .i64 p.kinds, .slice A1 p.over.length c1], .int .i64 lo, .int .i64 hi] w1 fun e w' => ∃ A0 c0, e = .returned (.tuple #[.agg #[.int .i64 r.1.kinds, .slice A0 r.1.over.length c0], .bool r.2]) ∧ w'.ownsRow w1.heap.size 52 2 (.slice A0 r.1.over.length c0) r.1.over.length (prCells r.1.over) ∧ Below w1.heap.size w1 w') := by
    subst hr; exact fun w1 A1 c1 hc1 h1 => addPr_i A1 c1 p lo hi w1 hnp hc1 h1
  have hB0 : r.1.over.length ≤ 2097152 := by subst hr; (have := addP_len p ⟨lo, hi⟩; omega)
  clear hr hq0 hl0
  go_enter Try.func11, Try.ntmps11
  go_wp2_with fail
  generalize w.alloc (.cells #[.int .i64 p.kinds, .slice Ap p.over.length cp] 24) = W0 at *
  have hb := Below.refl W0.heap.size W0
  have kv0 := B0.cell (j := 0) rfl
  have kv1 := B0.cell (j := 1) rfl
  refine (szPrec_any Ap cp p 1048576 _ (by omega) (by omega) hnp (hxp0.below hb)).mono ?_
  rintro e w1 ⟨rfl, hb2⟩
  replace hb := btr hb hb2
  replace kv0 := cell_below' kv0 hb2
  replace kv1 := cell_below' kv1 hb2
  clear hb2
  go_wp2_with fail
  refine (toPrec_any Ap cp p _ hkp (hxp0.below hb)).mono ?_
  rintro e w2 ⟨As, cs, rfl, hos, hb2⟩
  have hnb_kv_s := own_ne hos (World.block_lt_of_cell? _ _ kv0)
  replace hos := own_base hos hb.size
  replace hb := btr hb hb2
  replace kv0 := cell_below' kv0 hb2
  replace kv1 := cell_below' kv1 hb2
  clear hb2
  go_wp2_with fail
  refine (Hs.out _ _ _ (own_le hos) (own_rd hos)).mono ?_
  rintro e w3 ⟨AW0, cW0, rfl, hoW0, hb2⟩
  have hap_s_W0 := apart_new hos hoW0; have hap_W0_s := apart_symm hap_s_W0
  have hnb_kv_W0 := own_ne hoW0 (World.block_lt_of_cell? _ _ kv0)
  replace hoW0 := own_base hoW0 hb.size
  replace hb := btr hb hb2
  replace kv0 := cell_below' kv0 hb2
  replace kv1 := cell_below' kv1 hb2
  replace hos := own_below hos hb2
  clear hb2
  have hb2 := bnew (Below.refl w3.heap.size w3) (.cells #[.int .i64 r.1.kinds, .slice AW0 r.1.over.length cW0] 27)
  have Bk : Blk (w3.alloc (.cells #[.int .i64 r.1.kinds, .slice AW0 r.1.over.length cW0] 27)) w3.heap.size 27 [.int .i64 r.1.kinds, .slice AW0 r.1.over.length cW0] := Blk.made #[.int .i64 r.1.kinds, .slice AW0 r.1.over.length cW0] rfl
  have hnb_kbW0__s : some w3.heap.size ≠ _ := fun e => by have := (hos.lt _ e.symm).2; omega
  have hnb_kbW0__W0 : some w3.heap.size ≠ _ := fun e => by have := (hoW0.lt _ e.symm).2; omega
  replace hb := btr hb hb2
  replace kv0 := cell_below' kv0 hb2
  replace kv1 := cell_below' kv1 hb2
  replace hos := own_below hos hb2
  replace hoW0 := own_below hoW0 hb2
  clear hb2
  have kbW0_0 := Bk.cell (j := 0) rfl
  have kbW0_1 := Bk.cell (j := 1) rfl
  clear Bk
  go_wp2_with fail
  generalize w3.alloc (.cells #[.int .i64 r.1.kinds, .slice AW0 r.1.over.length cW0] 27) = w4 at *
  clear hos
  clear hnb_kv_s
  clear hnb_kbW0__s
  clear hap_W0_s hap_s_W0
  go_wp2_with fail
  refine (toPrec_any Ap cp p _ hkp (hxp0.below hb)).mono ?_
  rintro e w5 ⟨Ax, cx, rfl, hox, hb2⟩
  have hap_W0_x := apart_new hoW0 hox; have hap_x_W0 := apart_symm hap_W0_x
  have hnb_kv_x := own_ne hox (World.block_lt_of_cell? _ _ kv0)
  have hnb_kbW0__x := own_ne hox (World.block_lt_of_cell? _ _ kbW0_0)
  replace hox := own_base hox hb.size
  replace hb := btr hb hb2
  replace kv0 := cell_below' kv0 hb2
  replace kv1 := cell_below' kv1 hb2
  replace kbW0_0 := cell_below' kbW0_0 hb2
  replace kbW0_1 := cell_below' kbW0_1 hb2
  replace hoW0 := own_below hoW0 hb2
  clear hb2
  go_wp2_with fail
  have hb2 := bnew (Below.refl w5.heap.size w5) (.cells #[.int .i64 p.kinds, .slice Ax p.over.length cx] 27)
  have Bk : Blk (w5.alloc (.cells #[.int .i64 p.kinds, .slice Ax p.over.length cx] 27)) w5.heap.size 27 [.int .i64 p.kinds, .slice Ax p.over.length cx] := Blk.made #[.int .i64 p.kinds, .slice Ax p.over.length cx] rfl
  have hnb_kx_W0 : some w5.heap.size ≠ _ := fun e => by have := (hoW0.lt _ e.symm).2; omega
  have hnb_kx_x : some w5.heap.size ≠ _ := fun e => by have := (hox.lt _ e.symm).2; omega
  replace hb := btr hb hb2
  replace kv0 := cell_below' kv0 hb2
  replace kv1 := cell_below' kv1 hb2
  replace kbW0_0 := cell_below' kbW0_0 hb2
  replace kbW0_1 := cell_below' kbW0_1 hb2
  replace hoW0 := own_below hoW0 hb2
  replace hox := own_below hox hb2
  clear hb2
  have kx0 := Bk.cell (j := 0) rfl
  have kx1 := Bk.cell (j := 1) rfl
  clear Bk
  go_wp2_with fail
  generalize w5.alloc (.cells #[.int .i64 p.kinds, .slice Ax p.over.length cx] 27) = w6 at *
  go_wp2_with fail
  refine (Hi.out _ _ _ (own_le hox) (own_rd hox)).mono ?_
  rintro e w7 ⟨AG0, cG0, rfl, hoG0, hb2⟩
  have hap_W0_G0 := apart_new hoW0 hoG0; have hap_G0_W0 := apart_symm hap_W0_G0
  have hap_x_G0 := apart_new hox hoG0; have hap_G0_x := apart_symm hap_x_G0
  have hnb_kv_G0 := own_ne hoG0 (World.block_lt_of_cell? _ _ kv0)
  have hnb_kbW0__G0 := own_ne hoG0 (World.block_lt_of_cell? _ _ kbW0_0)
  have hnb_kx_G0 := own_ne hoG0 (World.block_lt_of_cell? _ _ kx0)
  replace hoG0 := own_base hoG0 hb.size
  replace hb := btr hb hb2
  replace kv0 := cell_below' kv0 hb2
  replace kv1 := cell_below' kv1 hb2
  replace kbW0_0 := cell_below' kbW0_0 hb2
  replace kbW0_1 := cell_below' kbW0_1 hb2
  replace kx0 := cell_below' kx0 hb2
  replace kx1 := cell_below' kx1 hb2
  replace hoW0 := own_below hoW0 hb2
  replace hox := own_below hox hb2
  clear hb2
  have hb2 := bnew (Below.refl w7.heap.size w7) (.cells #[.int .i64 r.1.kinds, .slice AG0 r.1.over.length cG0] 27)
  have Bk : Blk (w7.alloc (.cells #[.int .i64 r.1.kinds, .slice AG0 r.1.over.length cG0] 27)) w7.heap.size 27 [.int .i64 r.1.kinds, .slice AG0 r.1.over.length cG0] := Blk.made #[.int .i64 r.1.kinds, .slice AG0 r.1.over.length cG0] rfl
  have hnb_kbG0__W0 : some w7.heap.size ≠ _ := fun e => by have := (hoW0.lt _ e.symm).2; omega
  have hnb_kbG0__x : some w7.heap.size ≠ _ := fun e => by have := (hox.lt _ e.symm).2; omega
  have hnb_kbG0__G0 : some w7.heap.size ≠ _ := fun e => by have := (hoG0.lt _ e.symm).2; omega
  replace hb := btr hb hb2
  replace kv0 := cell_below' kv0 hb2
  replace kv1 := cell_below' kv1 hb2
  replace kbW0_0 := cell_below' kbW0_0 hb2
  replace kbW0_1 := cell_below' kbW0_1 hb2
  replace kx0 := cell_below' kx0 hb2
  replace kx1 := cell_below' kx1 hb2
  replace hoW0 := own_below hoW0 hb2
  replace hox := own_below hox hb2
  replace hoG0 := own_below hoG0 hb2
  clear hb2
  have kbG0_0 := Bk.cell (j := 0) rfl
  have kbG0_1 := Bk.cell (j := 1) rfl
  clear Bk
  go_wp2_with fail
  generalize w7.alloc (.cells #[.int .i64 r.1.kinds, .slice AG0 r.1.over.length cG0] 27) = w8 at *
  go_wp2_with fail
  refine (eqPrec_same AG0 AW0 cG0 cW0 r.1 _ (by have := hB0; unfold maxLen; omega) (own_rd hoG0) (own_rd hoW0)).mono ?_
  rintro e w9 ⟨rfl, hb2⟩
  replace hb := btr hb hb2
  replace kv0 := cell_below' kv0 hb2
  replace kv1 := cell_below' kv1 hb2
  replace kbW0_0 := cell_below' kbW0_0 hb2
  replace kbW0_1 := cell_below' kbW0_1 hb2
  replace kx0 := cell_below' kx0 hb2
  replace kx1 := cell_below' kx1 hb2
  replace kbG0_0 := cell_below' kbG0_0 hb2
  replace kbG0_1 := cell_below' kbG0_1 hb2
  replace hoW0 := own_below hoW0 hb2
  replace hox := own_below hox hb2
  replace hoG0 := own_below hoG0 hb2
  clear hb2
  go_wp2_with fail
  have hb2 := (Below.refl w9.heap.size w9).drew
  replace hb := btr hb hb2
  replace kv0 := cell_below' kv0 hb2
  replace kv1 := cell_below' kv1 hb2
  replace kbW0_0 := cell_below' kbW0_0 hb2
  replace kbW0_1 := cell_below' kbW0_1 hb2
  replace kx0 := cell_below' kx0 hb2
  replace kx1 := cell_below' kx1 hb2
  replace kbG0_0 := cell_below' kbG0_0 hb2
  replace kbG0_1 := cell_below' kbG0_1 hb2
  replace hoW0 := own_below hoW0 hb2
  replace hox := own_below hox hb2
  replace hoG0 := own_below hoG0 hb2
  clear hb2
  go_region_held3 (fun w' => w'.cell? ⟨w.heap.size, 0, none⟩ = some (.int .i64 p.kinds) ∧ w'.cell? ⟨w.heap.size, 1, none⟩ = some (.slice Ap p.over.length cp) ∧ w'.cell? ⟨w5.heap.size, 0, none⟩ = some (.int .i64 p.kinds) ∧ w'.cell? ⟨w5.heap.size, 1, none⟩ = some (.slice Ax p.over.length cx)) ((first | exact ⟨kv0, kv1, kx0, kx1⟩ | assumption | go_keep)) ((first | (go_at_call 16; refine (toPrec_any Ap cp p _ hkp (hxp0.below hb)).mono ?_; rintro e w10 ⟨At, ct, rfl, hot, hb2⟩; have hap_W0_t := apart_new hoW0 hot; have hap_t_W0 := apart_symm hap_W0_t; have hap_x_t := apart_new hox hot; have hap_t_x := apart_symm hap_x_t; have hap_G0_t := apart_new hoG0 hot; have hap_t_G0 := apart_symm hap_G0_t; have hnb_kv_t := own_ne hot (World.block_lt_of_cell? _ _ kv0); have hnb_kbW0__t := own_ne hot (World.block_lt_of_cell? _ _ kbW0_0); have hnb_kx_t := own_ne hot (World.block_lt_of_cell? _ _ kx0); have hnb_kbG0__t := own_ne hot (World.block_lt_of_cell? _ _ kbG0_0); replace hot := own_base hot hb.size; replace hb := btr hb hb2; replace kv0 := cell_below' kv0 hb2; replace kv1 := cell_below' kv1 hb2; replace kbW0_0 := cell_below' kbW0_0 hb2; replace kbW0_1 := cell_below' kbW0_1 hb2; replace kx0 := cell_below' kx0 hb2; replace kx1 := cell_below' kx1 hb2; replace kbG0_0 := cell_below' kbG0_0 hb2; replace kbG0_1 := cell_below' kbG0_1 hb2; replace hoW0 := own_below hoW0 hb2; replace hox := own_below hox hb2; replace hoG0 := own_below hoG0 hb2; clear hb2) | (go_at_call 18; refine (eqPrec_same Ax At cx ct p _ hnp (own_rd hox) (own_rd hot)).mono ?_; rintro e w11 ⟨rfl, hb2⟩; replace hb := btr hb hb2; replace kv0 := cell_below' kv0 hb2; replace kv1 := cell_below' kv1 hb2; replace kbW0_0 := cell_below' kbW0_0 hb2; replace kbW0_1 := cell_below' kbW0_1 hb2; replace kx0 := cell_below' kx0 hb2; replace kx1 := cell_below' kx1 hb2; replace kbG0_0 := cell_below' kbG0_0 hb2; replace kbG0_1 := cell_below' kbG0_1 hb2; replace hoW0 := own_below hoW0 hb2; replace hox := own_below hox hb2; replace hoG0 := own_below hoG0 hb2; replace hot := own_below hot hb2; clear hb2)))
  all_goals skip
  clear hot
  clear hnb_kv_t
  clear hnb_kbW0__t
  clear hnb_kx_t
  clear hnb_kbG0__t
  clear hap_W0_t hap_t_W0
  clear hap_x_t hap_t_x
  clear hap_G0_t hap_t_G0
  go_wp2_with fail
  refine (markPrec_any Ax cx _ _ _ _ _ _ (by omega) (by omega) (by omega) hox).mono ?_
  rintro e w12 ⟨rfl, hox', hg⟩
  replace hb := mark_below hb hox hg
  replace kv0 := hg.cell kv0 hnb_kv_x
  replace kv1 := hg.cell kv1 hnb_kv_x
  replace kbW0_0 := hg.cell kbW0_0 hnb_kbW0__x
  replace kbW0_1 := hg.cell kbW0_1 hnb_kbW0__x
  replace kx0 := hg.cell kx0 hnb_kx_x
  replace kx1 := hg.cell kx1 hnb_kx_x
  replace kbG0_0 := hg.cell kbG0_0 hnb_kbG0__x
  replace kbG0_1 := hg.cell kbG0_1 hnb_kbG0__x
  replace hoW0 := own_mark hoW0 hg hap_W0_x
  replace hoG0 := own_mark hoG0 hg hap_G0_x
  clear hg hox
  have hox := hox'; clear hox'
  go_wp2_with fail
  refine (eqPrec_same AG0 AW0 cG0 cW0 r.1 _ (by have := hB0; unfold maxLen; omega) (own_rd hoG0) (own_rd hoW0)).mono ?_
  rintro e w13 ⟨rfl, hb2⟩
  replace hb := btr hb hb2
  replace kv0 := cell_below' kv0 hb2
  replace kv1 := cell_below' kv1 hb2
  replace kbW0_0 := cell_below' kbW0_0 hb2
  replace kbW0_1 := cell_below' kbW0_1 hb2
  replace kx0 := cell_below' kx0 hb2
  replace kx1 := cell_below' kx1 hb2
  replace kbG0_0 := cell_below' kbG0_0 hb2
  replace kbG0_1 := cell_below' kbG0_1 hb2
  replace hoW0 := own_below hoW0 hb2
  replace hox := own_below hox hb2
  replace hoG0 := own_below hoG0 hb2
  clear hb2
  clear hox
  clear hnb_kv_x
  clear hnb_kbW0__x
  clear hnb_kx_x
  clear hnb_kbG0__x
  clear hap_W0_x hap_x_W0
  clear hap_G0_x hap_x_G0
  go_wp2_with fail
  refine (markPrec_any AG0 cG0 _ _ _ _ _ _ (by omega) (by omega) (by omega) hoG0).mono ?_
  rintro e w14 ⟨rfl, hoG0', hg⟩
  replace hb := mark_below hb hoG0 hg
  replace kv0 := hg.cell kv0 hnb_kv_G0
  replace kv1 := hg.cell kv1 hnb_kv_G0
  replace kbW0_0 := hg.cell kbW0_0 hnb_kbW0__G0
  replace kbW0_1 := hg.cell kbW0_1 hnb_kbW0__G0
  replace kx0 := hg.cell kx0 hnb_kx_G0
  replace kx1 := hg.cell kx1 hnb_kx_G0
  replace kbG0_0 := hg.cell kbG0_0 hnb_kbG0__G0
  replace kbG0_1 := hg.cell kbG0_1 hnb_kbG0__G0
  replace hoW0 := own_mark hoW0 hg hap_W0_G0
  clear hg hoG0
  have hoG0 := hoG0'; clear hoG0'
  go_wp2_with fail
  refine (heldPrec_any AG0 cG0 _ _ _ _ (by omega) (by omega) (by omega) (own_rd hoG0)).mono ?_
  rintro e w15 ⟨rfl, hb2⟩
  replace hb := btr hb hb2
  replace kv0 := cell_below' kv0 hb2
  replace kv1 := cell_below' kv1 hb2
  replace kbW0_0 := cell_below' kbW0_0 hb2
  replace kbW0_1 := cell_below' kbW0_1 hb2
  replace kx0 := cell_below' kx0 hb2
  replace kx1 := cell_below' kx1 hb2
  replace kbG0_0 := cell_below' kbG0_0 hb2
  replace kbG0_1 := cell_below' kbG0_1 hb2
  replace hoW0 := own_below hoW0 hb2
  replace hoG0 := own_below hoG0 hb2
  clear hb2
  go_wp2_with fail
  refine (toPrec_any Ap cp p _ hkp (hxp0.below hb)).mono ?_
  rintro e w16 ⟨Au, cu, rfl, hou, hb2⟩
  have hap_W0_u := apart_new hoW0 hou; have hap_u_W0 := apart_symm hap_W0_u
  have hap_G0_u := apart_new hoG0 hou; have hap_u_G0 := apart_symm hap_G0_u
  have hnb_kv_u := own_ne hou (World.block_lt_of_cell? _ _ kv0)
  have hnb_kbW0__u := own_ne hou (World.block_lt_of_cell? _ _ kbW0_0)
  have hnb_kx_u := own_ne hou (World.block_lt_of_cell? _ _ kx0)
  have hnb_kbG0__u := own_ne hou (World.block_lt_of_cell? _ _ kbG0_0)
  replace hou := own_base hou hb.size
  replace hb := btr hb hb2
  replace kv0 := cell_below' kv0 hb2
  replace kv1 := cell_below' kv1 hb2
  replace kbW0_0 := cell_below' kbW0_0 hb2
  replace kbW0_1 := cell_below' kbW0_1 hb2
  replace kx0 := cell_below' kx0 hb2
  replace kx1 := cell_below' kx1 hb2
  replace kbG0_0 := cell_below' kbG0_0 hb2
  replace kbG0_1 := cell_below' kbG0_1 hb2
  replace hoW0 := own_below hoW0 hb2
  replace hoG0 := own_below hoG0 hb2
  clear hb2
  go_wp2_with fail
  refine (Hi.out _ _ _ (own_le hou) (own_rd hou)).mono ?_
  rintro e w17 ⟨AK0, cK0, rfl, hoK0, hb2⟩
  have hap_W0_K0 := apart_new hoW0 hoK0; have hap_K0_W0 := apart_symm hap_W0_K0
  have hap_G0_K0 := apart_new hoG0 hoK0; have hap_K0_G0 := apart_symm hap_G0_K0
  have hap_u_K0 := apart_new hou hoK0; have hap_K0_u := apart_symm hap_u_K0
  have hnb_kv_K0 := own_ne hoK0 (World.block_lt_of_cell? _ _ kv0)
  have hnb_kbW0__K0 := own_ne hoK0 (World.block_lt_of_cell? _ _ kbW0_0)
  have hnb_kx_K0 := own_ne hoK0 (World.block_lt_of_cell? _ _ kx0)
  have hnb_kbG0__K0 := own_ne hoK0 (World.block_lt_of_cell? _ _ kbG0_0)
  replace hoK0 := own_base hoK0 hb.size
  replace hb := btr hb hb2
  replace kv0 := cell_below' kv0 hb2
  replace kv1 := cell_below' kv1 hb2
  replace kbW0_0 := cell_below' kbW0_0 hb2
  replace kbW0_1 := cell_below' kbW0_1 hb2
  replace kx0 := cell_below' kx0 hb2
  replace kx1 := cell_below' kx1 hb2
  replace kbG0_0 := cell_below' kbG0_0 hb2
  replace kbG0_1 := cell_below' kbG0_1 hb2
  replace hoW0 := own_below hoW0 hb2
  replace hoG0 := own_below hoG0 hb2
  replace hou := own_below hou hb2
  clear hb2
  have hb2 := bnew (Below.refl w17.heap.size w17) (.cells #[.int .i64 r.1.kinds, .slice AK0 r.1.over.length cK0] 27)
  have Bk : Blk (w17.alloc (.cells #[.int .i64 r.1.kinds, .slice AK0 r.1.over.length cK0] 27)) w17.heap.size 27 [.int .i64 r.1.kinds, .slice AK0 r.1.over.length cK0] := Blk.made #[.int .i64 r.1.kinds, .slice AK0 r.1.over.length cK0] rfl
  have hnb_kbK0__W0 : some w17.heap.size ≠ _ := fun e => by have := (hoW0.lt _ e.symm).2; omega
  have hnb_kbK0__G0 : some w17.heap.size ≠ _ := fun e => by have := (hoG0.lt _ e.symm).2; omega
  have hnb_kbK0__u : some w17.heap.size ≠ _ := fun e => by have := (hou.lt _ e.symm).2; omega
  have hnb_kbK0__K0 : some w17.heap.size ≠ _ := fun e => by have := (hoK0.lt _ e.symm).2; omega
  replace hb := btr hb hb2
  replace kv0 := cell_below' kv0 hb2
  replace kv1 := cell_below' kv1 hb2
  replace kbW0_0 := cell_below' kbW0_0 hb2
  replace kbW0_1 := cell_below' kbW0_1 hb2
  replace kx0 := cell_below' kx0 hb2
  replace kx1 := cell_below' kx1 hb2
  replace kbG0_0 := cell_below' kbG0_0 hb2
  replace kbG0_1 := cell_below' kbG0_1 hb2
  replace hoW0 := own_below hoW0 hb2
  replace hoG0 := own_below hoG0 hb2
  replace hou := own_below hou hb2
  replace hoK0 := own_below hoK0 hb2
  clear hb2
  have kbK0_0 := Bk.cell (j := 0) rfl
  have kbK0_1 := Bk.cell (j := 1) rfl
  clear Bk
  go_wp2_with fail
  generalize w17.alloc (.cells #[.int .i64 r.1.kinds, .slice AK0 r.1.over.length cK0] 27) = w18 at *
  clear hou
  clear hnb_kv_u
  clear hnb_kbW0__u
  clear hnb_kx_u
  clear hnb_kbG0__u
  clear hnb_kbK0__u
  clear hap_W0_u hap_u_W0
  clear hap_G0_u hap_u_G0
  clear hap_K0_u hap_u_K0
  go_wp2_with fail
  refine (eqPrec_same AK0 AW0 cK0 cW0 r.1 _ (by have := hB0; unfold maxLen; omega) (own_rd hoK0) (own_rd hoW0)).mono ?_
  rintro e w19 ⟨rfl, hb2⟩
  replace hb := btr hb hb2
  replace kv0 := cell_below' kv0 hb2
  replace kv1 := cell_below' kv1 hb2
  replace kbW0_0 := cell_below' kbW0_0 hb2
  replace kbW0_1 := cell_below' kbW0_1 hb2
  replace kx0 := cell_below' kx0 hb2
  replace kx1 := cell_below' kx1 hb2
  replace kbG0_0 := cell_below' kbG0_0 hb2
  replace kbG0_1 := cell_below' kbG0_1 hb2
  replace kbK0_0 := cell_below' kbK0_0 hb2
  replace kbK0_1 := cell_below' kbK0_1 hb2
  replace hoW0 := own_below hoW0 hb2
  replace hoG0 := own_below hoG0 hb2
  replace hoK0 := own_below hoK0 hb2
  clear hb2
  go_wp2_with fail
  refine (heldPrec_any AG0 cG0 _ _ _ _ (by omega) (by omega) (by omega) (own_rd hoG0)).mono ?_
  rintro e w20 ⟨rfl, hb2⟩
  replace hb := btr hb hb2
  replace kv0 := cell_below' kv0 hb2
  replace kv1 := cell_below' kv1 hb2
  replace kbW0_0 := cell_below' kbW0_0 hb2
  replace kbW0_1 := cell_below' kbW0_1 hb2
  replace kx0 := cell_below' kx0 hb2
  replace kx1 := cell_below' kx1 hb2
  replace kbG0_0 := cell_below' kbG0_0 hb2
  replace kbG0_1 := cell_below' kbG0_1 hb2
  replace kbK0_0 := cell_below' kbK0_0 hb2
  replace kbK0_1 := cell_below' kbK0_1 hb2
  replace hoW0 := own_below hoW0 hb2
  replace hoG0 := own_below hoG0 hb2
  replace hoK0 := own_below hoK0 hb2
  clear hb2
  go_wp2_with fail
  go_ret
  exact ⟨rfl, btr hbw hb⟩

set_option maxRecDepth 100000 in
theorem law_AddPair_lifted (os : Os) (started : os.Started) (H : Type) (enc : TypeId × Value → H) :
    ReturnsInHanded {} Try.checked os 11 .any (Rows.fnExactAddPairSpec.pre6 enc Try.prog Try.f11 Rows.fnExactAddPairRow.domain false) (Rows.fnExactAddPairSpec.post enc Try.prog Try.f11 false true false false) := by
  refine returnsInHanded_of_change (C := Try.checked) own started (by kernel_rfl) Try.func11
    (ChangeSpec.witness6 (enc := enc) (C := Try.checked) false ⟨#[], #[.agg #[.int .i64 0, .slice none 0 0], .int .i64 0, .int .i64 0], []⟩ 8 (by kernel_rfl) (by kernel_rfl) (by kernel_rfl) (by kernel_rfl)) ?_
  intro W base args ds gs before hval0 hW _ _
  have hval : ∀ (j : Nat) t v, Try.f11.params[j]? = some t → args[j]? = some v → Value.okWide Try.prog W .any base t v := hval0
  have hW' := hW
  obtain ⟨p, q, hA, -⟩ := hW
  replace hA : DataW.TrodAll enc Try.prog W 0 (fun _ => true) true Try.f11.params.toList args.toList ds p := hA
  rw [Try.params11] at hA hval
  obtain ⟨v0, v1, v2, d0, d1, d2, p0, p1, p2, rfl, rfl, rfl, h0, h1, h2⟩ := trodAll_three hA
  obtain ⟨Ap, capp, p, rfl, hlcp, hcmp, hxp⟩ := open_Prec (hval 0 24 v0 rfl rfl) h0
  obtain ⟨lo, rfl, rfl, rfl, wflo⟩ := open_int Try.underlying3 (hval 1 3 v1 rfl rfl) h1
  obtain ⟨hi, rfl, rfl, rfl, wfhi⟩ := open_int Try.underlying3 (hval 2 3 v2 rfl rfl) h2
  exact My.law_step laidOut Try.underlying4 (by kernel_rfl) (by kernel_rfl) rfl (fun H ds hd => by match ds, hd with | [_, _, _], _ => rfl) hW' (law_AddPair Ap capp p lo hi W (Nat.le_trans hlcp hcmp) hxp)
theorem law_AddPair_holds : Rows.FnExactAddPairSaid :=
  OpenClaim.holds_of_wide 11 Try.f11 rfl rfl rfl rfl rfl rfl rfl ⟨rfl, rfl, rfl, rfl, rfl⟩ rfl rfl rfl rfl rfl (by kernel_rfl) Try.func11 (by kernel_rfl)
    (of_decide_eq_true (by kernel_rfl)) (by unfold Func.isWrapper; first | (rw [if_pos (by decide +kernel)]; kernel_rfl) | (rw [if_neg (by decide +kernel)]; exact ⟨rfl, rfl⟩))
    (fun os started H enc _ => law_AddPair_lifted os started H enc)

end Go.Proofs.Ytdbcbaahjhaonaa
