/-
  FnExactIsValidPrecedence returns true for every input and leaves its arguments as they were. Conditions: none.
-/
import Derived.Test.YtdbcbaahjhaonaaPrec
import Derived.Test.YtdbcbaahjhaonaaLaw
import Derived.Test.YtdbcbaahjhaonaaApp
namespace Go.My
open Go.RowKit
theorem own_le {w : World} {B : Nat} {e : TypeId} {size n c : Nat} {A : Option Addr} {cells : List Value} (h : w.ownsRow B e size (.slice A n c) n cells) : n ≤ c := by
  obtain ⟨A0, c0, e0, hnc⟩ := own_form h
  simp only [Value.slice.injEq, true_and] at e0
  obtain ⟨rfl, rfl⟩ := e0
  exact hnc
end Go.My
namespace Go.Proofs.Ytdbcbaahjhaonaa
open Go.RowKit Go.My Go.ChangeShapes Go.WideShapes Go.ChangeAt
theorem own : ownKnob Try.prog.godebug = none := by kernel_rfl
theorem laidOut : laidOutB Try.prog = true := by kernel_rfl
set_option maxRecDepth 100000 in
theorem open_Pr1 {H : Type} {enc : TypeId × Value → H} {w : World} {n : Nat} {cs : List Value} {x : DataW H × List MemPlace} (hx : DataW.trod enc Try.prog w 0 (fun _ => true) true n 52 cs = some x) : ∃ s : Pr, cs = s.cells ∧ True := by
  obtain ⟨hl, hf⟩ := trod_elems Try.underlying52 hx
  have cint : Try.prog.cellsOf 3 = 1 := by kernel_rfl
  rw [show Try.prog.cellsOf 52 = 2 by kernel_rfl] at hl
  obtain ⟨_, _, h0⟩ := hf 0 (by decide)
  obtain ⟨_, _, h1⟩ := hf 1 (by decide)
  match cs, hl with
  | [a0, a1], _ =>
    simp only [cint] at h0 h1
    obtain ⟨n0, e0, _, w0⟩ := DataW.trod_int Try.underlying3 h0
    obtain ⟨n1, e1, _, w1⟩ := DataW.trod_int Try.underlying3 h1
    simp at e0 e1
    subst e0 e1
    exact ⟨⟨n0, n1⟩, rfl, trivial⟩
set_option maxRecDepth 100000 in
theorem open_Prec {H : Type} {enc : TypeId × Value → H} {w : World} {base : Nat} {v : Value} {d : DataW H} {ps : List MemPlace} (hv : Value.okWide Try.prog w .any base 24 v) (h : DataW.Trod enc Try.prog w 0 (fun _ => true) true 24 v d ps) :
    ∃ A c, ∃ p : Prec, v = .agg #[.int .i64 p.kinds, .slice A p.over.length c] ∧ p.over.length ≤ c ∧ c ≤ maxLen ∧ Rd w A (prCells p.over) := by
  obtain ⟨cs, rfl, hok⟩ := okWide_struct Try.underlying24 hv
  obtain ⟨fuel, hfu⟩ := h
  cases fuel with
  | zero => simp [DataW.trod] at hfu
  | succ fuel =>
    obtain ⟨hl, hf⟩ := trod_fields Try.underlying24 hfu
    have cint : Try.prog.cellsOf 3 = 1 := by kernel_rfl
    have csl : Try.prog.cellsOf 22 = 1 := by kernel_rfl
    rw [show Try.prog.cellsOf 24 = 2 by kernel_rfl] at hl
    have hl2 : cs.toList.length = 2 := by simpa [Value.cells] using hl
    have hcs : (Value.agg cs).cells.toList = cs.toList := rfl
    rw [hcs] at hf
    clear hfu hl hcs
    obtain ⟨l⟩ := cs
    simp only at hf hl2
    match l, hl2 with
    | [a0, a1], _ =>
      simp only [List.mem_cons, List.not_mem_nil, or_false, forall_eq_or_imp, forall_eq, cint, csl] at hf
      obtain ⟨⟨m0, y0, h0⟩, ⟨m1, y1, h1⟩⟩ := hf
      obtain ⟨n0, e0, _, w0⟩ := DataW.trod_int Try.underlying3 h0
      simp at e0
      subst e0
      rcases Deep.open_slice Try.underlying22 h1 with ⟨hcs, _⟩ | ⟨a, l, c, k, n, D, Pl, hcs, _, hl, hmx, hk, _, hx⟩
      · simp at hcs
        subst hcs
        exact ⟨none, 0, ⟨n0, []⟩, rfl, Nat.le_refl _, Nat.zero_le _, .inl rfl⟩
      · simp at hcs
        subst hcs
        obtain ⟨xs, rfl, h2, h3, h4, -⟩ := open_list (A := some a) (len := l) (cap := c) (t := 22) Pr.cells (fun _ => True) 2 (fun _ => rfl) (by decide) Try.underlying22 (by kernel_rfl) (fun n cs x hx => open_Pr1 hx) ⟨m1, by simpa [Value.cells] using h1⟩
        exact ⟨some a, c, ⟨n0, xs⟩, rfl, h2, h3, h4⟩

set_option maxHeartbeats 4000000 in
set_option maxRecDepth 100000 in
theorem law_IsValidPrecedence (Ap : Option Addr) (cp : Nat) (p : Prec) (w : World) (hnp : p.over.length ≤ maxLen) (hxp : Rd w Ap (prCells p.over)) :
    Calls Try.prog 3 #[.agg #[.int .i64 p.kinds, .slice Ap p.over.length cp]] w fun e w' => e = .returned (.bool true) ∧ Below w.heap.size w w' := by
  have hmp : p.over.length ≤ 9223372036854775807 := by have := hnp; unfold maxLen at this; omega
  have hbw := bnew (Below.refl w.heap.size w) (.cells #[.int .i64 p.kinds, .slice Ap p.over.length cp] 24)
  have B0 : Blk (w.alloc (.cells #[.int .i64 p.kinds, .slice Ap p.over.length cp] 24)) w.heap.size 24 [.int .i64 p.kinds, .slice Ap p.over.length cp] := Blk.made #[.int .i64 p.kinds, .slice Ap p.over.length cp] rfl
  have hxp0 := hxp.below hbw
  clear hxp
  by_cases hy0 : 0 ≤ szStep 1048576 p.over.length
  rotate_left
  · go_enter Try.func3, Try.ntmps3
    go_wp2_with fail
    generalize w.alloc (.cells #[.int .i64 p.kinds, .slice Ap p.over.length cp] 24) = W0 at *
    have hb := Below.refl W0.heap.size W0
    have kv0 := B0.cell (j := 0) rfl
    have kv1 := B0.cell (j := 1) rfl
    refine (szPrec_any Ap cp p 1048576 _ (by omega) (by omega) hnp (hxp0.below hb)).mono ?_
    rintro e w1 ⟨rfl, hb2⟩
    replace hb := btr hb hb2; clear hb2
    go_wp2_with fail
    go_ret
    exact ⟨rfl, btr hbw hb⟩
  obtain ⟨hl0, hq0⟩ := szStep_ok hy0
  have hkp : p.over.length ≤ 1048576 := by omega
  obtain ⟨r, hr⟩ : ∃ r, r = (goodPc p) := ⟨_, rfl⟩
  have Hs : Hid (∀ (w1 : World) (A1 : Option Addr) (c1 : Nat), p.over.length ≤ c1 → Rd w1 A1 (prCells p.over) → Calls Try.prog 15 #[.agg #[.int .i64 p.kinds, .slice A1 p.over.length c1]] w1 fun e w' => e = .returned (.bool r) ∧ Below w1.heap.size w1 w') := by
    subst hr; exact fun w1 A1 c1 hc1 h1 => (fun A c p w hn (_ : p.over.length ≤ c) hx => specIsPrec_any A c p w hn hx) A1 c1 p  w1 hnp hc1 h1
  have Hi : Hid (∀ (w1 : World) (A1 : Option Addr) (c1 : Nat), p.over.length ≤ c1 → Rd w1 A1 (prCells p.over) → Calls Try.prog 17 #[.agg #[.int .i64 p.kinds, .slice A1 p.over.length c1]] w1 fun e w' => e = .returned (.bool r) ∧ Below w1.heap.size w1 w') := by
    subst hr; exact fun w1 A1 c1 hc1 h1 => (fun A c p w hn (_ : p.over.length ≤ c) hx => isPrec_any A c p w hn hx) A1 c1 p  w1 hnp hc1 h1
  clear hr hq0 hl0
  go_enter Try.func3, Try.ntmps3
  go_wp2_with fail
  generalize w.alloc (.cells #[.int .i64 p.kinds, .slice Ap p.over.length cp] 24) = W0 at *
  have hb := Below.refl W0.heap.size W0
  have kv0 := B0.cell (j := 0) rfl
  have kv1 := B0.cell (j := 1) rfl
  refine (szPrec_any Ap cp p 1048576 _ (by omega) (by omega) hnp (hxp0.below hb)).mono ?_
  rintro e w1 ⟨rfl, hb2⟩
  replace hb := btr hb hb2
  replace kv0 := cell_below' kv0 hb2
  replace kv1 := cell_below' kv1 hb2
  clear hb2
  go_wp2_with fail
  refine (toPrec_any Ap cp p _ hkp (hxp0.below hb)).mono ?_
  rintro e w2 ⟨As, cs, rfl, hos, hb2⟩
  have hnb_kv_s := own_ne hos (World.block_lt_of_cell? _ _ kv0)
  replace hos := own_base hos hb.size
  replace hb := btr hb hb2
  replace kv0 := cell_below' kv0 hb2
  replace kv1 := cell_below' kv1 hb2
  clear hb2
  go_wp2_with fail
  refine (Hs.out _ _ _ (own_le hos) (own_rd hos)).mono ?_
  rintro e w3 ⟨rfl, hb2⟩
  replace hb := btr hb hb2
  replace kv0 := cell_below' kv0 hb2
  replace kv1 := cell_below' kv1 hb2
  replace hos := own_below hos hb2
  clear hb2
  clear hos
  clear hnb_kv_s
  go_wp2_with fail
  refine (toPrec_any Ap cp p _ hkp (hxp0.below hb)).mono ?_
  rintro e w4 ⟨Ax, cx, rfl, hox, hb2⟩
  have hnb_kv_x := own_ne hox (World.block_lt_of_cell? _ _ kv0)
  replace hox := own_base hox hb.size
  replace hb := btr hb hb2
  replace kv0 := cell_below' kv0 hb2
  replace kv1 := cell_below' kv1 hb2
  clear hb2
  go_wp2_with fail
  have hb2 := bnew (Below.refl w4.heap.size w4) (.cells #[.int .i64 p.kinds, .slice Ax p.over.length cx] 27)
  have Bk : Blk (w4.alloc (.cells #[.int .i64 p.kinds, .slice Ax p.over.length cx] 27)) w4.heap.size 27 [.int .i64 p.kinds, .slice Ax p.over.length cx] := Blk.made #[.int .i64 p.kinds, .slice Ax p.over.length cx] rfl
  have hnb_kx_x : some w4.heap.size ≠ _ := fun e => by have := (hox.lt _ e.symm).2; omega
  replace hb := btr hb hb2
  replace kv0 := cell_below' kv0 hb2
  replace kv1 := cell_below' kv1 hb2
  replace hox := own_below hox hb2
  clear hb2
  have kx0 := Bk.cell (j := 0) rfl
  have kx1 := Bk.cell (j := 1) rfl
  clear Bk
  go_wp2_with fail
  generalize w4.alloc (.cells #[.int .i64 p.kinds, .slice Ax p.over.length cx] 27) = w5 at *
  go_wp2_with fail
  refine (Hi.out _ _ _ (own_le hox) (own_rd hox)).mono ?_
  rintro e w6 ⟨rfl, hb2⟩
  replace hb := btr hb hb2
  replace kv0 := cell_below' kv0 hb2
  replace kv1 := cell_below' kv1 hb2
  replace kx0 := cell_below' kx0 hb2
  replace kx1 := cell_below' kx1 hb2
  replace hox := own_below hox hb2
  clear hb2
  go_wp2_with fail
  have hb2 := (Below.refl w6.heap.size w6).drew
  replace hb := btr hb hb2
  replace kv0 := cell_below' kv0 hb2
  replace kv1 := cell_below' kv1 hb2
  replace kx0 := cell_below' kx0 hb2
  replace kx1 := cell_below' kx1 hb2
  replace hox := own_below hox hb2
  clear hb2
  go_region_held3 (fun w' => w'.cell? ⟨w.heap.size, 0, none⟩ = some (.int .i64 p.kinds) ∧ w'.cell? ⟨w.heap.size, 1, none⟩ = some (.slice Ap p.over.length cp) ∧ w'.cell? ⟨w4.heap.size, 0, none⟩ = some (.int .i64 p.kinds) ∧ w'.cell? ⟨w4.heap.size, 1, none⟩ = some (.slice Ax p.over.length cx)) ((first | exact ⟨kv0, kv1, kx0, kx1⟩ | assumption | go_keep)) ((first | (go_at_call 16; refine (toPrec_any Ap cp p _ hkp (hxp0.below hb)).mono ?_; rintro e w7 ⟨At, ct, rfl, hot, hb2⟩; have hap_x_t := apart_new hox hot; have hap_t_x := apart_symm hap_x_t; have hnb_kv_t := own_ne hot (World.block_lt_of_cell? _ _ kv0); have hnb_kx_t := own_ne hot (World.block_lt_of_cell? _ _ kx0); replace hot := own_base hot hb.size; replace hb := btr hb hb2; replace kv0 := cell_below' kv0 hb2; replace kv1 := cell_below' kv1 hb2; replace kx0 := cell_below' kx0 hb2; replace kx1 := cell_below' kx1 hb2; replace hox := own_below hox hb2; clear hb2) | (go_at_call 18; refine (eqPrec_same Ax At cx ct p _ hnp (own_rd hox) (own_rd hot)).mono ?_; rintro e w8 ⟨rfl, hb2⟩; replace hb := btr hb hb2; replace kv0 := cell_below' kv0 hb2; replace kv1 := cell_below' kv1 hb2; replace kx0 := cell_below' kx0 hb2; replace kx1 := cell_below' kx1 hb2; replace hox := own_below hox hb2; replace hot := own_below hot hb2; clear hb2)))
  go_wp2_with fail
  go_ret
  exact ⟨rfl, btr hbw hb⟩

set_option maxRecDepth 100000 in
theorem law_IsValidPrecedence_lifted (os : Os) (started : os.Started) (H : Type) (enc : TypeId × Value → H) :
    ReturnsInHanded {} Try.checked os 3 .any (Rows.fnExactIsValidPrecedenceSpec.pre6 enc Try.prog Try.f3 Rows.fnExactIsValidPrecedenceRow.domain false) (Rows.fnExactIsValidPrecedenceSpec.post enc Try.prog Try.f3 false true false false) := by
  refine returnsInHanded_of_change (C := Try.checked) own started (by kernel_rfl) Try.func3
    (ChangeSpec.witness6 (enc := enc) (C := Try.checked) false ⟨#[], #[.agg #[.int .i64 0, .slice none 0 0]], []⟩ 8 (by kernel_rfl) (by kernel_rfl) (by kernel_rfl) (by kernel_rfl)) ?_
  intro W base args ds gs before hval0 hW _ _
  have hval : ∀ (j : Nat) t v, Try.f3.params[j]? = some t → args[j]? = some v → Value.okWide Try.prog W .any base t v := hval0
  have hW' := hW
  obtain ⟨p, q, hA, -⟩ := hW
  replace hA : DataW.TrodAll enc Try.prog W 0 (fun _ => true) true Try.f3.params.toList args.toList ds p := hA
  rw [Try.params3] at hA hval
  obtain ⟨v0, d0, rfl, rfl, h0⟩ := trodAll_one hA
  obtain ⟨Ap, capp, p, rfl, hlcp, hcmp, hxp⟩ := open_Prec (hval 0 24 v0 rfl rfl) h0
  exact My.law_step laidOut Try.underlying4 (by kernel_rfl) (by kernel_rfl) rfl (fun H ds hd => by match ds, hd with | [_], _ => rfl) hW' (law_IsValidPrecedence Ap capp p W (Nat.le_trans hlcp hcmp) hxp)
theorem law_IsValidPrecedence_holds : Rows.FnExactIsValidPrecedenceSaid :=
  OpenClaim.holds_of_wide 3 Try.f3 rfl rfl rfl rfl rfl rfl rfl ⟨rfl, rfl, rfl, rfl, rfl⟩ rfl rfl rfl rfl rfl (by kernel_rfl) Try.func3 (by kernel_rfl)
    (of_decide_eq_true (by kernel_rfl)) (by unfold Func.isWrapper; first | (rw [if_pos (by decide +kernel)]; kernel_rfl) | (rw [if_neg (by decide +kernel)]; exact ⟨rfl, rfl⟩))
    (fun os started H enc _ => law_IsValidPrecedence_lifted os started H enc)

end Go.Proofs.Ytdbcbaahjhaonaa
