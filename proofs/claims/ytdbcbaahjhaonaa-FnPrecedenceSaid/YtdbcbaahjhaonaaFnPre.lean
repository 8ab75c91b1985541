/-
  FnPrecedence returns true for every input: the walk and the row. Conditions: none.
-/
import Derived.Test.YtdbcbaahjhaonaaPrecD2
import Derived.Test.YtdbcbaahjhaonaaPrecQ
import Derived.Test.YtdbcbaahjhaonaaCyc3
import Derived.Test.YtdbcbaahjhaonaaLaw
namespace Go.My
open Go.RowKit
def codeCells (xs : List Int) : List Value := xs.map (Value.int .u8)
theorem rdCode_of {w : World} {A : Option Addr} {xs : List Int} (h : Rd w A (codeCells xs)) (hb : ∀ x ∈ xs, 0 ≤ x ∧ x < 256) : RdCode w A xs.length := by
  rcases h with h | ⟨b, off, rfl, hc⟩
  · left; cases xs with | nil => rfl | cons x xs => simp [codeCells] at h
  · refine .inr ⟨b, off, rfl, fun j hj => ⟨xs[j], (hb _ (List.getElem_mem hj)).1, (hb _ (List.getElem_mem hj)).2, ?_⟩⟩
    have := hc j (by simpa [codeCells] using hj)
    rw [this]; simp [codeCells]
/-- A call that hands back a list of numbers and whether there is one. -/
def yS (B : Nat) (e : TypeId) (Y : List Int) (b : Bool) : LS where
  cons := []
  ok u := ∃ A c, u = .tuple #[.slice A Y.length c, .bool b]
  V u w := ∃ A c, u = .tuple #[.slice A Y.length c, .bool b] ∧ w.ownsRow B e 1 (.slice A Y.length c) Y.length (intCells Y)
  fp u := match u with | .tuple vs => (vs.getD 0 undef).ownBlock.toList | _ => []
  loc u w w' h hb hsz := by
    obtain ⟨A, c, rfl, ho⟩ := h
    exact ⟨A, c, rfl, (rowS [] B e 1 Y.length (intCells Y)).loc _ w w' ho (fun g hg => hb g hg) hsz⟩
  ne := ⟨_, none, 0, rfl⟩
theorem ob_y {P : Program} {w0 : World} {F : List Nat} {τ : Nat → Option LS} {U : Nat → Value} {a : Go.Act} {e : TypeId} {Y : List Int} {b : Bool} {o : Oper}
    (h : ∀ w, ClP w0 F w → stepTo P o a w (fun u w' => ∃ A c, u = .tuple #[.slice A Y.length c, .bool b] ∧ w'.ownsRow w.heap.size e 1 (.slice A Y.length c) Y.length (intCells Y) ∧ Below w.heap.size w w')) :
    Ob P w0 F τ (yS w0.heap.size e Y b) o a U := fun w hw _ => by
  have h1 := h w hw
  have hB' : w0.heap.size ≤ w.heap.size := by obtain ⟨N, rfl⟩ := hw; exact N.size
  unfold stepTo at h1 ⊢
  have fin : ∀ u w', (∃ A c, u = .tuple #[.slice A Y.length c, .bool b] ∧ w'.ownsRow w.heap.size e 1 (.slice A Y.length c) Y.length (intCells Y) ∧ Below w.heap.size w w') → Owes τ (yS w0.heap.size e Y b) U w u w' := fun u w' ⟨A, c, hu, ho, hb⟩ => by
    subst hu
    refine ⟨⟨A, c, rfl⟩, ⟨A, c, rfl, own_base ho hB'⟩, hb.os, hb.tape, hb.output, hb.size, fun g hg _ => hb.block g hg, fun g hg => ?_⟩
    have hg' : (Value.slice A Y.length c).ownBlock = some g := mem_toList.1 hg
    exact ⟨(ho.lt g hg').2, .inl (ho.lt g hg').1⟩
  generalize (execOp a.eval o).run P w = rr at *
  cases rr with
  | ok nx w' =>
    cases nx <;> simp only [stepUpon] at h1 ⊢
    case value u => exact fin _ _ h1
    case skip => exact fin _ _ h1
    case enter f args => exact h1.mono fun e w'' ⟨u, he, hR⟩ => ⟨u, he, fin _ _ hR⟩
  | halt x w' => simp only [stepUpon] at h1
end Go.My
namespace Go.Proofs.Ytdbcbaahjhaonaa
open Go.RowKit Go.My Go.ChangeShapes Go.WideShapes Go.ChangeAt
theorem own : ownKnob Try.prog.godebug = none := by kernel_rfl
theorem laidOut : laidOutB Try.prog = true := by kernel_rfl
theorem codeCells_flat (xs : List Int) : xs.flatMap (fun x => [Value.int .u8 x]) = codeCells xs := by
  induction xs with
  | nil => rfl
  | cons x r ih => simp [codeCells] at ih ⊢; exact ih
theorem open_Code {H : Type} {enc : TypeId × Value → H} {w : World} {A : Option Addr} {len cap : Nat} {d : DataW H} {ps : List MemPlace} (h : DataW.Trod enc Try.prog w 0 (fun _ => true) true 48 (.slice A len cap) d ps) :
    ∃ xs : List Int, xs.length = len ∧ len ≤ cap ∧ cap ≤ maxLen ∧ Rd w A (codeCells xs) ∧ ∀ b ∈ xs, 0 ≤ b ∧ b < 256 := by
  obtain ⟨xs, h1, h2, h3, h4, h5⟩ := open_list (fun x : Int => [Value.int .u8 x]) (fun b => 0 ≤ b ∧ b < 256) 1 (fun _ => rfl) (by decide) Try.underlying48 (by kernel_rfl) (fun n cs x hx => by
    obtain ⟨n1, e1, _, w1⟩ := DataW.trod_int Try.underlying5 hx
    refine ⟨n1, e1, ?_⟩
    simp [Lit.wf, IntKind.min, IntKind.max, IntKind.signed, IntKind.bits] at w1
    omega) h
  exact ⟨xs, h1, h2, h3, by rw [← codeCells_flat]; exact h4, h5⟩
set_option maxHeartbeats 1000000 in
theorem vHas_any (A : Option Addr) (c : Nat) (ps : List Int) (v : Int) (w : World) (hn : ps.length ≤ maxLen) (hx : Rd w A (intCells ps)) :
    Calls Try.prog 46 #[.slice A ps.length c, .int .i64 v] w fun e w' => e = .returned (.bool (hasK ps v)) ∧ w = w' := by
  unfold maxLen at hn
  have HT : Hid (hasK ps v = hasK (ps.drop 0) v) := rfl
  generalize hasK ps v = r at *
  go_enter Try.func46, Try.ntmps46
  go_wp2
  go_loop [5] (fun q => ∃ k : Nat, k ≤ ps.length ∧ q = .int .i64 k ∧ Hid (r = hasK (ps.drop k) v)) (fun q => ps.length - (intOf q).toNat)
  case atStart => exact ⟨0, by omega, rfl, HT⟩
  case round =>
    obtain ⟨k, hk, rfl, H⟩ := hrel
    by_cases hlt : k < ps.length
    · obtain ⟨b, off, rfl, c0⟩ := Rd.ints hx hlt
      have Hn := Lib.hid (H.out.trans (hasK_at hlt))
      have hkI : (k : Int) < (ps.length : Int) := by omega
      clear H
      generalize ps[k] = s at *
      by_cases hq : s = v
      · have hq1 : (s == v) = true := by simpa using hq
        have Hf : Hid (r = true) := Hn.out.trans (by rw [hq1]; rfl)
        go_wp2
        go_ret
        exact ⟨by rw [Hf.out]; rfl, rfl⟩
      · have hq1 : (s == v) = false := by simpa using hq
        have Hf : Hid (r = hasK (ps.drop (k + 1)) v) := Hn.out.trans (by rw [hq1]; rfl)
        clear Hn hq
        go_wp2
        go_round
        case rel => exact ⟨k + 1, by omega, by go_num, Hf⟩
        case measure => simp [intOf]; omega
    · have Hf : Hid (r = false) := H.out.trans (by rw [List.drop_eq_nil_of_le (by omega)]; rfl)
      have hkI : ¬ (k : Int) < (ps.length : Int) := by omega
      go_wp2
      go_ret
      exact ⟨by rw [Hf.out]; rfl, rfl⟩
set_option maxHeartbeats 4000000 in
set_option maxRecDepth 100000 in
theorem vInts_any (A B : Option Addr) (c d : Nat) (xs : List Int) (w : World) (hn : xs.length ≤ maxLen) (hx : Rd w A (intCells xs)) (hy : Rd w B (intCells xs)) :
    Calls Try.prog 45 #[.slice A xs.length c, .slice B xs.length d] w fun e w' => e = .returned (.bool true) ∧ Below w.heap.size w w' := by
  unfold maxLen at hn
  go_enter Try.func45, Try.ntmps45
  go_wp2_with fail
  go_loopw [5] (fun q wr => ∃ k : Nat, k ≤ xs.length ∧ q = .int .i64 k ∧ Below w.heap.size w wr) (fun q _ => xs.length - (intOf q).toNat)
  case atStart => exact ⟨0, by omega, rfl, Below.refl _ _⟩
  case round =>
    obtain ⟨k, hk, rfl, hb⟩ := hrel
    by_cases hlt : k < xs.length
    · obtain ⟨b, off, rfl, c0⟩ := Rd.ints (hx.below hb) hlt
      obtain ⟨b2, off2, rfl, d0⟩ := Rd.ints (hy.below hb) hlt
      have hkI : (k : Int) < (xs.length : Int) := by omega
      generalize xs[k] = s at *
      have g0 := cell_after c0
      have e0 := cell_after d0
      go_wp2_with fail
      refine wp_region_after (by kernel_rfl) (by kernel_rfl) ?_
      repeat (go_big_quiet_step (fail))
      refine wpQuiet_nil ?_
      intro nq
      have hb2 := hb.trans (nq.bel.mono hb.size)
      generalize nq.val = W1 at *
      go_wp2_with fail
      go_roundw
      case rel => exact ⟨k + 1, by omega, by go_num, hb2⟩
      case measure => simp [intOf]; omega
    · have hkI : ¬ (k : Int) < (xs.length : Int) := by omega
      go_wp2
      go_ret
      exact ⟨rfl, hb⟩
theorem big_any (A : Option Addr) (n c : Nat) (w : World) : Calls Try.prog 43 #[.slice A n c] w fun e w' => e = .returned (.bool (decide ((65536 : Int) < n))) ∧ w = w' := by
  go_enter Try.func43, Try.ntmps43
  go_wp2
  go_ret
  exact ⟨rfl, rfl⟩
set_option maxHeartbeats 64000000 in
set_option maxRecDepth 100000 in
theorem law_FnPrecedence (A : Option Addr) (c : Nat) (code : List Int) (w : World) (hn : code.length ≤ maxLen) (hx : Rd w A (codeCells code)) (hok : ∀ b ∈ code, 0 ≤ b ∧ b < 256) :
    Calls Try.prog 12 #[.slice A code.length c] w fun e w' => e = .returned (.bool true) ∧ Below w.heap.size w w' := by
  have HR := Lib.hid (rdCode_of hx hok)
  clear hx hok
  by_cases hbig : 65536 < code.length
  · have hbI : decide ((65536 : Int) < (code.length : Int)) = true := by simp; omega
    go_enter Try.func12, Try.ntmps12
    go_wp2_with (go_at_call 43; refine (big_any A _ c w).mono ?_; rintro e w1 ⟨rfl, rfl⟩)
    go_ret
    exact ⟨rfl, Below.refl _ _⟩
  have hbI : decide ((65536 : Int) < (code.length : Int)) = false := by simp; omega
  generalize code.length = n at *
  go_enter Try.func12, Try.ntmps12
  go_wp2_with (go_at_call 43; refine (big_any A n c w).mono ?_; rintro e w0 ⟨rfl, rfl⟩)
  refine (drawCycle_any A n c w hn HR.out).mono ?_
  rintro e w1 ⟨A1, c1, p, rfl, hl60, ho, hb⟩
  have hbn := bnew (Below.refl w1.heap.size w1) (.cells #[.int .i64 p.kinds, .slice A1 p.over.length c1] 27)
  have BP : Blk (w1.alloc (.cells #[.int .i64 p.kinds, .slice A1 p.over.length c1] 27)) w1.heap.size 27 [.int .i64 p.kinds, .slice A1 p.over.length c1] := blk_made #[.int .i64 p.kinds, .slice A1 p.over.length c1] rfl
  replace hb := btr hb hbn
  replace ho := own_below ho hbn
  obtain ⟨CY, OR, RK, told, so, cy, fi, eg, e1, e2, e3, e4, l1, l2, l3, hCY, hOR, hRK, hcase⟩ := pq_all p
  have HCY := Lib.hid hCY
  have HOR := Lib.hid hOR
  have HRK0 := Lib.hid hRK
  clear hCY hOR hRK hbn hn
  have hn : p.over.length ≤ maxLen := by unfold maxLen; omega
  go_wp2_with fail
  generalize w1.alloc (.cells #[.int .i64 p.kinds, .slice A1 p.over.length c1] 27) = W at *
  generalize w1.heap.size = b at *
  have kb0 := blk_cell BP (j := 0) rfl
  have kb1 := blk_cell BP (j := 1) rfl
  rcases hcase with ⟨rfl, rfl, rfl, rfl⟩ | ⟨rfl, rfl, rfl, rfl⟩ | ⟨rfl, rfl, rfl, rfl⟩
  · clear HRK0
    have HT : Calls Try.prog 35 #[.agg #[.int .i64 p.kinds, .slice A1 p.over.length c1]] W fun en w' => ∃ A' c', en = .returned (.tuple #[.slice A' CY.length c', .bool false]) ∧ w'.ownsRow W.heap.size 3 1 (.slice A' CY.length c') CY.length (intCells CY) ∧ Below W.heap.size W w' := by
      have h0 := cycle_any A1 c1 p W hn (own_le ho) (own_rd ho)
      rw [e1] at h0; exact h0
    refine (HT).mono ?_
    rintro e w2 ⟨A2, c2, rfl, ho2, hbq⟩
    replace hb := btr hb hbq
    replace ho := own_below ho hbq
    replace BP := BP.below hbq
    clear hbq kb0 kb1
    have kb0 := blk_cell BP (j := 0) rfl
    have kb1 := blk_cell BP (j := 1) rfl
    clear HT
    go_wp2_with fail
    have HT : Calls Try.prog 34 #[.agg #[.int .i64 p.kinds, .slice A1 p.over.length c1]] w2 fun en w' => ∃ A' c', en = .returned (.tuple #[.slice A' CY.length c', .bool false]) ∧ w'.ownsRow w2.heap.size 3 1 (.slice A' CY.length c') CY.length (intCells CY) ∧ Below w2.heap.size w2 w' := by
      have h0 := specCycle_any A1 c1 p w2 hn (own_le ho) (own_rd ho)
      rw [e1] at h0; exact h0
    refine (HT).mono ?_
    rintro e w3 ⟨A3, c3, rfl, ho3, hbq⟩
    replace hb := btr hb hbq
    replace ho := own_below ho hbq
    replace BP := BP.below hbq
    replace ho2 := own_below ho2 hbq
    clear hbq kb0 kb1
    have kb0 := blk_cell BP (j := 0) rfl
    have kb1 := blk_cell BP (j := 1) rfl
    clear HT
    go_wp2_with fail
    refine (vInts_any A2 A3 c2 c3 CY w3 (by unfold maxLen; omega) (own_rd ho2) (own_rd ho3)).mono ?_
    rintro e w4 ⟨rfl, hbq⟩
    replace hb := btr hb hbq
    replace ho := own_below ho hbq
    replace BP := BP.below hbq
    replace ho2 := own_below ho2 hbq
    clear hbq kb0 kb1
    have kb0 := blk_cell BP (j := 0) rfl
    have kb1 := blk_cell BP (j := 1) rfl
    clear ho3
    go_wp2_with fail
    have HT : Calls Try.prog 20 #[.agg #[.int .i64 p.kinds, .slice A1 p.over.length c1]] w4 fun en w' => en = .returned (.tuple #[.bool false, .bool false]) ∧ Below w4.heap.size w4 w' := by
      have h0 := IsSound_any A1 c1 p w4 hn (own_le ho) (own_rd ho)
      rw [e2] at h0; exact h0
    refine (HT).mono ?_
    rintro e w5 ⟨rfl, hbq⟩
    replace hb := btr hb hbq
    replace ho := own_below ho hbq
    replace BP := BP.below hbq
    replace ho2 := own_below ho2 hbq
    clear hbq kb0 kb1
    have kb0 := blk_cell BP (j := 0) rfl
    have kb1 := blk_cell BP (j := 1) rfl
    clear HT
    go_wp2_with fail
    have HT : Calls Try.prog 19 #[.agg #[.int .i64 p.kinds, .slice A1 p.over.length c1]] w5 fun en w' => en = .returned (.tuple #[.bool false, .bool false]) ∧ Below w5.heap.size w5 w' := by
      have h0 := specIsSound_any A1 c1 p w5 hn (own_le ho) (own_rd ho)
      rw [e2] at h0; exact h0
    refine (HT).mono ?_
    rintro e w6 ⟨rfl, hbq⟩
    replace hb := btr hb hbq
    replace ho := own_below ho hbq
    replace BP := BP.below hbq
    replace ho2 := own_below ho2 hbq
    clear hbq kb0 kb1
    have kb0 := blk_cell BP (j := 0) rfl
    have kb1 := blk_cell BP (j := 1) rfl
    clear HT
    have HT : Calls Try.prog 17 #[.agg #[.int .i64 p.kinds, .slice A1 p.over.length c1]] w6 fun en w' => en = .returned (.bool false) ∧ Below w6.heap.size w6 w' := by
      have h0 := isPrec_any A1 c1 p w6 hn (own_rd ho)
      rw [eg] at h0; exact h0
    go_wp2_with fail
    refine (HT).mono ?_
    rintro e W ⟨rfl, hbq⟩
    replace hb := btr hb hbq
    replace ho := own_below ho hbq
    replace BP := BP.below hbq
    replace ho2 := own_below ho2 hbq
    clear hbq kb0 kb1
    have kb0 := blk_cell BP (j := 0) rfl
    have kb1 := blk_cell BP (j := 1) rfl
    clear HT
    have hxC := own_rd ho2
    have hb0 := Below.refl W.heap.size W
    go_wp2_with fail
    go_loopw [12, 13, 14] (fun q _ _ wr => ∃ i : Nat, i ≤ CY.length ∧ q = .int .i64 i ∧ Below W.heap.size W wr) (fun q _ _ _ => CY.length - (intOf q).toNat)
    case atStart => exact ⟨0, by omega, rfl, hb0⟩
    case round =>
      clear hb0
      obtain ⟨i, hi, rfl, hbr⟩ := hrel
      replace ho := own_below ho hbr
      replace BP := BP.below hbr
      replace hxC := hxC.below hbr
      clear kb0 kb1
      have kb0 := blk_cell BP (j := 0) rfl
      have kb1 := blk_cell BP (j := 1) rfl
      by_cases hlt : i < CY.length
      · obtain ⟨Y, hY8, eY, hh1, hj, hh2⟩ := HCY.out i hlt
        obtain ⟨b1, off1, eA, d0⟩ := Rd.ints hxC hlt
        obtain ⟨b2, off2, eB, d1⟩ := Rd.ints hxC hj
        rw [eA] at eB
        cases eB
        subst eA
        have hiI : (i : Int) < (CY.length : Int) := by omega
        have hjI : (((i + 1) % CY.length : Nat) : Int) < (CY.length : Int) := by omega
        have hiw : IntKind.i64.wrap ((i : Int) + 1) = (i : Int) + 1 := by rw [IntKind.wrap_i64]; omega
        have hrm : ((i : Int) + 1).tmod (CY.length : Int) = (((i + 1) % CY.length : Nat) : Int) := by rw [Int.tmod_eq_emod_of_nonneg (by omega)]; first | exact (Int.natCast_emod (i + 1) CY.length).symm | exact (Int.ofNat_emod (i + 1) CY.length).symm | (push_cast; rfl)
        have hrmw : IntKind.i64.wrap (((i + 1) % CY.length : Nat) : Int) = (((i + 1) % CY.length : Nat) : Int) := by rw [IntKind.wrap_i64]; omega
        have hz0 : ((CY.length : Int) == 0) = false := by rw [beq_eq_false_iff_ne]; omega
        have hz1 : ¬ (CY.length : Int) = 0 := by omega
        have HY : Hid (∀ w1, Below wr.drew.heap.size wr.drew w1 → Calls Try.prog 22 #[.agg #[.int .i64 p.kinds, .slice A1 p.over.length c1], .int .i64 CY[i]] w1 fun en w' => ∃ A' c', en = .returned (.tuple #[.slice A' Y.length c', .bool true]) ∧ w'.ownsRow w1.heap.size 3 1 (.slice A' Y.length c') Y.length (intCells Y) ∧ Below w1.heap.size w1 w') := fun w1 h1 => by
          have h0 := yieldsT_any A1 c1 p CY[i] w1 hn (own_le ho) (((own_rd ho).drew).below h1)
          rw [eY] at h0
          exact h0
        generalize CY[(i + 1) % CY.length] = vj at *
        generalize CY[i] = vi at *
        generalize (i + 1) % CY.length = j at *
        have hbd := (Below.refl wr.heap.size wr).drew
        have g0 := cell_cl (w := wr.drew) (cell_bel kb0 hbd)
        have g1 := cell_cl (w := wr.drew) (cell_bel kb1 hbd)
        have g2 := cell_cl (w := wr.drew) (cell_bel d0 hbd)
        go_wp2_with fail
        refine wp_loose0 (U := fun _ => undef) (τ := lk [(5, yS wr.drew.heap.size 3 Y true)]) (F := []) (by kernel_rfl) (by kernel_rfl) (fits_of rfl (by kernel_rfl)) (inv_start (by intro r s h; have := lk_mem h; simp at this; (first | omega | (simp only [List.length_cons, List.length_nil]; omega)))) ?_
        refine wpL_quiet 5 rfl rfl ?_
        simp only [List.take_succ_cons, List.take_zero, List.drop_succ_cons, List.drop_zero]
        repeat (go_big_quiet_step (fail))
        refine wpQuiet_nil ?_
        refine gives_loose rfl (ob_y (fun w1 h1 => by simp [stepTo, stepUpon, go_sem]; exact (HY.out w1 (clP_below h1)).mono fun e w2 ⟨A2, c2, he, ho2, hb2⟩ => ⟨_, he, A2, c2, rfl, ho2, hb2⟩)) ?_
        rintro u5 ⟨A5, c5, rfl⟩
        simp only [Act.put, List.setIfInBounds_toArray, List.set_cons_zero, List.set_cons_succ]
        refine wpL_quiet 5 rfl rfl ?_
        simp only [List.take_succ_cons, List.take_zero, List.drop_succ_cons, List.drop_zero]
        repeat (go_big_quiet_step (fail))
        refine wpQuiet_nil ?_
        refine wpL_nil ?_
        intro w8 hEnd
        obtain ⟨A8, c8, e8, hRow⟩ := ends_get hEnd 5 (s := yS wr.drew.heap.size 3 Y true) rfl rfl
        simp only [upd] at e8
        have hoY : w8.ownsRow wr.drew.heap.size 3 1 (.slice A5 Y.length c5) Y.length (intCells Y) := by
          have e9 : (Value.tuple #[.slice A5 Y.length c5, .bool true]) = .tuple #[.slice A8 Y.length c8, .bool true] := by simpa using e8
          simp only [Value.tuple.injEq, Array.mk.injEq, List.cons.injEq, Value.slice.injEq, and_true, true_and] at e9
          obtain ⟨rfl, rfl⟩ := e9
          exact hRow
        have hbW8 : Below wr.heap.size wr w8 := btr hbd (ends_below hEnd)
        clear hEnd e8 hRow g0 g1 g2 hbd
        have HH1 : Hid (∀ w1, Below w8.heap.size w8 w1 → Calls Try.prog 46 #[.slice A5 Y.length c5, .int .i64 vj] w1 fun e w' => e = .returned (.bool true) ∧ w1 = w') := fun w1 h1 => by
          have h0 := vHas_any A5 c5 Y vj w1 (by unfold maxLen; omega) ((own_rd hoY).below h1)
          rw [hh2] at h0; exact h0
        have HH2 : Hid (∀ w1, Below w8.heap.size w8 w1 → Calls Try.prog 46 #[.slice A5 Y.length c5, .int .i64 vi] w1 fun e w' => e = .returned (.bool true) ∧ w1 = w') := fun w1 h1 => by
          have h0 := vHas_any A5 c5 Y vi w1 (by unfold maxLen; omega) ((own_rd hoY).below h1)
          rw [hh1] at h0; exact h0
        replace d0 := cell_bel d0 hbW8
        replace d1 := cell_bel d1 hbW8
        clear hh1 hh2 hj eY
        go_wp2_with fail
        refine (HH1.out _ (Below.refl _ _)).mono ?_
        rintro e w9 ⟨rfl, rfl⟩
        clear HH1
        go_wp2_with fail
        refine (HH2.out _ (Below.refl _ _)).mono ?_
        rintro e w9 ⟨rfl, rfl⟩
        clear HH2
        go_wp2_with fail
        go_roundw
        case rel => exact ⟨i + 1, by omega, by go_num, btr hbr hbW8⟩
        case measure => simp [intOf]; omega
      · have hiI : ¬ (i : Int) < (CY.length : Int) := by omega
        replace hb := btr hb hbr
        clear hxC ho2 HCY
        generalize wr = W at *
        go_wp2_with fail
        have HT : Calls Try.prog 39 #[.agg #[.int .i64 p.kinds, .slice A1 p.over.length c1]] W fun en w' => ∃ A' c', en = .returned (.tuple #[.slice A' OR.length c', .bool false]) ∧ w'.ownsRow W.heap.size 3 1 (.slice A' OR.length c') OR.length (intCells OR) ∧ Below W.heap.size W w' := by
          have h0 := orderK_any A1 c1 p W hn (own_le ho) (own_rd ho)
          rw [e3] at h0; exact h0
        refine (HT).mono ?_
        rintro e w2 ⟨A4, c4, rfl, ho4, hbq⟩
        replace hb := btr hb hbq
        replace ho := own_below ho hbq
        replace BP := BP.below hbq
        clear hbq kb0 kb1
        have kb0 := blk_cell BP (j := 0) rfl
        have kb1 := blk_cell BP (j := 1) rfl
        clear HT
        go_wp2_with fail
        have HT : Calls Try.prog 38 #[.agg #[.int .i64 p.kinds, .slice A1 p.over.length c1]] w2 fun en w' => ∃ A' c', en = .returned (.tuple #[.slice A' OR.length c', .bool false]) ∧ w'.ownsRow w2.heap.size 3 1 (.slice A' OR.length c') OR.length (intCells OR) ∧ Below w2.heap.size w2 w' := by
          have h0 := specOrderK_any A1 c1 p w2 hn (own_le ho) (own_rd ho)
          rw [e3] at h0; exact h0
        refine (HT).mono ?_
        rintro e w3 ⟨A5, c5, rfl, ho5, hbq⟩
        replace hb := btr hb hbq
        replace ho := own_below ho hbq
        replace BP := BP.below hbq
        replace ho4 := own_below ho4 hbq
        clear hbq kb0 kb1
        have kb0 := blk_cell BP (j := 0) rfl
        have kb1 := blk_cell BP (j := 1) rfl
        clear HT
        go_wp2_with fail
        refine (vInts_any A4 A5 c4 c5 OR w3 (by unfold maxLen; omega) (own_rd ho4) (own_rd ho5)).mono ?_
        rintro e w4 ⟨rfl, hbq⟩
        replace hb := btr hb hbq
        replace ho := own_below ho hbq
        replace BP := BP.below hbq
        replace ho4 := own_below ho4 hbq
        clear hbq kb0 kb1
        have kb0 := blk_cell BP (j := 0) rfl
        have kb1 := blk_cell BP (j := 1) rfl
        clear ho5
        go_wp2_with fail
        have HT : Calls Try.prog 37 #[.agg #[.int .i64 p.kinds, .slice A1 p.over.length c1]] w4 fun en w' => ∃ A' c', en = .returned (.tuple #[.slice A' RK.length c', .bool false]) ∧ w'.ownsRow w4.heap.size 3 1 (.slice A' RK.length c') RK.length (intCells RK) ∧ Below w4.heap.size w4 w' := by
          have h0 := ranksOf_any A1 c1 p w4 hn (own_le ho) (own_rd ho)
          rw [e4] at h0; exact h0
        refine (HT).mono ?_
        rintro e w5 ⟨A6, c6, rfl, ho6, hbq⟩
        replace hb := btr hb hbq
        replace ho := own_below ho hbq
        replace BP := BP.below hbq
        replace ho4 := own_below ho4 hbq
        clear hbq kb0 kb1
        have kb0 := blk_cell BP (j := 0) rfl
        have kb1 := blk_cell BP (j := 1) rfl
        clear HT
        go_wp2_with fail
        have HT : Calls Try.prog 36 #[.agg #[.int .i64 p.kinds, .slice A1 p.over.length c1]] w5 fun en w' => ∃ A' c', en = .returned (.tuple #[.slice A' RK.length c', .bool false]) ∧ w'.ownsRow w5.heap.size 3 1 (.slice A' RK.length c') RK.length (intCells RK) ∧ Below w5.heap.size w5 w' := by
          have h0 := specRanksOf_any A1 c1 p w5 hn (own_le ho) (own_rd ho)
          rw [e4] at h0; exact h0
        refine (HT).mono ?_
        rintro e w6 ⟨A7, c7, rfl, ho7, hbq⟩
        replace hb := btr hb hbq
        replace ho := own_below ho hbq
        replace BP := BP.below hbq
        replace ho4 := own_below ho4 hbq
        replace ho6 := own_below ho6 hbq
        clear hbq kb0 kb1
        have kb0 := blk_cell BP (j := 0) rfl
        have kb1 := blk_cell BP (j := 1) rfl
        clear HT
        go_wp2_with fail
        refine (vInts_any A6 A7 c6 c7 RK w6 (by unfold maxLen; omega) (own_rd ho6) (own_rd ho7)).mono ?_
        rintro e W ⟨rfl, hbq⟩
        replace hb := btr hb hbq
        replace ho := own_below ho hbq
        replace BP := BP.below hbq
        replace ho4 := own_below ho4 hbq
        replace ho6 := own_below ho6 hbq
        clear hbq kb0 kb1
        have kb0 := blk_cell BP (j := 0) rfl
        have kb1 := blk_cell BP (j := 1) rfl
        clear ho7
        have hxO := own_rd ho4
        have hb0 := Below.refl W.heap.size W
        go_wp2_with fail
        go_loopw [23, 24, 25, 26] (fun q _ _ _ wr => ∃ i : Nat, i ≤ OR.length ∧ q = .int .i64 i ∧ Below W.heap.size W wr) (fun q _ _ _ _ => OR.length - (intOf q).toNat)
        case atStart => exact ⟨0, by omega, rfl, hb0⟩
        case round =>
          clear hb0
          obtain ⟨i, hi, rfl, hbr⟩ := hrel
          by_cases hlt : i < OR.length
          · have hiI : (i : Int) < (OR.length : Int) := by omega
            go_wp2_with fail
            generalize wr = wo at *
            go_loopw [24, 25, 26] (fun q _ _ wr => ∃ k : Nat, k ≤ i ∧ q = .int .i64 k ∧ Below W.heap.size W wr) (fun q _ _ _ => i - (intOf q).toNat)
            case atStart => exact ⟨0, by omega, rfl, hbr⟩
            case round =>
              clear hbr
              obtain ⟨k, hk, rfl, hbr⟩ := hrel
              by_cases hki : k < i
              · have hkI : (k : Int) < (i : Int) := by omega
                have hkl : k < OR.length := by omega
                have hkO : (k : Int) < (OR.length : Int) := by omega
                replace ho := own_below ho hbr
                replace BP := BP.below hbr
                replace hxO := hxO.below hbr
                clear kb0 kb1
                have kb0 := blk_cell BP (j := 0) rfl
                have kb1 := blk_cell BP (j := 1) rfl
                obtain ⟨Y, hY8, eY, hh1⟩ := HOR.out i k hlt hkl hki
                obtain ⟨b1, off1, eA, d0⟩ := Rd.ints hxO hlt
                obtain ⟨b2, off2, eB, d1⟩ := Rd.ints hxO hkl
                rw [eA] at eB
                cases eB
                subst eA
                have HY : Hid (∀ w1, Below wr.drew.heap.size wr.drew w1 → Calls Try.prog 22 #[.agg #[.int .i64 p.kinds, .slice A1 p.over.length c1], .int .i64 OR[i]] w1 fun en w' => ∃ A' c', en = .returned (.tuple #[.slice A' Y.length c', .bool true]) ∧ w'.ownsRow w1.heap.size 3 1 (.slice A' Y.length c') Y.length (intCells Y) ∧ Below w1.heap.size w1 w') := fun w1 h1 => by
                  have h0 := yieldsT_any A1 c1 p OR[i] w1 hn (own_le ho) (((own_rd ho).drew).below h1)
                  rw [eY] at h0
                  exact h0
                generalize OR[k] = vj at *
                generalize OR[i] = vi at *
                have hbd := (Below.refl wr.heap.size wr).drew
                have g0 := cell_cl (w := wr.drew) (cell_bel kb0 hbd)
                have g1 := cell_cl (w := wr.drew) (cell_bel kb1 hbd)
                have g2 := cell_cl (w := wr.drew) (cell_bel d0 hbd)
                go_wp2_with fail
                refine wp_loose0 (U := fun _ => undef) (τ := lk [(5, yS wr.drew.heap.size 3 Y true)]) (F := []) (by kernel_rfl) (by kernel_rfl) (fits_of rfl (by kernel_rfl)) (inv_start (by intro r s h; have := lk_mem h; simp at this; (first | omega | (simp only [List.length_cons, List.length_nil]; omega)))) ?_
                refine wpL_quiet 5 rfl rfl ?_
                simp only [List.take_succ_cons, List.take_zero, List.drop_succ_cons, List.drop_zero]
                repeat (go_big_quiet_step (fail))
                refine wpQuiet_nil ?_
                refine gives_loose rfl (ob_y (fun w1 h1 => by simp [stepTo, stepUpon, go_sem]; exact (HY.out w1 (clP_below h1)).mono fun e w2 ⟨A2, c2, he, ho2, hb2⟩ => ⟨_, he, A2, c2, rfl, ho2, hb2⟩)) ?_
                rintro u5 ⟨A5, c5, rfl⟩
                simp only [Act.put, List.setIfInBounds_toArray, List.set_cons_zero, List.set_cons_succ]
                refine wpL_quiet 5 rfl rfl ?_
                simp only [List.take_succ_cons, List.take_zero, List.drop_succ_cons, List.drop_zero]
                repeat (go_big_quiet_step (fail))
                refine wpQuiet_nil ?_
                refine wpL_nil ?_
                intro w8 hEnd
                obtain ⟨A8, c8, e8, hRow⟩ := ends_get hEnd 5 (s := yS wr.drew.heap.size 3 Y true) rfl rfl
                simp only [upd] at e8
                have hoY : w8.ownsRow wr.drew.heap.size 3 1 (.slice A5 Y.length c5) Y.length (intCells Y) := by
                  have e9 : (Value.tuple #[.slice A5 Y.length c5, .bool true]) = .tuple #[.slice A8 Y.length c8, .bool true] := by simpa using e8
                  simp only [Value.tuple.injEq, Array.mk.injEq, List.cons.injEq, Value.slice.injEq, and_true, true_and] at e9
                  obtain ⟨rfl, rfl⟩ := e9
                  exact hRow
                have hbW8 : Below wr.heap.size wr w8 := btr hbd (ends_below hEnd)
                clear hEnd e8 hRow g0 g1 g2 hbd
                have HH1 : Hid (∀ w1, Below w8.heap.size w8 w1 → Calls Try.prog 46 #[.slice A5 Y.length c5, .int .i64 vj] w1 fun e w' => e = .returned (.bool false) ∧ w1 = w') := fun w1 h1 => by
                  have h0 := vHas_any A5 c5 Y vj w1 (by unfold maxLen; omega) ((own_rd hoY).below h1)
                  rw [hh1] at h0; exact h0
                replace d1 := cell_bel d1 hbW8
                clear hh1 eY
                go_wp2_with (go_at_call 46; refine (HH1.out _ (Below.refl _ _)).mono ?_; rintro e w9 ⟨rfl, rfl⟩)
                go_roundw
                case rel => exact ⟨k + 1, by omega, by go_num, btr hbr hbW8⟩
                case measure => simp [intOf]; omega
              · have hkI : ¬ (k : Int) < (i : Int) := by omega
                go_wp2_with fail
                go_roundw
                case rel => exact ⟨i + 1, by omega, by go_num, hbr⟩
                case measure => simp [intOf]; omega
          · have hiI : ¬ (i : Int) < (OR.length : Int) := by omega
            replace hb := btr hb hbr
            replace ho := own_below ho hbr
            replace BP := BP.below hbr
            replace ho6 := own_below ho6 hbr
            clear hxO ho4 HOR kb0 kb1
            generalize wr = W at *
            have kb0 := blk_cell BP (j := 0) rfl
            have kb1 := blk_cell BP (j := 1) rfl
            go_wp2_with fail
            go_loopw [27] (fun q wr => q = .int .i64 0 ∧ W = wr) (fun _ _ => 0)
            case atStart => exact ⟨rfl, rfl⟩
            case round =>
              obtain ⟨rfl, rfl⟩ := hrel
              by_cases h0 : 0 < p.over.length
              · have h0I : (0 : Int) < (p.over.length : Int) := by omega
                have h0D : decide ((0 : Int) < (p.over.length : Int)) = true := by simpa using h0I
                go_wp2
                go_ret
                exact ⟨rfl, hb⟩
              · have h0I : ¬ (0 : Int) < (p.over.length : Int) := by omega
                have h0D : decide ((0 : Int) < (p.over.length : Int)) = false := by simpa using h0
                go_wp2
                go_ret
                exact ⟨rfl, hb⟩
  · have HRK := Lib.hid (HRK0.out rfl)
    clear HRK0
    have HT : Calls Try.prog 35 #[.agg #[.int .i64 p.kinds, .slice A1 p.over.length c1]] W fun en w' => ∃ A' c', en = .returned (.tuple #[.slice A' CY.length c', .bool false]) ∧ w'.ownsRow W.heap.size 3 1 (.slice A' CY.length c') CY.length (intCells CY) ∧ Below W.heap.size W w' := by
      have h0 := cycle_any A1 c1 p W hn (own_le ho) (own_rd ho)
      rw [e1] at h0; exact h0
    refine (HT).mono ?_
    rintro e w2 ⟨A2, c2, rfl, ho2, hbq⟩
    replace hb := btr hb hbq
    replace ho := own_below ho hbq
    replace BP := BP.below hbq
    clear hbq kb0 kb1
    have kb0 := blk_cell BP (j := 0) rfl
    have kb1 := blk_cell BP (j := 1) rfl
    clear HT
    go_wp2_with fail
    have HT : Calls Try.prog 34 #[.agg #[.int .i64 p.kinds, .slice A1 p.over.length c1]] w2 fun en w' => ∃ A' c', en = .returned (.tuple #[.slice A' CY.length c', .bool false]) ∧ w'.ownsRow w2.heap.size 3 1 (.slice A' CY.length c') CY.length (intCells CY) ∧ Below w2.heap.size w2 w' := by
      have h0 := specCycle_any A1 c1 p w2 hn (own_le ho) (own_rd ho)
      rw [e1] at h0; exact h0
    refine (HT).mono ?_
    rintro e w3 ⟨A3, c3, rfl, ho3, hbq⟩
    replace hb := btr hb hbq
    replace ho := own_below ho hbq
    replace BP := BP.below hbq
    replace ho2 := own_below ho2 hbq
    clear hbq kb0 kb1
    have kb0 := blk_cell BP (j := 0) rfl
    have kb1 := blk_cell BP (j := 1) rfl
    clear HT
    go_wp2_with fail
    refine (vInts_any A2 A3 c2 c3 CY w3 (by unfold maxLen; omega) (own_rd ho2) (own_rd ho3)).mono ?_
    rintro e w4 ⟨rfl, hbq⟩
    replace hb := btr hb hbq
    replace ho := own_below ho hbq
    replace BP := BP.below hbq
    replace ho2 := own_below ho2 hbq
    clear hbq kb0 kb1
    have kb0 := blk_cell BP (j := 0) rfl
    have kb1 := blk_cell BP (j := 1) rfl
    clear ho3
    go_wp2_with fail
    have HT : Calls Try.prog 20 #[.agg #[.int .i64 p.kinds, .slice A1 p.over.length c1]] w4 fun en w' => en = .returned (.tuple #[.bool true, .bool true]) ∧ Below w4.heap.size w4 w' := by
      have h0 := IsSound_any A1 c1 p w4 hn (own_le ho) (own_rd ho)
      rw [e2] at h0; exact h0
    refine (HT).mono ?_
    rintro e w5 ⟨rfl, hbq⟩
    replace hb := btr hb hbq
    replace ho := own_below ho hbq
    replace BP := BP.below hbq
    replace ho2 := own_below ho2 hbq
    clear hbq kb0 kb1
    have kb0 := blk_cell BP (j := 0) rfl
    have kb1 := blk_cell BP (j := 1) rfl
    clear HT
    go_wp2_with fail
    have HT : Calls Try.prog 19 #[.agg #[.int .i64 p.kinds, .slice A1 p.over.length c1]] w5 fun en w' => en = .returned (.tuple #[.bool true, .bool true]) ∧ Below w5.heap.size w5 w' := by
      have h0 := specIsSound_any A1 c1 p w5 hn (own_le ho) (own_rd ho)
      rw [e2] at h0; exact h0
    refine (HT).mono ?_
    rintro e w6 ⟨rfl, hbq⟩
    replace hb := btr hb hbq
    replace ho := own_below ho hbq
    replace BP := BP.below hbq
    replace ho2 := own_below ho2 hbq
    clear hbq kb0 kb1
    have kb0 := blk_cell BP (j := 0) rfl
    have kb1 := blk_cell BP (j := 1) rfl
    clear HT
    have HT : Calls Try.prog 17 #[.agg #[.int .i64 p.kinds, .slice A1 p.over.length c1]] w6 fun en w' => en = .returned (.bool true) ∧ Below w6.heap.size w6 w' := by
      have h0 := isPrec_any A1 c1 p w6 hn (own_rd ho)
      rw [eg] at h0; exact h0
    go_wp2_with fail
    refine (HT).mono ?_
    rintro e W ⟨rfl, hbq⟩
    replace hb := btr hb hbq
    replace ho := own_below ho hbq
    replace BP := BP.below hbq
    replace ho2 := own_below ho2 hbq
    clear hbq kb0 kb1
    have kb0 := blk_cell BP (j := 0) rfl
    have kb1 := blk_cell BP (j := 1) rfl
    clear HT
    have hxC := own_rd ho2
    have hb0 := Below.refl W.heap.size W
    go_wp2_with fail
    go_loopw [12, 13, 14] (fun q _ _ wr => ∃ i : Nat, i ≤ CY.length ∧ q = .int .i64 i ∧ Below W.heap.size W wr) (fun q _ _ _ => CY.length - (intOf q).toNat)
    case atStart => exact ⟨0, by omega, rfl, hb0⟩
    case round =>
      clear hb0
      obtain ⟨i, hi, rfl, hbr⟩ := hrel
      replace ho := own_below ho hbr
      replace BP := BP.below hbr
      replace hxC := hxC.below hbr
      clear kb0 kb1
      have kb0 := blk_cell BP (j := 0) rfl
      have kb1 := blk_cell BP (j := 1) rfl
      by_cases hlt : i < CY.length
      · obtain ⟨Y, hY8, eY, hh1, hj, hh2⟩ := HCY.out i hlt
        obtain ⟨b1, off1, eA, d0⟩ := Rd.ints hxC hlt
        obtain ⟨b2, off2, eB, d1⟩ := Rd.ints hxC hj
        rw [eA] at eB
        cases eB
        subst eA
        have hiI : (i : Int) < (CY.length : Int) := by omega
        have hjI : (((i + 1) % CY.length : Nat) : Int) < (CY.length : Int) := by omega
        have hiw : IntKind.i64.wrap ((i : Int) + 1) = (i : Int) + 1 := by rw [IntKind.wrap_i64]; omega
        have hrm : ((i : Int) + 1).tmod (CY.length : Int) = (((i + 1) % CY.length : Nat) : Int) := by rw [Int.tmod_eq_emod_of_nonneg (by omega)]; first | exact (Int.natCast_emod (i + 1) CY.length).symm | exact (Int.ofNat_emod (i + 1) CY.length).symm | (push_cast; rfl)
        have hrmw : IntKind.i64.wrap (((i + 1) % CY.length : Nat) : Int) = (((i + 1) % CY.length : Nat) : Int) := by rw [IntKind.wrap_i64]; omega
        have hz0 : ((CY.length : Int) == 0) = false := by rw [beq_eq_false_iff_ne]; omega
        have hz1 : ¬ (CY.length : Int) = 0 := by omega
        have HY : Hid (∀ w1, Below wr.drew.heap.size wr.drew w1 → Calls Try.prog 22 #[.agg #[.int .i64 p.kinds, .slice A1 p.over.length c1], .int .i64 CY[i]] w1 fun en w' => ∃ A' c', en = .returned (.tuple #[.slice A' Y.length c', .bool true]) ∧ w'.ownsRow w1.heap.size 3 1 (.slice A' Y.length c') Y.length (intCells Y) ∧ Below w1.heap.size w1 w') := fun w1 h1 => by
          have h0 := yieldsT_any A1 c1 p CY[i] w1 hn (own_le ho) (((own_rd ho).drew).below h1)
          rw [eY] at h0
          exact h0
        generalize CY[(i + 1) % CY.length] = vj at *
        generalize CY[i] = vi at *
        generalize (i + 1) % CY.length = j at *
        have hbd := (Below.refl wr.heap.size wr).drew
        have g0 := cell_cl (w := wr.drew) (cell_bel kb0 hbd)
        have g1 := cell_cl (w := wr.drew) (cell_bel kb1 hbd)
        have g2 := cell_cl (w := wr.drew) (cell_bel d0 hbd)
        go_wp2_with fail
        refine wp_loose0 (U := fun _ => undef) (τ := lk [(5, yS wr.drew.heap.size 3 Y true)]) (F := []) (by kernel_rfl) (by kernel_rfl) (fits_of rfl (by kernel_rfl)) (inv_start (by intro r s h; have := lk_mem h; simp at this; (first | omega | (simp only [List.length_cons, List.length_nil]; omega)))) ?_
        refine wpL_quiet 5 rfl rfl ?_
        simp only [List.take_succ_cons, List.take_zero, List.drop_succ_cons, List.drop_zero]
        repeat (go_big_quiet_step (fail))
        refine wpQuiet_nil ?_
        refine gives_loose rfl (ob_y (fun w1 h1 => by simp [stepTo, stepUpon, go_sem]; exact (HY.out w1 (clP_below h1)).mono fun e w2 ⟨A2, c2, he, ho2, hb2⟩ => ⟨_, he, A2, c2, rfl, ho2, hb2⟩)) ?_
        rintro u5 ⟨A5, c5, rfl⟩
        simp only [Act.put, List.setIfInBounds_toArray, List.set_cons_zero, List.set_cons_succ]
        refine wpL_quiet 5 rfl rfl ?_
        simp only [List.take_succ_cons, List.take_zero, List.drop_succ_cons, List.drop_zero]
        repeat (go_big_quiet_step (fail))
        refine wpQuiet_nil ?_
        refine wpL_nil ?_
        intro w8 hEnd
        obtain ⟨A8, c8, e8, hRow⟩ := ends_get hEnd 5 (s := yS wr.drew.heap.size 3 Y true) rfl rfl
        simp only [upd] at e8
        have hoY : w8.ownsRow wr.drew.heap.size 3 1 (.slice A5 Y.length c5) Y.length (intCells Y) := by
          have e9 : (Value.tuple #[.slice A5 Y.length c5, .bool true]) = .tuple #[.slice A8 Y.length c8, .bool true] := by simpa using e8
          simp only [Value.tuple.injEq, Array.mk.injEq, List.cons.injEq, Value.slice.injEq, and_true, true_and] at e9
          obtain ⟨rfl, rfl⟩ := e9
          exact hRow
        have hbW8 : Below wr.heap.size wr w8 := btr hbd (ends_below hEnd)
        clear hEnd e8 hRow g0 g1 g2 hbd
        have HH1 : Hid (∀ w1, Below w8.heap.size w8 w1 → Calls Try.prog 46 #[.slice A5 Y.length c5, .int .i64 vj] w1 fun e w' => e = .returned (.bool true) ∧ w1 = w') := fun w1 h1 => by
          have h0 := vHas_any A5 c5 Y vj w1 (by unfold maxLen; omega) ((own_rd hoY).below h1)
          rw [hh2] at h0; exact h0
        have HH2 : Hid (∀ w1, Below w8.heap.size w8 w1 → Calls Try.prog 46 #[.slice A5 Y.length c5, .int .i64 vi] w1 fun e w' => e = .returned (.bool true) ∧ w1 = w') := fun w1 h1 => by
          have h0 := vHas_any A5 c5 Y vi w1 (by unfold maxLen; omega) ((own_rd hoY).below h1)
          rw [hh1] at h0; exact h0
        replace d0 := cell_bel d0 hbW8
        replace d1 := cell_bel d1 hbW8
        clear hh1 hh2 hj eY
        go_wp2_with fail
        refine (HH1.out _ (Below.refl _ _)).mono ?_
        rintro e w9 ⟨rfl, rfl⟩
        clear HH1
        go_wp2_with fail
        refine (HH2.out _ (Below.refl _ _)).mono ?_
        rintro e w9 ⟨rfl, rfl⟩
        clear HH2
        go_wp2_with fail
        go_roundw
        case rel => exact ⟨i + 1, by omega, by go_num, btr hbr hbW8⟩
        case measure => simp [intOf]; omega
      · have hiI : ¬ (i : Int) < (CY.length : Int) := by omega
        replace hb := btr hb hbr
        clear hxC ho2 HCY
        generalize wr = W at *
        go_wp2_with fail
        have HT : Calls Try.prog 39 #[.agg #[.int .i64 p.kinds, .slice A1 p.over.length c1]] W fun en w' => ∃ A' c', en = .returned (.tuple #[.slice A' OR.length c', .bool true]) ∧ w'.ownsRow W.heap.size 3 1 (.slice A' OR.length c') OR.length (intCells OR) ∧ Below W.heap.size W w' := by
          have h0 := orderK_any A1 c1 p W hn (own_le ho) (own_rd ho)
          rw [e3] at h0; exact h0
        refine (HT).mono ?_
        rintro e w2 ⟨A4, c4, rfl, ho4, hbq⟩
        replace hb := btr hb hbq
        replace ho := own_below ho hbq
        replace BP := BP.below hbq
        clear hbq kb0 kb1
        have kb0 := blk_cell BP (j := 0) rfl
        have kb1 := blk_cell BP (j := 1) rfl
        clear HT
        go_wp2_with fail
        have HT : Calls Try.prog 38 #[.agg #[.int .i64 p.kinds, .slice A1 p.over.length c1]] w2 fun en w' => ∃ A' c', en = .returned (.tuple #[.slice A' OR.length c', .bool true]) ∧ w'.ownsRow w2.heap.size 3 1 (.slice A' OR.length c') OR.length (intCells OR) ∧ Below w2.heap.size w2 w' := by
          have h0 := specOrderK_any A1 c1 p w2 hn (own_le ho) (own_rd ho)
          rw [e3] at h0; exact h0
        refine (HT).mono ?_
        rintro e w3 ⟨A5, c5, rfl, ho5, hbq⟩
        replace hb := btr hb hbq
        replace ho := own_below ho hbq
        replace BP := BP.below hbq
        replace ho4 := own_below ho4 hbq
        clear hbq kb0 kb1
        have kb0 := blk_cell BP (j := 0) rfl
        have kb1 := blk_cell BP (j := 1) rfl
        clear HT
        go_wp2_with fail
        refine (vInts_any A4 A5 c4 c5 OR w3 (by unfold maxLen; omega) (own_rd ho4) (own_rd ho5)).mono ?_
        rintro e w4 ⟨rfl, hbq⟩
        replace hb := btr hb hbq
        replace ho := own_below ho hbq
        replace BP := BP.below hbq
        replace ho4 := own_below ho4 hbq
        clear hbq kb0 kb1
        have kb0 := blk_cell BP (j := 0) rfl
        have kb1 := blk_cell BP (j := 1) rfl
        clear ho5
        go_wp2_with fail
        have HT : Calls Try.prog 37 #[.agg #[.int .i64 p.kinds, .slice A1 p.over.length c1]] w4 fun en w' => ∃ A' c', en = .returned (.tuple #[.slice A' RK.length c', .bool true]) ∧ w'.ownsRow w4.heap.size 3 1 (.slice A' RK.length c') RK.length (intCells RK) ∧ Below w4.heap.size w4 w' := by
          have h0 := ranksOf_any A1 c1 p w4 hn (own_le ho) (own_rd ho)
          rw [e4] at h0; exact h0
        refine (HT).mono ?_
        rintro e w5 ⟨A6, c6, rfl, ho6, hbq⟩
        replace hb := btr hb hbq
        replace ho := own_below ho hbq
        replace BP := BP.below hbq
        replace ho4 := own_below ho4 hbq
        clear hbq kb0 kb1
        have kb0 := blk_cell BP (j := 0) rfl
        have kb1 := blk_cell BP (j := 1) rfl
        clear HT
        go_wp2_with fail
        have HT : Calls Try.prog 36 #[.agg #[.int .i64 p.kinds, .slice A1 p.over.length c1]] w5 fun en w' => ∃ A' c', en = .returned (.tuple #[.slice A' RK.length c', .bool true]) ∧ w'.ownsRow w5.heap.size 3 1 (.slice A' RK.length c') RK.length (intCells RK) ∧ Below w5.heap.size w5 w' := by
          have h0 := specRanksOf_any A1 c1 p w5 hn (own_le ho) (own_rd ho)
          rw [e4] at h0; exact h0
        refine (HT).mono ?_
        rintro e w6 ⟨A7, c7, rfl, ho7, hbq⟩
        replace hb := btr hb hbq
        replace ho := own_below ho hbq
        replace BP := BP.below hbq
        replace ho4 := own_below ho4 hbq
        replace ho6 := own_below ho6 hbq
        clear hbq kb0 kb1
        have kb0 := blk_cell BP (j := 0) rfl
        have kb1 := blk_cell BP (j := 1) rfl
        clear HT
        go_wp2_with fail
        refine (vInts_any A6 A7 c6 c7 RK w6 (by unfold maxLen; omega) (own_rd ho6) (own_rd ho7)).mono ?_
        rintro e W ⟨rfl, hbq⟩
        replace hb := btr hb hbq
        replace ho := own_below ho hbq
        replace BP := BP.below hbq
        replace ho4 := own_below ho4 hbq
        replace ho6 := own_below ho6 hbq
        clear hbq kb0 kb1
        have kb0 := blk_cell BP (j := 0) rfl
        have kb1 := blk_cell BP (j := 1) rfl
        clear ho7
        have hxO := own_rd ho4
        have hb0 := Below.refl W.heap.size W
        go_wp2_with fail
        go_loopw [23, 24, 25, 26] (fun q _ _ _ wr => ∃ i : Nat, i ≤ OR.length ∧ q = .int .i64 i ∧ Below W.heap.size W wr) (fun q _ _ _ _ => OR.length - (intOf q).toNat)
        case atStart => exact ⟨0, by omega, rfl, hb0⟩
        case round =>
          clear hb0
          obtain ⟨i, hi, rfl, hbr⟩ := hrel
          by_cases hlt : i < OR.length
          · have hiI : (i : Int) < (OR.length : Int) := by omega
            go_wp2_with fail
            generalize wr = wo at *
            go_loopw [24, 25, 26] (fun q _ _ wr => ∃ k : Nat, k ≤ i ∧ q = .int .i64 k ∧ Below W.heap.size W wr) (fun q _ _ _ => i - (intOf q).toNat)
            case atStart => exact ⟨0, by omega, rfl, hbr⟩
            case round =>
              clear hbr
              obtain ⟨k, hk, rfl, hbr⟩ := hrel
              by_cases hki : k < i
              · have hkI : (k : Int) < (i : Int) := by omega
                have hkl : k < OR.length := by omega
                have hkO : (k : Int) < (OR.length : Int) := by omega
                replace ho := own_below ho hbr
                replace BP := BP.below hbr
                replace hxO := hxO.below hbr
                clear kb0 kb1
                have kb0 := blk_cell BP (j := 0) rfl
                have kb1 := blk_cell BP (j := 1) rfl
                obtain ⟨Y, hY8, eY, hh1⟩ := HOR.out i k hlt hkl hki
                obtain ⟨b1, off1, eA, d0⟩ := Rd.ints hxO hlt
                obtain ⟨b2, off2, eB, d1⟩ := Rd.ints hxO hkl
                rw [eA] at eB
                cases eB
                subst eA
                have HY : Hid (∀ w1, Below wr.drew.heap.size wr.drew w1 → Calls Try.prog 22 #[.agg #[.int .i64 p.kinds, .slice A1 p.over.length c1], .int .i64 OR[i]] w1 fun en w' => ∃ A' c', en = .returned (.tuple #[.slice A' Y.length c', .bool true]) ∧ w'.ownsRow w1.heap.size 3 1 (.slice A' Y.length c') Y.length (intCells Y) ∧ Below w1.heap.size w1 w') := fun w1 h1 => by
                  have h0 := yieldsT_any A1 c1 p OR[i] w1 hn (own_le ho) (((own_rd ho).drew).below h1)
                  rw [eY] at h0
                  exact h0
                generalize OR[k] = vj at *
                generalize OR[i] = vi at *
                have hbd := (Below.refl wr.heap.size wr).drew
                have g0 := cell_cl (w := wr.drew) (cell_bel kb0 hbd)
                have g1 := cell_cl (w := wr.drew) (cell_bel kb1 hbd)
                have g2 := cell_cl (w := wr.drew) (cell_bel d0 hbd)
                go_wp2_with fail
                refine wp_loose0 (U := fun _ => undef) (τ := lk [(5, yS wr.drew.heap.size 3 Y true)]) (F := []) (by kernel_rfl) (by kernel_rfl) (fits_of rfl (by kernel_rfl)) (inv_start (by intro r s h; have := lk_mem h; simp at this; (first | omega | (simp only [List.length_cons, List.length_nil]; omega)))) ?_
                refine wpL_quiet 5 rfl rfl ?_
                simp only [List.take_succ_cons, List.take_zero, List.drop_succ_cons, List.drop_zero]
                repeat (go_big_quiet_step (fail))
                refine wpQuiet_nil ?_
                refine gives_loose rfl (ob_y (fun w1 h1 => by simp [stepTo, stepUpon, go_sem]; exact (HY.out w1 (clP_below h1)).mono fun e w2 ⟨A2, c2, he, ho2, hb2⟩ => ⟨_, he, A2, c2, rfl, ho2, hb2⟩)) ?_
                rintro u5 ⟨A5, c5, rfl⟩
                simp only [Act.put, List.setIfInBounds_toArray, List.set_cons_zero, List.set_cons_succ]
                refine wpL_quiet 5 rfl rfl ?_
                simp only [List.take_succ_cons, List.take_zero, List.drop_succ_cons, List.drop_zero]
                repeat (go_big_quiet_step (fail))
                refine wpQuiet_nil ?_
                refine wpL_nil ?_
                intro w8 hEnd
                obtain ⟨A8, c8, e8, hRow⟩ := ends_get hEnd 5 (s := yS wr.drew.heap.size 3 Y true) rfl rfl
                simp only [upd] at e8
                have hoY : w8.ownsRow wr.drew.heap.size 3 1 (.slice A5 Y.length c5) Y.length (intCells Y) := by
                  have e9 : (Value.tuple #[.slice A5 Y.length c5, .bool true]) = .tuple #[.slice A8 Y.length c8, .bool true] := by simpa using e8
                  simp only [Value.tuple.injEq, Array.mk.injEq, List.cons.injEq, Value.slice.injEq, and_true, true_and] at e9
                  obtain ⟨rfl, rfl⟩ := e9
                  exact hRow
                have hbW8 : Below wr.heap.size wr w8 := btr hbd (ends_below hEnd)
                clear hEnd e8 hRow g0 g1 g2 hbd
                have HH1 : Hid (∀ w1, Below w8.heap.size w8 w1 → Calls Try.prog 46 #[.slice A5 Y.length c5, .int .i64 vj] w1 fun e w' => e = .returned (.bool false) ∧ w1 = w') := fun w1 h1 => by
                  have h0 := vHas_any A5 c5 Y vj w1 (by unfold maxLen; omega) ((own_rd hoY).below h1)
                  rw [hh1] at h0; exact h0
                replace d1 := cell_bel d1 hbW8
                clear hh1 eY
                go_wp2_with (go_at_call 46; refine (HH1.out _ (Below.refl _ _)).mono ?_; rintro e w9 ⟨rfl, rfl⟩)
                go_roundw
                case rel => exact ⟨k + 1, by omega, by go_num, btr hbr hbW8⟩
                case measure => simp [intOf]; omega
              · have hkI : ¬ (k : Int) < (i : Int) := by omega
                go_wp2_with fail
                go_roundw
                case rel => exact ⟨i + 1, by omega, by go_num, hbr⟩
                case measure => simp [intOf]; omega
          · have hiI : ¬ (i : Int) < (OR.length : Int) := by omega
            replace hb := btr hb hbr
            replace ho := own_below ho hbr
            replace BP := BP.below hbr
            replace ho6 := own_below ho6 hbr
            clear hxO ho4 HOR kb0 kb1
            generalize wr = W at *
            have kb0 := blk_cell BP (j := 0) rfl
            have kb1 := blk_cell BP (j := 1) rfl
            have hxR := own_rd ho6
            have hxP := own_rd ho
            have hb0 := Below.refl W.heap.size W
            go_wp2_with fail
            go_loopw [27] (fun q wr => ∃ i : Nat, i ≤ p.over.length ∧ q = .int .i64 i ∧ Below W.heap.size W wr) (fun q _ => p.over.length - (intOf q).toNat)
            case atStart => exact ⟨0, by omega, rfl, hb0⟩
            case round =>
              clear hb0
              obtain ⟨i, hi, rfl, hbr⟩ := hrel
              replace BP := BP.below hbr
              replace hxR := hxR.below hbr
              replace hxP := hxP.below hbr
              clear kb0 kb1
              have kb0 := blk_cell BP (j := 0) rfl
              have kb1 := blk_cell BP (j := 1) rfl
              by_cases hlt : i < p.over.length
              · obtain ⟨a, b', ha, hb', ea, eb, hab⟩ := HRK.out _ (List.getElem_mem hlt)
                obtain ⟨b1, off1, eA, c0, c1'⟩ := Rd.pr hxP hlt
                obtain ⟨b2, off2, eB, d0⟩ := Rd.ints hxR ha
                obtain ⟨b3, off3, eC, d1⟩ := Rd.ints hxR hb'
                rw [eB] at eC
                cases eC
                subst eB
                subst eA
                rw [ea] at c0
                rw [eb] at c1'
                have hiI : (i : Int) < (p.over.length : Int) := by omega
                have hiD : decide ((i : Int) < (p.over.length : Int)) = true := by simpa using hiI
                have haI : (a : Int) < (RK.length : Int) := by omega
                have hbI : (b' : Int) < (RK.length : Int) := by omega
                generalize RK[a] = ra at *
                generalize RK[b'] = rb at *
                have hge : ¬ rb ≤ ra := by omega
                have hge2 : decide (rb ≤ ra) = false := by simpa using hge
                have g0 := cell_after kb0
                have g1 := cell_after kb1
                have g2 := cell_after c0
                have g3 := cell_after c1'
                have g4 := cell_after d0
                have g5 := cell_after d1
                clear hab ea eb
                go_wp2_with fail
                refine wp_region_after (by kernel_rfl) (by kernel_rfl) ?_
                repeat (go_big_quiet_step (fail))
                refine wpQuiet_nil ?_
                intro nq
                have hb2 := btr hbr nq.bel
                generalize nq.val = W1 at *
                go_wp2_with fail
                go_roundw
                case rel => exact ⟨i + 1, by omega, by go_num, hb2⟩
                case measure => simp [intOf]; omega
              · have hiI : ¬ (i : Int) < (p.over.length : Int) := by omega
                have hiD : decide ((i : Int) < (p.over.length : Int)) = false := by simp; omega
                replace hb := btr hb hbr
                go_wp2
                go_ret
                exact ⟨rfl, hb⟩
  · clear HRK0
    have HT : Calls Try.prog 35 #[.agg #[.int .i64 p.kinds, .slice A1 p.over.length c1]] W fun en w' => ∃ A' c', en = .returned (.tuple #[.slice A' CY.length c', .bool true]) ∧ w'.ownsRow W.heap.size 3 1 (.slice A' CY.length c') CY.length (intCells CY) ∧ Below W.heap.size W w' := by
      have h0 := cycle_any A1 c1 p W hn (own_le ho) (own_rd ho)
      rw [e1] at h0; exact h0
    refine (HT).mono ?_
    rintro e w2 ⟨A2, c2, rfl, ho2, hbq⟩
    replace hb := btr hb hbq
    replace ho := own_below ho hbq
    replace BP := BP.below hbq
    clear hbq kb0 kb1
    have kb0 := blk_cell BP (j := 0) rfl
    have kb1 := blk_cell BP (j := 1) rfl
    clear HT
    go_wp2_with fail
    have HT : Calls Try.prog 34 #[.agg #[.int .i64 p.kinds, .slice A1 p.over.length c1]] w2 fun en w' => ∃ A' c', en = .returned (.tuple #[.slice A' CY.length c', .bool true]) ∧ w'.ownsRow w2.heap.size 3 1 (.slice A' CY.length c') CY.length (intCells CY) ∧ Below w2.heap.size w2 w' := by
      have h0 := specCycle_any A1 c1 p w2 hn (own_le ho) (own_rd ho)
      rw [e1] at h0; exact h0
    refine (HT).mono ?_
    rintro e w3 ⟨A3, c3, rfl, ho3, hbq⟩
    replace hb := btr hb hbq
    replace ho := own_below ho hbq
    replace BP := BP.below hbq
    replace ho2 := own_below ho2 hbq
    clear hbq kb0 kb1
    have kb0 := blk_cell BP (j := 0) rfl
    have kb1 := blk_cell BP (j := 1) rfl
    clear HT
    go_wp2_with fail
    refine (vInts_any A2 A3 c2 c3 CY w3 (by unfold maxLen; omega) (own_rd ho2) (own_rd ho3)).mono ?_
    rintro e w4 ⟨rfl, hbq⟩
    replace hb := btr hb hbq
    replace ho := own_below ho hbq
    replace BP := BP.below hbq
    replace ho2 := own_below ho2 hbq
    clear hbq kb0 kb1
    have kb0 := blk_cell BP (j := 0) rfl
    have kb1 := blk_cell BP (j := 1) rfl
    clear ho3
    go_wp2_with fail
    have HT : Calls Try.prog 20 #[.agg #[.int .i64 p.kinds, .slice A1 p.over.length c1]] w4 fun en w' => en = .returned (.tuple #[.bool false, .bool true]) ∧ Below w4.heap.size w4 w' := by
      have h0 := IsSound_any A1 c1 p w4 hn (own_le ho) (own_rd ho)
      rw [e2] at h0; exact h0
    refine (HT).mono ?_
    rintro e w5 ⟨rfl, hbq⟩
    replace hb := btr hb hbq
    replace ho := own_below ho hbq
    replace BP := BP.below hbq
    replace ho2 := own_below ho2 hbq
    clear hbq kb0 kb1
    have kb0 := blk_cell BP (j := 0) rfl
    have kb1 := blk_cell BP (j := 1) rfl
    clear HT
    go_wp2_with fail
    have HT : Calls Try.prog 19 #[.agg #[.int .i64 p.kinds, .slice A1 p.over.length c1]] w5 fun en w' => en = .returned (.tuple #[.bool false, .bool true]) ∧ Below w5.heap.size w5 w' := by
      have h0 := specIsSound_any A1 c1 p w5 hn (own_le ho) (own_rd ho)
      rw [e2] at h0; exact h0
    refine (HT).mono ?_
    rintro e w6 ⟨rfl, hbq⟩
    replace hb := btr hb hbq
    replace ho := own_below ho hbq
    replace BP := BP.below hbq
    replace ho2 := own_below ho2 hbq
    clear hbq kb0 kb1
    have kb0 := blk_cell BP (j := 0) rfl
    have kb1 := blk_cell BP (j := 1) rfl
    clear HT
    have HT : Calls Try.prog 17 #[.agg #[.int .i64 p.kinds, .slice A1 p.over.length c1]] w6 fun en w' => en = .returned (.bool true) ∧ Below w6.heap.size w6 w' := by
      have h0 := isPrec_any A1 c1 p w6 hn (own_rd ho)
      rw [eg] at h0; exact h0
    go_wp2_with fail
    refine (HT).mono ?_
    rintro e W ⟨rfl, hbq⟩
    replace hb := btr hb hbq
    replace ho := own_below ho hbq
    replace BP := BP.below hbq
    replace ho2 := own_below ho2 hbq
    clear hbq kb0 kb1
    have kb0 := blk_cell BP (j := 0) rfl
    have kb1 := blk_cell BP (j := 1) rfl
    clear HT
    have hxC := own_rd ho2
    have hb0 := Below.refl W.heap.size W
    go_wp2_with fail
    go_loopw [12, 13, 14] (fun q _ _ wr => ∃ i : Nat, i ≤ CY.length ∧ q = .int .i64 i ∧ Below W.heap.size W wr) (fun q _ _ _ => CY.length - (intOf q).toNat)
    case atStart => exact ⟨0, by omega, rfl, hb0⟩
    case round =>
      clear hb0
      obtain ⟨i, hi, rfl, hbr⟩ := hrel
      replace ho := own_below ho hbr
      replace BP := BP.below hbr
      replace hxC := hxC.below hbr
      clear kb0 kb1
      have kb0 := blk_cell BP (j := 0) rfl
      have kb1 := blk_cell BP (j := 1) rfl
      by_cases hlt : i < CY.length
      · obtain ⟨Y, hY8, eY, hh1, hj, hh2⟩ := HCY.out i hlt
        obtain ⟨b1, off1, eA, d0⟩ := Rd.ints hxC hlt
        obtain ⟨b2, off2, eB, d1⟩ := Rd.ints hxC hj
        rw [eA] at eB
        cases eB
        subst eA
        have hiI : (i : Int) < (CY.length : Int) := by omega
        have hjI : (((i + 1) % CY.length : Nat) : Int) < (CY.length : Int) := by omega
        have hiw : IntKind.i64.wrap ((i : Int) + 1) = (i : Int) + 1 := by rw [IntKind.wrap_i64]; omega
        have hrm : ((i : Int) + 1).tmod (CY.length : Int) = (((i + 1) % CY.length : Nat) : Int) := by rw [Int.tmod_eq_emod_of_nonneg (by omega)]; first | exact (Int.natCast_emod (i + 1) CY.length).symm | exact (Int.ofNat_emod (i + 1) CY.length).symm | (push_cast; rfl)
        have hrmw : IntKind.i64.wrap (((i + 1) % CY.length : Nat) : Int) = (((i + 1) % CY.length : Nat) : Int) := by rw [IntKind.wrap_i64]; omega
        have hz0 : ((CY.length : Int) == 0) = false := by rw [beq_eq_false_iff_ne]; omega
        have hz1 : ¬ (CY.length : Int) = 0 := by omega
        have HY : Hid (∀ w1, Below wr.drew.heap.size wr.drew w1 → Calls Try.prog 22 #[.agg #[.int .i64 p.kinds, .slice A1 p.over.length c1], .int .i64 CY[i]] w1 fun en w' => ∃ A' c', en = .returned (.tuple #[.slice A' Y.length c', .bool true]) ∧ w'.ownsRow w1.heap.size 3 1 (.slice A' Y.length c') Y.length (intCells Y) ∧ Below w1.heap.size w1 w') := fun w1 h1 => by
          have h0 := yieldsT_any A1 c1 p CY[i] w1 hn (own_le ho) (((own_rd ho).drew).below h1)
          rw [eY] at h0
          exact h0
        generalize CY[(i + 1) % CY.length] = vj at *
        generalize CY[i] = vi at *
        generalize (i + 1) % CY.length = j at *
        have hbd := (Below.refl wr.heap.size wr).drew
        have g0 := cell_cl (w := wr.drew) (cell_bel kb0 hbd)
        have g1 := cell_cl (w := wr.drew) (cell_bel kb1 hbd)
        have g2 := cell_cl (w := wr.drew) (cell_bel d0 hbd)
        go_wp2_with fail
        refine wp_loose0 (U := fun _ => undef) (τ := lk [(5, yS wr.drew.heap.size 3 Y true)]) (F := []) (by kernel_rfl) (by kernel_rfl) (fits_of rfl (by kernel_rfl)) (inv_start (by intro r s h; have := lk_mem h; simp at this; (first | omega | (simp only [List.length_cons, List.length_nil]; omega)))) ?_
        refine wpL_quiet 5 rfl rfl ?_
        simp only [List.take_succ_cons, List.take_zero, List.drop_succ_cons, List.drop_zero]
        repeat (go_big_quiet_step (fail))
        refine wpQuiet_nil ?_
        refine gives_loose rfl (ob_y (fun w1 h1 => by simp [stepTo, stepUpon, go_sem]; exact (HY.out w1 (clP_below h1)).mono fun e w2 ⟨A2, c2, he, ho2, hb2⟩ => ⟨_, he, A2, c2, rfl, ho2, hb2⟩)) ?_
        rintro u5 ⟨A5, c5, rfl⟩
        simp only [Act.put, List.setIfInBounds_toArray, List.set_cons_zero, List.set_cons_succ]
        refine wpL_quiet 5 rfl rfl ?_
        simp only [List.take_succ_cons, List.take_zero, List.drop_succ_cons, List.drop_zero]
        repeat (go_big_quiet_step (fail))
        refine wpQuiet_nil ?_
        refine wpL_nil ?_
        intro w8 hEnd
        obtain ⟨A8, c8, e8, hRow⟩ := ends_get hEnd 5 (s := yS wr.drew.heap.size 3 Y true) rfl rfl
        simp only [upd] at e8
        have hoY : w8.ownsRow wr.drew.heap.size 3 1 (.slice A5 Y.length c5) Y.length (intCells Y) := by
          have e9 : (Value.tuple #[.slice A5 Y.length c5, .bool true]) = .tuple #[.slice A8 Y.length c8, .bool true] := by simpa using e8
          simp only [Value.tuple.injEq, Array.mk.injEq, List.cons.injEq, Value.slice.injEq, and_true, true_and] at e9
          obtain ⟨rfl, rfl⟩ := e9
          exact hRow
        have hbW8 : Below wr.heap.size wr w8 := btr hbd (ends_below hEnd)
        clear hEnd e8 hRow g0 g1 g2 hbd
        have HH1 : Hid (∀ w1, Below w8.heap.size w8 w1 → Calls Try.prog 46 #[.slice A5 Y.length c5, .int .i64 vj] w1 fun e w' => e = .returned (.bool true) ∧ w1 = w') := fun w1 h1 => by
          have h0 := vHas_any A5 c5 Y vj w1 (by unfold maxLen; omega) ((own_rd hoY).below h1)
          rw [hh2] at h0; exact h0
        have HH2 : Hid (∀ w1, Below w8.heap.size w8 w1 → Calls Try.prog 46 #[.slice A5 Y.length c5, .int .i64 vi] w1 fun e w' => e = .returned (.bool true) ∧ w1 = w') := fun w1 h1 => by
          have h0 := vHas_any A5 c5 Y vi w1 (by unfold maxLen; omega) ((own_rd hoY).below h1)
          rw [hh1] at h0; exact h0
        replace d0 := cell_bel d0 hbW8
        replace d1 := cell_bel d1 hbW8
        clear hh1 hh2 hj eY
        go_wp2_with fail
        refine (HH1.out _ (Below.refl _ _)).mono ?_
        rintro e w9 ⟨rfl, rfl⟩
        clear HH1
        go_wp2_with fail
        refine (HH2.out _ (Below.refl _ _)).mono ?_
        rintro e w9 ⟨rfl, rfl⟩
        clear HH2
        go_wp2_with fail
        go_roundw
        case rel => exact ⟨i + 1, by omega, by go_num, btr hbr hbW8⟩
        case measure => simp [intOf]; omega
      · have hiI : ¬ (i : Int) < (CY.length : Int) := by omega
        replace hb := btr hb hbr
        clear hxC ho2 HCY
        generalize wr = W at *
        go_wp2_with fail
        have HT : Calls Try.prog 39 #[.agg #[.int .i64 p.kinds, .slice A1 p.over.length c1]] W fun en w' => ∃ A' c', en = .returned (.tuple #[.slice A' OR.length c', .bool false]) ∧ w'.ownsRow W.heap.size 3 1 (.slice A' OR.length c') OR.length (intCells OR) ∧ Below W.heap.size W w' := by
          have h0 := orderK_any A1 c1 p W hn (own_le ho) (own_rd ho)
          rw [e3] at h0; exact h0
        refine (HT).mono ?_
        rintro e w2 ⟨A4, c4, rfl, ho4, hbq⟩
        replace hb := btr hb hbq
        replace ho := own_below ho hbq
        replace BP := BP.below hbq
        clear hbq kb0 kb1
        have kb0 := blk_cell BP (j := 0) rfl
        have kb1 := blk_cell BP (j := 1) rfl
        clear HT
        go_wp2_with fail
        have HT : Calls Try.prog 38 #[.agg #[.int .i64 p.kinds, .slice A1 p.over.length c1]] w2 fun en w' => ∃ A' c', en = .returned (.tuple #[.slice A' OR.length c', .bool false]) ∧ w'.ownsRow w2.heap.size 3 1 (.slice A' OR.length c') OR.length (intCells OR) ∧ Below w2.heap.size w2 w' := by
          have h0 := specOrderK_any A1 c1 p w2 hn (own_le ho) (own_rd ho)
          rw [e3] at h0; exact h0
        refine (HT).mono ?_
        rintro e w3 ⟨A5, c5, rfl, ho5, hbq⟩
        replace hb := btr hb hbq
        replace ho := own_below ho hbq
        replace BP := BP.below hbq
        replace ho4 := own_below ho4 hbq
        clear hbq kb0 kb1
        have kb0 := blk_cell BP (j := 0) rfl
        have kb1 := blk_cell BP (j := 1) rfl
        clear HT
        go_wp2_with fail
        refine (vInts_any A4 A5 c4 c5 OR w3 (by unfold maxLen; omega) (own_rd ho4) (own_rd ho5)).mono ?_
        rintro e w4 ⟨rfl, hbq⟩
        replace hb := btr hb hbq
        replace ho := own_below ho hbq
        replace BP := BP.below hbq
        replace ho4 := own_below ho4 hbq
        clear hbq kb0 kb1
        have kb0 := blk_cell BP (j := 0) rfl
        have kb1 := blk_cell BP (j := 1) rfl
        clear ho5
        go_wp2_with fail
        have HT : Calls Try.prog 37 #[.agg #[.int .i64 p.kinds, .slice A1 p.over.length c1]] w4 fun en w' => ∃ A' c', en = .returned (.tuple #[.slice A' RK.length c', .bool false]) ∧ w'.ownsRow w4.heap.size 3 1 (.slice A' RK.length c') RK.length (intCells RK) ∧ Below w4.heap.size w4 w' := by
          have h0 := ranksOf_any A1 c1 p w4 hn (own_le ho) (own_rd ho)
          rw [e4] at h0; exact h0
        refine (HT).mono ?_
        rintro e w5 ⟨A6, c6, rfl, ho6, hbq⟩
        replace hb := btr hb hbq
        replace ho := own_below ho hbq
        replace BP := BP.below hbq
        replace ho4 := own_below ho4 hbq
        clear hbq kb0 kb1
        have kb0 := blk_cell BP (j := 0) rfl
        have kb1 := blk_cell BP (j := 1) rfl
        clear HT
        go_wp2_with fail
        have HT : Calls Try.prog 36 #[.agg #[.int .i64 p.kinds, .slice A1 p.over.length c1]] w5 fun en w' => ∃ A' c', en = .returned (.tuple #[.slice A' RK.length c', .bool false]) ∧ w'.ownsRow w5.heap.size 3 1 (.slice A' RK.length c') RK.length (intCells RK) ∧ Below w5.heap.size w5 w' := by
          have h0 := specRanksOf_any A1 c1 p w5 hn (own_le ho) (own_rd ho)
          rw [e4] at h0; exact h0
        refine (HT).mono ?_
        rintro e w6 ⟨A7, c7, rfl, ho7, hbq⟩
        replace hb := btr hb hbq
        replace ho := own_below ho hbq
        replace BP := BP.below hbq
        replace ho4 := own_below ho4 hbq
        replace ho6 := own_below ho6 hbq
        clear hbq kb0 kb1
        have kb0 := blk_cell BP (j := 0) rfl
        have kb1 := blk_cell BP (j := 1) rfl
        clear HT
        go_wp2_with fail
        refine (vInts_any A6 A7 c6 c7 RK w6 (by unfold maxLen; omega) (own_rd ho6) (own_rd ho7)).mono ?_
        rintro e W ⟨rfl, hbq⟩
        replace hb := btr hb hbq
        replace ho := own_below ho hbq
        replace BP := BP.below hbq
        replace ho4 := own_below ho4 hbq
        replace ho6 := own_below ho6 hbq
        clear hbq kb0 kb1
        have kb0 := blk_cell BP (j := 0) rfl
        have kb1 := blk_cell BP (j := 1) rfl
        clear ho7
        have hxO := own_rd ho4
        have hb0 := Below.refl W.heap.size W
        go_wp2_with fail
        go_loopw [23, 24, 25, 26] (fun q _ _ _ wr => ∃ i : Nat, i ≤ OR.length ∧ q = .int .i64 i ∧ Below W.heap.size W wr) (fun q _ _ _ _ => OR.length - (intOf q).toNat)
        case atStart => exact ⟨0, by omega, rfl, hb0⟩
        case round =>
          clear hb0
          obtain ⟨i, hi, rfl, hbr⟩ := hrel
          by_cases hlt : i < OR.length
          · have hiI : (i : Int) < (OR.length : Int) := by omega
            go_wp2_with fail
            generalize wr = wo at *
            go_loopw [24, 25, 26] (fun q _ _ wr => ∃ k : Nat, k ≤ i ∧ q = .int .i64 k ∧ Below W.heap.size W wr) (fun q _ _ _ => i - (intOf q).toNat)
            case atStart => exact ⟨0, by omega, rfl, hbr⟩
            case round =>
              clear hbr
              obtain ⟨k, hk, rfl, hbr⟩ := hrel
              by_cases hki : k < i
              · have hkI : (k : Int) < (i : Int) := by omega
                have hkl : k < OR.length := by omega
                have hkO : (k : Int) < (OR.length : Int) := by omega
                replace ho := own_below ho hbr
                replace BP := BP.below hbr
                replace hxO := hxO.below hbr
                clear kb0 kb1
                have kb0 := blk_cell BP (j := 0) rfl
                have kb1 := blk_cell BP (j := 1) rfl
                obtain ⟨Y, hY8, eY, hh1⟩ := HOR.out i k hlt hkl hki
                obtain ⟨b1, off1, eA, d0⟩ := Rd.ints hxO hlt
                obtain ⟨b2, off2, eB, d1⟩ := Rd.ints hxO hkl
                rw [eA] at eB
                cases eB
                subst eA
                have HY : Hid (∀ w1, Below wr.drew.heap.size wr.drew w1 → Calls Try.prog 22 #[.agg #[.int .i64 p.kinds, .slice A1 p.over.length c1], .int .i64 OR[i]] w1 fun en w' => ∃ A' c', en = .returned (.tuple #[.slice A' Y.length c', .bool true]) ∧ w'.ownsRow w1.heap.size 3 1 (.slice A' Y.length c') Y.length (intCells Y) ∧ Below w1.heap.size w1 w') := fun w1 h1 => by
                  have h0 := yieldsT_any A1 c1 p OR[i] w1 hn (own_le ho) (((own_rd ho).drew).below h1)
                  rw [eY] at h0
                  exact h0
                generalize OR[k] = vj at *
                generalize OR[i] = vi at *
                have hbd := (Below.refl wr.heap.size wr).drew
                have g0 := cell_cl (w := wr.drew) (cell_bel kb0 hbd)
                have g1 := cell_cl (w := wr.drew) (cell_bel kb1 hbd)
                have g2 := cell_cl (w := wr.drew) (cell_bel d0 hbd)
                go_wp2_with fail
                refine wp_loose0 (U := fun _ => undef) (τ := lk [(5, yS wr.drew.heap.size 3 Y true)]) (F := []) (by kernel_rfl) (by kernel_rfl) (fits_of rfl (by kernel_rfl)) (inv_start (by intro r s h; have := lk_mem h; simp at this; (first | omega | (simp only [List.length_cons, List.length_nil]; omega)))) ?_
                refine wpL_quiet 5 rfl rfl ?_
                simp only [List.take_succ_cons, List.take_zero, List.drop_succ_cons, List.drop_zero]
                repeat (go_big_quiet_step (fail))
                refine wpQuiet_nil ?_
                refine gives_loose rfl (ob_y (fun w1 h1 => by simp [stepTo, stepUpon, go_sem]; exact (HY.out w1 (clP_below h1)).mono fun e w2 ⟨A2, c2, he, ho2, hb2⟩ => ⟨_, he, A2, c2, rfl, ho2, hb2⟩)) ?_
                rintro u5 ⟨A5, c5, rfl⟩
                simp only [Act.put, List.setIfInBounds_toArray, List.set_cons_zero, List.set_cons_succ]
                refine wpL_quiet 5 rfl rfl ?_
                simp only [List.take_succ_cons, List.take_zero, List.drop_succ_cons, List.drop_zero]
                repeat (go_big_quiet_step (fail))
                refine wpQuiet_nil ?_
                refine wpL_nil ?_
                intro w8 hEnd
                obtain ⟨A8, c8, e8, hRow⟩ := ends_get hEnd 5 (s := yS wr.drew.heap.size 3 Y true) rfl rfl
                simp only [upd] at e8
                have hoY : w8.ownsRow wr.drew.heap.size 3 1 (.slice A5 Y.length c5) Y.length (intCells Y) := by
                  have e9 : (Value.tuple #[.slice A5 Y.length c5, .bool true]) = .tuple #[.slice A8 Y.length c8, .bool true] := by simpa using e8
                  simp only [Value.tuple.injEq, Array.mk.injEq, List.cons.injEq, Value.slice.injEq, and_true, true_and] at e9
                  obtain ⟨rfl, rfl⟩ := e9
                  exact hRow
                have hbW8 : Below wr.heap.size wr w8 := btr hbd (ends_below hEnd)
                clear hEnd e8 hRow g0 g1 g2 hbd
                have HH1 : Hid (∀ w1, Below w8.heap.size w8 w1 → Calls Try.prog 46 #[.slice A5 Y.length c5, .int .i64 vj] w1 fun e w' => e = .returned (.bool false) ∧ w1 = w') := fun w1 h1 => by
                  have h0 := vHas_any A5 c5 Y vj w1 (by unfold maxLen; omega) ((own_rd hoY).below h1)
                  rw [hh1] at h0; exact h0
                replace d1 := cell_bel d1 hbW8
                clear hh1 eY
                go_wp2_with (go_at_call 46; refine (HH1.out _ (Below.refl _ _)).mono ?_; rintro e w9 ⟨rfl, rfl⟩)
                go_roundw
                case rel => exact ⟨k + 1, by omega, by go_num, btr hbr hbW8⟩
                case measure => simp [intOf]; omega
              · have hkI : ¬ (k : Int) < (i : Int) := by omega
                go_wp2_with fail
                go_roundw
                case rel => exact ⟨i + 1, by omega, by go_num, hbr⟩
                case measure => simp [intOf]; omega
          · have hiI : ¬ (i : Int) < (OR.length : Int) := by omega
            replace hb := btr hb hbr
            replace ho := own_below ho hbr
            replace BP := BP.below hbr
            replace ho6 := own_below ho6 hbr
            clear hxO ho4 HOR kb0 kb1
            generalize wr = W at *
            have kb0 := blk_cell BP (j := 0) rfl
            have kb1 := blk_cell BP (j := 1) rfl
            go_wp2_with fail
            go_loopw [27] (fun q wr => q = .int .i64 0 ∧ W = wr) (fun _ _ => 0)
            case atStart => exact ⟨rfl, rfl⟩
            case round =>
              obtain ⟨rfl, rfl⟩ := hrel
              by_cases h0 : 0 < p.over.length
              · have h0I : (0 : Int) < (p.over.length : Int) := by omega
                have h0D : decide ((0 : Int) < (p.over.length : Int)) = true := by simpa using h0I
                go_wp2
                go_ret
                exact ⟨rfl, hb⟩
              · have h0I : ¬ (0 : Int) < (p.over.length : Int) := by omega
                have h0D : decide ((0 : Int) < (p.over.length : Int)) = false := by simpa using h0
                go_wp2
                go_ret
                exact ⟨rfl, hb⟩
set_option maxRecDepth 100000 in
theorem law_FnPrecedence_lifted (os : Os) (started : os.Started) (H : Type) (enc : TypeId × Value → H) :
    ReturnsInHanded {} Try.checked os 12 .any (Rows.fnPrecedenceSpec.pre6 enc Try.prog Try.f12 Rows.fnPrecedenceRow.domain false) (Rows.fnPrecedenceSpec.post enc Try.prog Try.f12 false true false false) := by
  refine returnsInHanded_of_change (C := Try.checked) own started (by kernel_rfl) Try.func12
    (ChangeSpec.witness6 (enc := enc) (C := Try.checked) false ⟨#[], #[.slice none 0 0], []⟩ 8 (by kernel_rfl) (by kernel_rfl) (by kernel_rfl) (by kernel_rfl)) ?_
  intro W base args ds gs before hval0 hW _ _
  have hval : ∀ (j : Nat) t v, Try.f12.params[j]? = some t → args[j]? = some v → Value.okWide Try.prog W .any base t v := hval0
  have hW' := hW
  obtain ⟨p, q, hA, -⟩ := hW
  replace hA : DataW.TrodAll enc Try.prog W 0 (fun _ => true) true Try.f12.params.toList args.toList ds p := hA
  rw [Try.params12] at hA hval
  obtain ⟨v0, d0, rfl, rfl, h0⟩ := trodAll_one hA
  obtain ⟨Acode, lencode, capcode, rfl⟩ := okWide_slice Try.underlying48 (hval 0 48 v0 rfl rfl)
  obtain ⟨code, rfl, hlccode, hcmcode, hxcode, hokcode⟩ := open_Code h0
  exact My.law_step laidOut Try.underlying4 (by kernel_rfl) (by kernel_rfl) rfl (fun H ds hd => by match ds, hd with | [_], _ => rfl) hW' (law_FnPrecedence Acode capcode code W (Nat.le_trans hlccode hcmcode) hxcode hokcode)
theorem law_FnPrecedence_holds : Rows.FnPrecedenceSaid :=
  OpenClaim.holds_of_wide 12 Try.f12 rfl rfl rfl rfl rfl rfl rfl ⟨rfl, rfl, rfl, rfl, rfl⟩ rfl rfl rfl rfl rfl (by kernel_rfl) Try.func12 (by kernel_rfl)
    (of_decide_eq_true (by kernel_rfl)) (by unfold Func.isWrapper; first | (rw [if_pos (by decide +kernel)]; kernel_rfl) | (rw [if_neg (by decide +kernel)]; exact ⟨rfl, rfl⟩))
    (fun os started H enc _ => law_FnPrecedence_lifted os started H enc)
end Go.Proofs.Ytdbcbaahjhaonaa
