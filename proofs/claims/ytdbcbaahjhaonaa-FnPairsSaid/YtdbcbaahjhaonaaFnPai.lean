/-
  FnPairs returns true for every input: the walk and the row. Conditions: none.
-/
import Derived.Test.YtdbcbaahjhaonaaPrecD2
import Derived.Test.YtdbcbaahjhaonaaPrecQ
import Derived.Test.YtdbcbaahjhaonaaNeed2
import Derived.Test.YtdbcbaahjhaonaaLaw
import Derived.Deep.RegionLaw
namespace Go.My
open Go.RowKit
def codeCells (xs : List Int) : List Value := xs.map (Value.int .u8)
theorem rdCode_of {w : World} {A : Option Addr} {xs : List Int} (h : Rd w A (codeCells xs)) (hb : ∀ x ∈ xs, 0 ≤ x ∧ x < 256) : RdCode w A xs.length := by
  rcases h with h | ⟨b, off, rfl, hc⟩
  · left; cases xs with | nil => rfl | cons x xs => simp [codeCells] at h
  · refine .inr ⟨b, off, rfl, fun j hj => ⟨xs[j], (hb _ (List.getElem_mem hj)).1, (hb _ (List.getElem_mem hj)).2, ?_⟩⟩
    have := hc j (by simpa [codeCells] using hj)
    rw [this]; simp [codeCells]
end Go.My
namespace Go.Proofs.Ytdbcbaahjhaonaa
open Go.RowKit Go.My Go.ChangeShapes Go.WideShapes Go.ChangeAt
theorem own : ownKnob Try.prog.godebug = none := by kernel_rfl
theorem laidOut : laidOutB Try.prog = true := by kernel_rfl
theorem codeCells_flat (xs : List Int) : xs.flatMap (fun x => [Value.int .u8 x]) = codeCells xs := by
  induction xs with
  | nil => rfl
  | cons x r ih => simp [codeCells] at ih ⊢; exact ih
theorem open_Code {H : Type} {enc : TypeId × Value → H} {w : World} {A : Option Addr} {len cap : Nat} {d : DataW H} {ps : List MemPlace} (h : DataW.Trod enc Try.prog w 0 (fun _ => true) true 48 (.slice A len cap) d ps) :
    ∃ xs : List Int, xs.length = len ∧ len ≤ cap ∧ cap ≤ maxLen ∧ Rd w A (codeCells xs) ∧ ∀ b ∈ xs, 0 ≤ b ∧ b < 256 := by
  obtain ⟨xs, h1, h2, h3, h4, h5⟩ := open_list (fun x : Int => [Value.int .u8 x]) (fun b => 0 ≤ b ∧ b < 256) 1 (fun _ => rfl) (by decide) Try.underlying48 (by kernel_rfl) (fun n cs x hx => by
    obtain ⟨n1, e1, _, w1⟩ := DataW.trod_int Try.underlying5 hx
    refine ⟨n1, e1, ?_⟩
    simp [Lit.wf, IntKind.min, IntKind.max, IntKind.signed, IntKind.bits] at w1
    omega) h
  exact ⟨xs, h1, h2, h3, by rw [← codeCells_flat]; exact h4, h5⟩
set_option maxHeartbeats 1000000 in
theorem vHas_any (A : Option Addr) (c : Nat) (ps : List Int) (v : Int) (w : World) (hn : ps.length ≤ maxLen) (hx : Rd w A (intCells ps)) :
    Calls Try.prog 46 #[.slice A ps.length c, .int .i64 v] w fun e w' => e = .returned (.bool (hasK ps v)) ∧ w = w' := by
  unfold maxLen at hn
  have HT : Hid (hasK ps v = hasK (ps.drop 0) v) := rfl
  generalize hasK ps v = r at *
  go_enter Try.func46, Try.ntmps46
  go_wp2
  go_loop [5] (fun q => ∃ k : Nat, k ≤ ps.length ∧ q = .int .i64 k ∧ Hid (r = hasK (ps.drop k) v)) (fun q => ps.length - (intOf q).toNat)
  case atStart => exact ⟨0, by omega, rfl, HT⟩
  case round =>
    obtain ⟨k, hk, rfl, H⟩ := hrel
    by_cases hlt : k < ps.length
    · obtain ⟨b, off, rfl, c0⟩ := Rd.ints hx hlt
      have Hn := Lib.hid (H.out.trans (hasK_at hlt))
      have hkI : (k : Int) < (ps.length : Int) := by omega
      clear H
      generalize ps[k] = s at *
      by_cases hq : s = v
      · have hq1 : (s == v) = true := by simpa using hq
        have Hf : Hid (r = true) := Hn.out.trans (by rw [hq1]; rfl)
        go_wp2
        go_ret
        exact ⟨by rw [Hf.out]; rfl, rfl⟩
      · have hq1 : (s == v) = false := by simpa using hq
        have Hf : Hid (r = hasK (ps.drop (k + 1)) v) := Hn.out.trans (by rw [hq1]; rfl)
        clear Hn hq
        go_wp2
        go_round
        case rel => exact ⟨k + 1, by omega, by go_num, Hf⟩
        case measure => simp [intOf]; omega
    · have Hf : Hid (r = false) := H.out.trans (by rw [List.drop_eq_nil_of_le (by omega)]; rfl)
      have hkI : ¬ (k : Int) < (ps.length : Int) := by omega
      go_wp2
      go_ret
      exact ⟨by rw [Hf.out]; rfl, rfl⟩
set_option maxHeartbeats 4000000 in
set_option maxRecDepth 100000 in
theorem vInts_any (A B : Option Addr) (c d : Nat) (xs : List Int) (w : World) (hn : xs.length ≤ maxLen) (hx : Rd w A (intCells xs)) (hy : Rd w B (intCells xs)) :
    Calls Try.prog 45 #[.slice A xs.length c, .slice B xs.length d] w fun e w' => e = .returned (.bool true) ∧ Below w.heap.size w w' := by
  unfold maxLen at hn
  go_enter Try.func45, Try.ntmps45
  go_wp2_with fail
  go_loopw [5] (fun q wr => ∃ k : Nat, k ≤ xs.length ∧ q = .int .i64 k ∧ Below w.heap.size w wr) (fun q _ => xs.length - (intOf q).toNat)
  case atStart => exact ⟨0, by omega, rfl, Below.refl _ _⟩
  case round =>
    obtain ⟨k, hk, rfl, hb⟩ := hrel
    by_cases hlt : k < xs.length
    · obtain ⟨b, off, rfl, c0⟩ := Rd.ints (hx.below hb) hlt
      obtain ⟨b2, off2, rfl, d0⟩ := Rd.ints (hy.below hb) hlt
      have hkI : (k : Int) < (xs.length : Int) := by omega
      generalize xs[k] = s at *
      have g0 := cell_after c0
      have e0 := cell_after d0
      go_wp2_with fail
      refine wp_region_after (by kernel_rfl) (by kernel_rfl) ?_
      repeat (go_big_quiet_step (fail))
      refine wpQuiet_nil ?_
      intro nq
      have hb2 := hb.trans (nq.bel.mono hb.size)
      generalize nq.val = W1 at *
      go_wp2_with fail
      go_roundw
      case rel => exact ⟨k + 1, by omega, by go_num, hb2⟩
      case measure => simp [intOf]; omega
    · have hkI : ¬ (k : Int) < (xs.length : Int) := by omega
      go_wp2
      go_ret
      exact ⟨rfl, hb⟩
set_option maxHeartbeats 4000000 in
set_option maxRecDepth 100000 in
theorem vPairs_any (A B : Option Addr) (c d : Nat) (xs : List Pr) (w : World) (hn : xs.length ≤ maxLen) (hx : Rd w A (prCells xs)) (hy : Rd w B (prCells xs)) :
    Calls Try.prog 48 #[.slice A xs.length c, .slice B xs.length d] w fun e w' => e = .returned (.bool true) ∧ Below w.heap.size w w' := by
  unfold maxLen at hn
  have he := eq2_run
  go_enter Try.func48, Try.ntmps48
  go_wp2_with fail
  go_loopw [5] (fun q wr => ∃ k : Nat, k ≤ xs.length ∧ q = .int .i64 k ∧ Below w.heap.size w wr) (fun q _ => xs.length - (intOf q).toNat)
  case atStart => exact ⟨0, by omega, rfl, Below.refl _ _⟩
  case round =>
    obtain ⟨k, hk, rfl, hb⟩ := hrel
    by_cases hlt : k < xs.length
    · obtain ⟨b, off, rfl, c0, c1⟩ := Rd.pr (hx.below hb) hlt
      obtain ⟨b2, off2, rfl, d0, d1⟩ := Rd.pr (hy.below hb) hlt
      have hkI : (k : Int) < (xs.length : Int) := by omega
      generalize xs[k] = s at *
      have g0 := cell_after c0
      have e0 := cell_after d0
      have g1 := cell_after c1
      have e1 := cell_after d1
      go_wp2_with fail
      refine wp_region_after (by kernel_rfl) (by kernel_rfl) ?_
      repeat (go_big_quiet_step (fail))
      refine wpQuiet_nil ?_
      intro nq
      have hb2 := hb.trans (nq.bel.mono hb.size)
      generalize nq.val = W1 at *
      go_wp2_with fail
      go_roundw
      case rel => exact ⟨k + 1, by omega, by go_num, hb2⟩
      case measure => simp [intOf]; omega
    · have hkI : ¬ (k : Int) < (xs.length : Int) := by omega
      go_wp2
      go_ret
      exact ⟨rfl, hb⟩
theorem big_any (A : Option Addr) (n c : Nat) (w : World) : Calls Try.prog 43 #[.slice A n c] w fun e w' => e = .returned (.bool (decide ((65536 : Int) < n))) ∧ w = w' := by
  go_enter Try.func43, Try.ntmps43
  go_wp2
  go_ret
  exact ⟨rfl, rfl⟩
set_option maxHeartbeats 64000000 in
set_option maxRecDepth 100000 in
theorem law_FnPairs (A : Option Addr) (c : Nat) (code : List Int) (w : World) (hn : code.length ≤ maxLen) (hx : Rd w A (codeCells code)) (hok : ∀ b ∈ code, 0 ≤ b ∧ b < 256) :
    Calls Try.prog 13 #[.slice A code.length c] w fun e w' => e = .returned (.bool true) ∧ Below w.heap.size w w' := by
  have HR := Lib.hid (rdCode_of hx hok)
  clear hx hok
  by_cases hbig : 65536 < code.length
  · have hbI : decide ((65536 : Int) < (code.length : Int)) = true := by simp; omega
    go_enter Try.func13, Try.ntmps13
    go_wp2_with (go_at_call 43; refine (big_any A _ c w).mono ?_; rintro e w1 ⟨rfl, rfl⟩)
    go_ret
    exact ⟨rfl, Below.refl _ _⟩
  have hbI : decide ((65536 : Int) < (code.length : Int)) = false := by simp; omega
  generalize code.length = n at *
  go_enter Try.func13, Try.ntmps13
  go_wp2_with (go_at_call 43; refine (big_any A n c w).mono ?_; rintro e w0 ⟨rfl, rfl⟩)
  refine (drawNeed_any A n c w hn HR.out).mono ?_
  rintro e w1 ⟨A1, c1, p, rfl, hl60, ho, hb⟩
  have hbn := bnew (Below.refl w1.heap.size w1) (.cells #[.int .i64 p.kinds, .slice A1 p.over.length c1] 27)
  have BP : Blk (w1.alloc (.cells #[.int .i64 p.kinds, .slice A1 p.over.length c1] 27)) w1.heap.size 27 [.int .i64 p.kinds, .slice A1 p.over.length c1] := blk_made #[.int .i64 p.kinds, .slice A1 p.over.length c1] rfl
  replace hb := btr hb hbn
  replace ho := own_below ho hbn
  have HNW := Lib.hid (need_law (p := p))
  have HLE0 : Hid (lessL p = p.over.filter fun x => !dirB (needR p).1 x.a x.b) := rfl
  have hP16 := needR_len p
  obtain ⟨⟨PR, ok⟩, hN⟩ : ∃ R, R = needR p := ⟨_, rfl⟩
  rw [← hN] at HNW hP16 HLE0
  simp only at HNW hP16
  have HLE : Hid (lessL p = p.over.filter (fun x => !dirB PR x.a x.b)) := HLE0.out
  have HNe := Lib.hid hN.symm
  clear hN HLE0 hbn
  have hn0 := hn
  clear hn
  have hn : n ≤ maxLen := hn0
  have hpn : p.over.length ≤ maxLen := by unfold maxLen; omega
  go_wp2_with fail
  generalize w1.alloc (.cells #[.int .i64 p.kinds, .slice A1 p.over.length c1] 27) = W at *
  generalize w1.heap.size = b at *
  have kb0 := blk_cell BP (j := 0) rfl
  have kb1 := blk_cell BP (j := 1) rfl
  cases ok with
  | false =>
    have HT : Calls Try.prog 30 #[.agg #[.int .i64 p.kinds, .slice A1 p.over.length c1]] W fun en w' => ∃ A' c', en = .returned (.tuple #[.slice A' PR.length c', .bool false]) ∧ w'.ownsRow W.heap.size 52 2 (.slice A' PR.length c') PR.length (prCells PR) ∧ Below W.heap.size W w' := by
      have h0 := needP_any A1 c1 p W hpn (own_le ho) (own_rd ho)
      rw [HNe.out] at h0; exact h0
    refine (HT).mono ?_
    rintro e w2 ⟨A2, c2, rfl, ho2, hbq⟩
    replace hb := btr hb hbq
    replace ho := own_below ho hbq
    replace BP := BP.below hbq
    clear hbq
    clear kb0 kb1
    have kb0 := blk_cell BP (j := 0) rfl
    have kb1 := blk_cell BP (j := 1) rfl
    clear HT
    go_wp2_with fail
    have HT : Calls Try.prog 29 #[.agg #[.int .i64 p.kinds, .slice A1 p.over.length c1]] w2 fun en w' => ∃ A' c', en = .returned (.tuple #[.slice A' PR.length c', .bool false]) ∧ w'.ownsRow w2.heap.size 52 2 (.slice A' PR.length c') PR.length (prCells PR) ∧ Below w2.heap.size w2 w' := by
      have h0 := specNeedP_any A1 c1 p w2 hpn (own_le ho) (own_rd ho)
      rw [HNe.out] at h0; exact h0
    refine (HT).mono ?_
    rintro e w3 ⟨A3, c3, rfl, ho3, hbq⟩
    replace hb := btr hb hbq
    replace ho := own_below ho hbq
    replace ho2 := own_below ho2 hbq
    replace BP := BP.below hbq
    clear hbq
    clear kb0 kb1
    have kb0 := blk_cell BP (j := 0) rfl
    have kb1 := blk_cell BP (j := 1) rfl
    clear HT
    go_wp2_with fail
    refine (vPairs_any A2 A3 c2 c3 PR w3 (by unfold maxLen; omega) (own_rd ho2) (own_rd ho3)).mono ?_
    rintro e W4 ⟨rfl, hbq⟩
    replace hb := btr hb hbq
    replace ho := own_below ho hbq
    replace ho2 := own_below ho2 hbq
    replace BP := BP.below hbq
    clear hbq
    clear kb0 kb1
    have kb0 := blk_cell BP (j := 0) rfl
    have kb1 := blk_cell BP (j := 1) rfl
    clear ho3
    clear ho ho2 BP kb0 kb1 HNW HLE HNe
    go_wp2_with fail
    refine (drawAdd_any A n c W4 hn (HR.out.below hb)).mono ?_
    rintro e u1 ⟨A2, c2, x, lo, hi, rfl, hx60, hox, hbq⟩
    have hbn := bnew (Below.refl u1.heap.size u1) (.cells #[.int .i64 x.kinds, .slice A2 x.over.length c2] 27)
    have BX : Blk (u1.alloc (.cells #[.int .i64 x.kinds, .slice A2 x.over.length c2] 27)) u1.heap.size 27 [.int .i64 x.kinds, .slice A2 x.over.length c2] := blk_made #[.int .i64 x.kinds, .slice A2 x.over.length c2] rfl
    replace hb := btr hb (btr hbq hbn)
    replace hox := own_below hox hbn
    clear hbq hbn
    have hxn : x.over.length ≤ maxLen := by unfold maxLen; omega
    go_wp2_with fail
    generalize u1.alloc (.cells #[.int .i64 x.kinds, .slice A2 x.over.length c2] 27) = U at *
    generalize u1.heap.size = bx at *
    have kx0 := blk_cell BX (j := 0) rfl
    have kx1 := blk_cell BX (j := 1) rfl
    have HAL := Lib.hid (add_law (p := x) (x := ⟨lo, hi⟩))
    have hq17 := addP_len x ⟨lo, hi⟩
    obtain ⟨⟨q, tl⟩, hQ⟩ : ∃ R, R = addP x ⟨lo, hi⟩ := ⟨_, rfl⟩
    rw [← hQ] at HAL hq17
    simp only at HAL hq17
    have HQe := Lib.hid hQ.symm
    clear hQ
    have HT : Calls Try.prog 41 #[.agg #[.int .i64 x.kinds, .slice A2 x.over.length c2], .int .i64 lo, .int .i64 hi] U fun en w' => ∃ A' c', en = .returned (.tuple #[.agg #[.int .i64 q.kinds, .slice A' q.over.length c'], .bool tl]) ∧ w'.ownsRow U.heap.size 52 2 (.slice A' q.over.length c') q.over.length (prCells q.over) ∧ Below U.heap.size U w' := by
      have h0 := addPr_any A2 c2 x ⟨lo, hi⟩ U hxn (own_le hox) (own_rd hox)
      rw [HQe.out] at h0; exact h0
    refine (HT).mono ?_
    rintro e u2 ⟨A3, c3, rfl, hoy, hbq⟩
    replace hb := btr hb hbq
    replace hox := own_below hox hbq
    replace BX := BX.below hbq
    clear hbq
    clear kx0 kx1
    have kx0 := blk_cell BX (j := 0) rfl
    have kx1 := blk_cell BX (j := 1) rfl
    clear HT
    have hbn := bnew (Below.refl u2.heap.size u2) (.cells #[.int .i64 q.kinds, .slice A3 q.over.length c3] 27)
    have BY : Blk (u2.alloc (.cells #[.int .i64 q.kinds, .slice A3 q.over.length c3] 27)) u2.heap.size 27 [.int .i64 q.kinds, .slice A3 q.over.length c3] := blk_made #[.int .i64 q.kinds, .slice A3 q.over.length c3] rfl
    replace hb := btr hb hbn
    replace hox := own_below hox hbn
    replace hoy := own_below hoy hbn
    replace BX := BX.below hbn
    clear hbn kx0 kx1
    have kx0 := blk_cell BX (j := 0) rfl
    have kx1 := blk_cell BX (j := 1) rfl
    go_wp2_with fail
    generalize hU2 : u2.alloc (.cells #[.int .i64 q.kinds, .slice A3 q.over.length c3] 27) = U2 at *
    clear hU2
    generalize u2.heap.size = by_ at *
    have ky0 := blk_cell BY (j := 0) rfl
    have ky1 := blk_cell BY (j := 1) rfl
    have HT : Calls Try.prog 40 #[.agg #[.int .i64 x.kinds, .slice A2 x.over.length c2], .int .i64 lo, .int .i64 hi] U2 fun en w' => ∃ A' c', en = .returned (.tuple #[.agg #[.int .i64 q.kinds, .slice A' q.over.length c'], .bool tl]) ∧ w'.ownsRow U2.heap.size 52 2 (.slice A' q.over.length c') q.over.length (prCells q.over) ∧ Below U2.heap.size U2 w' := by
      have h0 := specAddPr_any A2 c2 x ⟨lo, hi⟩ U2 hxn (own_le hox) (own_rd hox)
      rw [HQe.out] at h0; exact h0
    refine (HT).mono ?_
    rintro e u4 ⟨A4, c4, rfl, how, hbq⟩
    replace hb := btr hb hbq
    replace hoy := own_below hoy hbq
    replace BY := BY.below hbq
    clear hbq
    clear ky0 ky1
    have ky0 := blk_cell BY (j := 0) rfl
    have ky1 := blk_cell BY (j := 1) rfl
    clear HT hox BX kx0 kx1
    have hbn := bnew (Below.refl u4.heap.size u4) (.cells #[.int .i64 q.kinds, .slice A4 q.over.length c4] 27)
    have BW : Blk (u4.alloc (.cells #[.int .i64 q.kinds, .slice A4 q.over.length c4] 27)) u4.heap.size 27 [.int .i64 q.kinds, .slice A4 q.over.length c4] := blk_made #[.int .i64 q.kinds, .slice A4 q.over.length c4] rfl
    replace hb := btr hb hbn
    replace hoy := own_below hoy hbn
    replace how := own_below how hbn
    replace BY := BY.below hbn
    clear hbn ky0 ky1
    have ky0 := blk_cell BY (j := 0) rfl
    have ky1 := blk_cell BY (j := 1) rfl
    have kw0 := blk_cell BW (j := 0) rfl
    have kw1 := blk_cell BW (j := 1) rfl
    go_wp2_with fail
    generalize hU4 : u4.alloc (.cells #[.int .i64 q.kinds, .slice A4 q.over.length c4] 27) = U4 at *
    clear hU4
    generalize u4.heap.size = bw at *
    refine (vPairs_any A3 A4 c3 c4 q.over U4 (by unfold maxLen; omega) (own_rd hoy) (own_rd how)).mono ?_
    rintro e u6 ⟨rfl, hbq⟩
    replace hb := btr hb hbq
    replace hoy := own_below hoy hbq
    replace BY := BY.below hbq
    clear hbq
    clear ky0 ky1
    have ky0 := blk_cell BY (j := 0) rfl
    have ky1 := blk_cell BY (j := 1) rfl
    clear how BW kw0 kw1
    cases tl with
    | false =>
      clear HAL HQe hoy BY ky0 ky1
      go_wp2_with fail
      refine (drawBlocked_any A n c u6 hn (HR.out.below hb)).mono ?_
      rintro e v1 ⟨A5, c5, z, sv, rfl, hz60, hoz, hbq⟩
      have hbn := bnew (Below.refl v1.heap.size v1) (.cells #[.int .i64 z.kinds, .slice A5 z.over.length c5] 27)
      have BZ : Blk (v1.alloc (.cells #[.int .i64 z.kinds, .slice A5 z.over.length c5] 27)) v1.heap.size 27 [.int .i64 z.kinds, .slice A5 z.over.length c5] := blk_made #[.int .i64 z.kinds, .slice A5 z.over.length c5] rfl
      replace hb := btr hb (btr hbq hbn)
      replace hoz := own_below hoz hbn
      clear hbq hbn
      obtain ⟨he, hy8, hk8, hlaw⟩ := block_law z sv
      have hzn : z.over.length ≤ maxLen := by unfold maxLen; omega
      go_wp2_with fail
      generalize v1.alloc (.cells #[.int .i64 z.kinds, .slice A5 z.over.length c5] 27) = V at *
      generalize v1.heap.size = bz at *
      have kz0 := blk_cell BZ (j := 0) rfl
      have kz1 := blk_cell BZ (j := 1) rfl
      obtain ⟨⟨YL, kn⟩, hY⟩ : ∃ R, R = yieldsR z sv := ⟨_, rfl⟩
      obtain ⟨⟨BL, kb⟩, hB⟩ : ∃ R, R = blockedR z sv := ⟨_, rfl⟩
      rw [← hY, ← hB] at he hlaw
      rw [← hY] at hy8
      rw [← hB] at hk8
      simp only at he hlaw hy8 hk8
      subst he
      have HLAW := Lib.hid hlaw
      have HYe := Lib.hid hY.symm
      have HBe := Lib.hid hB.symm
      clear hlaw hY hB
      cases kn with
      | false =>
        clear HLAW
        have HT : Calls Try.prog 28 #[.agg #[.int .i64 z.kinds, .slice A5 z.over.length c5], .int .i64 sv] V fun en w' => ∃ A' c', en = .returned (.tuple #[.slice A' BL.length c', .bool false]) ∧ w'.ownsRow V.heap.size 3 1 (.slice A' BL.length c') BL.length (intCells BL) ∧ Below V.heap.size V w' := by
          have h0 := blocked_any A5 c5 z sv V hzn (own_le hoz) (own_rd hoz)
          rw [HBe.out] at h0; exact h0
        refine (HT).mono ?_
        rintro e v2 ⟨A6, c6, rfl, ho6, hbq⟩
        replace hb := btr hb hbq
        replace hoz := own_below hoz hbq
        replace BZ := BZ.below hbq
        clear hbq
        clear kz0 kz1
        have kz0 := blk_cell BZ (j := 0) rfl
        have kz1 := blk_cell BZ (j := 1) rfl
        clear HT
        go_wp2_with fail
        have HT : Calls Try.prog 27 #[.agg #[.int .i64 z.kinds, .slice A5 z.over.length c5], .int .i64 sv] v2 fun en w' => ∃ A' c', en = .returned (.tuple #[.slice A' BL.length c', .bool false]) ∧ w'.ownsRow v2.heap.size 3 1 (.slice A' BL.length c') BL.length (intCells BL) ∧ Below v2.heap.size v2 w' := by
          have h0 := specBlocked_any A5 c5 z sv v2 hzn (own_le hoz) (own_rd hoz)
          rw [HBe.out] at h0; exact h0
        refine (HT).mono ?_
        rintro e v3 ⟨A7, c7, rfl, ho7, hbq⟩
        replace hb := btr hb hbq
        replace hoz := own_below hoz hbq
        replace ho6 := own_below ho6 hbq
        replace BZ := BZ.below hbq
        clear hbq
        clear kz0 kz1
        have kz0 := blk_cell BZ (j := 0) rfl
        have kz1 := blk_cell BZ (j := 1) rfl
        clear HT
        go_wp2_with fail
        refine (vInts_any A6 A7 c6 c7 BL v3 (by unfold maxLen; omega) (own_rd ho6) (own_rd ho7)).mono ?_
        rintro e v4 ⟨rfl, hbq⟩
        replace hb := btr hb hbq
        replace hoz := own_below hoz hbq
        replace ho6 := own_below ho6 hbq
        replace BZ := BZ.below hbq
        clear hbq
        clear kz0 kz1
        have kz0 := blk_cell BZ (j := 0) rfl
        have kz1 := blk_cell BZ (j := 1) rfl
        clear ho7
        go_wp2_with fail
        have HT : Calls Try.prog 22 #[.agg #[.int .i64 z.kinds, .slice A5 z.over.length c5], .int .i64 sv] v4 fun en w' => ∃ A' c', en = .returned (.tuple #[.slice A' YL.length c', .bool false]) ∧ w'.ownsRow v4.heap.size 3 1 (.slice A' YL.length c') YL.length (intCells YL) ∧ Below v4.heap.size v4 w' := by
          have h0 := yieldsT_any A5 c5 z sv v4 hzn (own_le hoz) (own_rd hoz)
          rw [HYe.out] at h0; exact h0
        refine (HT).mono ?_
        rintro e v5 ⟨A8, c8, rfl, ho8, hbq⟩
        replace hb := btr hb hbq
        replace hoz := own_below hoz hbq
        replace ho6 := own_below ho6 hbq
        replace BZ := BZ.below hbq
        clear hbq
        clear kz0 kz1
        have kz0 := blk_cell BZ (j := 0) rfl
        have kz1 := blk_cell BZ (j := 1) rfl
        clear HT
        go_wp2_with fail
        have HT : Calls Try.prog 21 #[.agg #[.int .i64 z.kinds, .slice A5 z.over.length c5], .int .i64 sv] v5 fun en w' => ∃ A' c', en = .returned (.tuple #[.slice A' YL.length c', .bool false]) ∧ w'.ownsRow v5.heap.size 3 1 (.slice A' YL.length c') YL.length (intCells YL) ∧ Below v5.heap.size v5 w' := by
          have h0 := specYields_any A5 c5 z sv v5 hzn (own_le hoz) (own_rd hoz)
          rw [HYe.out] at h0; exact h0
        refine (HT).mono ?_
        rintro e v6 ⟨A9, c9, rfl, ho9, hbq⟩
        replace hb := btr hb hbq
        replace hoz := own_below hoz hbq
        replace ho6 := own_below ho6 hbq
        replace ho8 := own_below ho8 hbq
        replace BZ := BZ.below hbq
        clear hbq
        clear kz0 kz1
        have kz0 := blk_cell BZ (j := 0) rfl
        have kz1 := blk_cell BZ (j := 1) rfl
        clear HT
        go_wp2_with fail
        refine (vInts_any A8 A9 c8 c9 YL v6 (by unfold maxLen; omega) (own_rd ho8) (own_rd ho9)).mono ?_
        rintro e V7 ⟨rfl, hbq⟩
        replace hb := btr hb hbq
        replace ho6 := own_below ho6 hbq
        replace ho8 := own_below ho8 hbq
        replace BZ := BZ.below hbq
        clear hbq
        clear kz0 kz1
        have kz0 := blk_cell BZ (j := 0) rfl
        have kz1 := blk_cell BZ (j := 1) rfl
        clear ho9 hoz
        go_wp2_with fail
        go_loopw [36] (fun q wr => q = .int .i64 0 ∧ V7 = wr) (fun _ _ => 0)
        case atStart => exact ⟨rfl, rfl⟩
        case round =>
          obtain ⟨rfl, rfl⟩ := hrel
          by_cases h0 : (0 : Int) < z.kinds
          · have h0D : decide ((0 : Int) < z.kinds) = true := by simpa using h0
            go_wp2
            go_ret
            exact ⟨rfl, hb⟩
          · have h0D : decide ((0 : Int) < z.kinds) = false := by simpa using h0
            go_wp2
            go_ret
            exact ⟨rfl, hb⟩
      | true =>
        have HT : Calls Try.prog 28 #[.agg #[.int .i64 z.kinds, .slice A5 z.over.length c5], .int .i64 sv] V fun en w' => ∃ A' c', en = .returned (.tuple #[.slice A' BL.length c', .bool true]) ∧ w'.ownsRow V.heap.size 3 1 (.slice A' BL.length c') BL.length (intCells BL) ∧ Below V.heap.size V w' := by
          have h0 := blocked_any A5 c5 z sv V hzn (own_le hoz) (own_rd hoz)
          rw [HBe.out] at h0; exact h0
        refine (HT).mono ?_
        rintro e v2 ⟨A6, c6, rfl, ho6, hbq⟩
        replace hb := btr hb hbq
        replace hoz := own_below hoz hbq
        replace BZ := BZ.below hbq
        clear hbq
        clear kz0 kz1
        have kz0 := blk_cell BZ (j := 0) rfl
        have kz1 := blk_cell BZ (j := 1) rfl
        clear HT
        go_wp2_with fail
        have HT : Calls Try.prog 27 #[.agg #[.int .i64 z.kinds, .slice A5 z.over.length c5], .int .i64 sv] v2 fun en w' => ∃ A' c', en = .returned (.tuple #[.slice A' BL.length c', .bool true]) ∧ w'.ownsRow v2.heap.size 3 1 (.slice A' BL.length c') BL.length (intCells BL) ∧ Below v2.heap.size v2 w' := by
          have h0 := specBlocked_any A5 c5 z sv v2 hzn (own_le hoz) (own_rd hoz)
          rw [HBe.out] at h0; exact h0
        refine (HT).mono ?_
        rintro e v3 ⟨A7, c7, rfl, ho7, hbq⟩
        replace hb := btr hb hbq
        replace hoz := own_below hoz hbq
        replace ho6 := own_below ho6 hbq
        replace BZ := BZ.below hbq
        clear hbq
        clear kz0 kz1
        have kz0 := blk_cell BZ (j := 0) rfl
        have kz1 := blk_cell BZ (j := 1) rfl
        clear HT
        go_wp2_with fail
        refine (vInts_any A6 A7 c6 c7 BL v3 (by unfold maxLen; omega) (own_rd ho6) (own_rd ho7)).mono ?_
        rintro e v4 ⟨rfl, hbq⟩
        replace hb := btr hb hbq
        replace hoz := own_below hoz hbq
        replace ho6 := own_below ho6 hbq
        replace BZ := BZ.below hbq
        clear hbq
        clear kz0 kz1
        have kz0 := blk_cell BZ (j := 0) rfl
        have kz1 := blk_cell BZ (j := 1) rfl
        clear ho7
        go_wp2_with fail
        have HT : Calls Try.prog 22 #[.agg #[.int .i64 z.kinds, .slice A5 z.over.length c5], .int .i64 sv] v4 fun en w' => ∃ A' c', en = .returned (.tuple #[.slice A' YL.length c', .bool true]) ∧ w'.ownsRow v4.heap.size 3 1 (.slice A' YL.length c') YL.length (intCells YL) ∧ Below v4.heap.size v4 w' := by
          have h0 := yieldsT_any A5 c5 z sv v4 hzn (own_le hoz) (own_rd hoz)
          rw [HYe.out] at h0; exact h0
        refine (HT).mono ?_
        rintro e v5 ⟨A8, c8, rfl, ho8, hbq⟩
        replace hb := btr hb hbq
        replace hoz := own_below hoz hbq
        replace ho6 := own_below ho6 hbq
        replace BZ := BZ.below hbq
        clear hbq
        clear kz0 kz1
        have kz0 := blk_cell BZ (j := 0) rfl
        have kz1 := blk_cell BZ (j := 1) rfl
        clear HT
        go_wp2_with fail
        have HT : Calls Try.prog 21 #[.agg #[.int .i64 z.kinds, .slice A5 z.over.length c5], .int .i64 sv] v5 fun en w' => ∃ A' c', en = .returned (.tuple #[.slice A' YL.length c', .bool true]) ∧ w'.ownsRow v5.heap.size 3 1 (.slice A' YL.length c') YL.length (intCells YL) ∧ Below v5.heap.size v5 w' := by
          have h0 := specYields_any A5 c5 z sv v5 hzn (own_le hoz) (own_rd hoz)
          rw [HYe.out] at h0; exact h0
        refine (HT).mono ?_
        rintro e v6 ⟨A9, c9, rfl, ho9, hbq⟩
        replace hb := btr hb hbq
        replace hoz := own_below hoz hbq
        replace ho6 := own_below ho6 hbq
        replace ho8 := own_below ho8 hbq
        replace BZ := BZ.below hbq
        clear hbq
        clear kz0 kz1
        have kz0 := blk_cell BZ (j := 0) rfl
        have kz1 := blk_cell BZ (j := 1) rfl
        clear HT
        go_wp2_with fail
        refine (vInts_any A8 A9 c8 c9 YL v6 (by unfold maxLen; omega) (own_rd ho8) (own_rd ho9)).mono ?_
        rintro e V7 ⟨rfl, hbq⟩
        replace hb := btr hb hbq
        replace ho6 := own_below ho6 hbq
        replace ho8 := own_below ho8 hbq
        replace BZ := BZ.below hbq
        clear hbq
        clear kz0 kz1
        have kz0 := blk_cell BZ (j := 0) rfl
        have kz1 := blk_cell BZ (j := 1) rfl
        clear ho9 hoz
        obtain ⟨hK, hlaw⟩ := HLAW.out (by trivial)
        have HL2 := Lib.hid hlaw
        clear HLAW hlaw HYe HBe
        obtain ⟨KN, hKN⟩ : ∃ KN : Nat, z.kinds = (KN : Int) := ⟨z.kinds.toNat, by omega⟩
        rw [hKN] at HL2 kz0 BZ
        have hKN8 : KN ≤ 8 := by omega
        have hxY := own_rd ho8
        have hxB := own_rd ho6
        have hb0 := Below.refl V7.heap.size V7
        clear ho6 ho8 hKN hK
        go_wp2_with fail
        go_loopw [36] (fun q wr => ∃ i : Nat, i ≤ KN ∧ q = .int .i64 i ∧ Below V7.heap.size V7 wr) (fun q _ => KN - (intOf q).toNat)
        case atStart => exact ⟨0, by omega, rfl, hb0⟩
        case round =>
          clear hb0
          obtain ⟨i, hi, rfl, hbr⟩ := hrel
          replace BZ := BZ.below hbr
          replace hxY := hxY.below hbr
          replace hxB := hxB.below hbr
          clear kz0 kz1
          have kz0 := blk_cell BZ (j := 0) rfl
          have kz1 := blk_cell BZ (j := 1) rfl
          by_cases hlt : i < KN
          · have hiI : (i : Int) < (KN : Int) := by omega
            have hiD : decide ((i : Int) < (KN : Int)) = true := by simpa using hiI
            by_cases hs : (i : Int) = sv
            · have hsB : ((i : Int) != sv) = false := by simpa using hs
              go_wp2_with fail
              go_roundw
              case rel => exact ⟨i + 1, by omega, by go_num, hbr⟩
              case measure => simp [intOf]; omega
            · have hsB : ((i : Int) != sv) = true := by simpa using hs
              have hq := HL2.out (i : Int) (by omega) (by omega) hs
              have HHY : Hid (∀ w1, Below wr.heap.size wr w1 → Calls Try.prog 46 #[.slice A8 YL.length c8, .int .i64 i] w1 fun e w' => e = .returned (.bool (hasK YL i)) ∧ w1 = w') := fun w1 h1 => vHas_any A8 c8 YL i w1 (by unfold maxLen; omega) (hxY.below h1)
              have HHB : Hid (∀ w1, Below wr.heap.size wr w1 → Calls Try.prog 46 #[.slice A6 BL.length c6, .int .i64 i] w1 fun e w' => e = .returned (.bool (hasK BL i)) ∧ w1 = w') := fun w1 h1 => vHas_any A6 c6 BL i w1 (by unfold maxLen; omega) (hxB.below h1)
              rw [hq] at HHY
              clear hq
              cases hh : hasK BL (i : Int) with
              | false =>
                rw [hh] at HHY HHB
                go_wp2_with fail
                refine (HHY.out _ (Below.refl _ _)).mono ?_
                rintro e w9 ⟨rfl, rfl⟩
                go_wp2_with fail
                refine (HHB.out _ (Below.refl _ _)).mono ?_
                rintro e w9 ⟨rfl, rfl⟩
                go_wp2_with fail
                go_roundw
                case rel => exact ⟨i + 1, by omega, by go_num, hbr⟩
                case measure => simp [intOf]; omega
              | true =>
                rw [hh] at HHY HHB
                go_wp2_with fail
                refine (HHY.out _ (Below.refl _ _)).mono ?_
                rintro e w9 ⟨rfl, rfl⟩
                go_wp2_with fail
                refine (HHB.out _ (Below.refl _ _)).mono ?_
                rintro e w9 ⟨rfl, rfl⟩
                go_wp2_with fail
                go_roundw
                case rel => exact ⟨i + 1, by omega, by go_num, hbr⟩
                case measure => simp [intOf]; omega
          · have hiI : ¬ (i : Int) < (KN : Int) := by omega
            have hiD : decide ((i : Int) < (KN : Int)) = false := by simp; omega
            replace hb := btr hb hbr
            go_wp2
            go_ret
            exact ⟨rfl, hb⟩
    | true =>
      obtain ⟨Y, hY8, eY, hh⟩ := HAL.out (by trivial)
      clear HAL HQe
      have HT : Calls Try.prog 22 #[.agg #[.int .i64 q.kinds, .slice A3 q.over.length c3], .int .i64 lo] u6 fun en w' => ∃ A' c', en = .returned (.tuple #[.slice A' Y.length c', .bool true]) ∧ w'.ownsRow u6.heap.size 3 1 (.slice A' Y.length c') Y.length (intCells Y) ∧ Below u6.heap.size u6 w' := by
        have h0 := yieldsT_any A3 c3 q lo u6 (by unfold maxLen; omega) (own_le hoy) (own_rd hoy)
        rw [eY] at h0; exact h0
      go_wp2_with fail
      refine (HT).mono ?_
      rintro e u7 ⟨A5, c5, rfl, ho5, hbq⟩
      replace hb := btr hb hbq
      clear hbq
      clear HT hoy BY ky0 ky1
      have HH := vHas_any A5 c5 Y hi u7 (by unfold maxLen; omega) (own_rd ho5)
      rw [hh] at HH
      go_wp2_with (go_at_call 46; refine HH.mono ?_; rintro e w9 ⟨rfl, rfl⟩)
      clear HH ho5 eY hh
      refine (drawBlocked_any A n c u7 hn (HR.out.below hb)).mono ?_
      rintro e v1 ⟨A5, c5, z, sv, rfl, hz60, hoz, hbq⟩
      have hbn := bnew (Below.refl v1.heap.size v1) (.cells #[.int .i64 z.kinds, .slice A5 z.over.length c5] 27)
      have BZ : Blk (v1.alloc (.cells #[.int .i64 z.kinds, .slice A5 z.over.length c5] 27)) v1.heap.size 27 [.int .i64 z.kinds, .slice A5 z.over.length c5] := blk_made #[.int .i64 z.kinds, .slice A5 z.over.length c5] rfl
      replace hb := btr hb (btr hbq hbn)
      replace hoz := own_below hoz hbn
      clear hbq hbn
      obtain ⟨he, hy8, hk8, hlaw⟩ := block_law z sv
      have hzn : z.over.length ≤ maxLen := by unfold maxLen; omega
      go_wp2_with fail
      generalize v1.alloc (.cells #[.int .i64 z.kinds, .slice A5 z.over.length c5] 27) = V at *
      generalize v1.heap.size = bz at *
      have kz0 := blk_cell BZ (j := 0) rfl
      have kz1 := blk_cell BZ (j := 1) rfl
      obtain ⟨⟨YL, kn⟩, hY⟩ : ∃ R, R = yieldsR z sv := ⟨_, rfl⟩
      obtain ⟨⟨BL, kb⟩, hB⟩ : ∃ R, R = blockedR z sv := ⟨_, rfl⟩
      rw [← hY, ← hB] at he hlaw
      rw [← hY] at hy8
      rw [← hB] at hk8
      simp only at he hlaw hy8 hk8
      subst he
      have HLAW := Lib.hid hlaw
      have HYe := Lib.hid hY.symm
      have HBe := Lib.hid hB.symm
      clear hlaw hY hB
      cases kn with
      | false =>
        clear HLAW
        have HT : Calls Try.prog 28 #[.agg #[.int .i64 z.kinds, .slice A5 z.over.length c5], .int .i64 sv] V fun en w' => ∃ A' c', en = .returned (.tuple #[.slice A' BL.length c', .bool false]) ∧ w'.ownsRow V.heap.size 3 1 (.slice A' BL.length c') BL.length (intCells BL) ∧ Below V.heap.size V w' := by
          have h0 := blocked_any A5 c5 z sv V hzn (own_le hoz) (own_rd hoz)
          rw [HBe.out] at h0; exact h0
        refine (HT).mono ?_
        rintro e v2 ⟨A6, c6, rfl, ho6, hbq⟩
        replace hb := btr hb hbq
        replace hoz := own_below hoz hbq
        replace BZ := BZ.below hbq
        clear hbq
        clear kz0 kz1
        have kz0 := blk_cell BZ (j := 0) rfl
        have kz1 := blk_cell BZ (j := 1) rfl
        clear HT
        go_wp2_with fail
        have HT : Calls Try.prog 27 #[.agg #[.int .i64 z.kinds, .slice A5 z.over.length c5], .int .i64 sv] v2 fun en w' => ∃ A' c', en = .returned (.tuple #[.slice A' BL.length c', .bool false]) ∧ w'.ownsRow v2.heap.size 3 1 (.slice A' BL.length c') BL.length (intCells BL) ∧ Below v2.heap.size v2 w' := by
          have h0 := specBlocked_any A5 c5 z sv v2 hzn (own_le hoz) (own_rd hoz)
          rw [HBe.out] at h0; exact h0
        refine (HT).mono ?_
        rintro e v3 ⟨A7, c7, rfl, ho7, hbq⟩
        replace hb := btr hb hbq
        replace hoz := own_below hoz hbq
        replace ho6 := own_below ho6 hbq
        replace BZ := BZ.below hbq
        clear hbq
        clear kz0 kz1
        have kz0 := blk_cell BZ (j := 0) rfl
        have kz1 := blk_cell BZ (j := 1) rfl
        clear HT
        go_wp2_with fail
        refine (vInts_any A6 A7 c6 c7 BL v3 (by unfold maxLen; omega) (own_rd ho6) (own_rd ho7)).mono ?_
        rintro e v4 ⟨rfl, hbq⟩
        replace hb := btr hb hbq
        replace hoz := own_below hoz hbq
        replace ho6 := own_below ho6 hbq
        replace BZ := BZ.below hbq
        clear hbq
        clear kz0 kz1
        have kz0 := blk_cell BZ (j := 0) rfl
        have kz1 := blk_cell BZ (j := 1) rfl
        clear ho7
        go_wp2_with fail
        have HT : Calls Try.prog 22 #[.agg #[.int .i64 z.kinds, .slice A5 z.over.length c5], .int .i64 sv] v4 fun en w' => ∃ A' c', en = .returned (.tuple #[.slice A' YL.length c', .bool false]) ∧ w'.ownsRow v4.heap.size 3 1 (.slice A' YL.length c') YL.length (intCells YL) ∧ Below v4.heap.size v4 w' := by
          have h0 := yieldsT_any A5 c5 z sv v4 hzn (own_le hoz) (own_rd hoz)
          rw [HYe.out] at h0; exact h0
        refine (HT).mono ?_
        rintro e v5 ⟨A8, c8, rfl, ho8, hbq⟩
        replace hb := btr hb hbq
        replace hoz := own_below hoz hbq
        replace ho6 := own_below ho6 hbq
        replace BZ := BZ.below hbq
        clear hbq
        clear kz0 kz1
        have kz0 := blk_cell BZ (j := 0) rfl
        have kz1 := blk_cell BZ (j := 1) rfl
        clear HT
        go_wp2_with fail
        have HT : Calls Try.prog 21 #[.agg #[.int .i64 z.kinds, .slice A5 z.over.length c5], .int .i64 sv] v5 fun en w' => ∃ A' c', en = .returned (.tuple #[.slice A' YL.length c', .bool false]) ∧ w'.ownsRow v5.heap.size 3 1 (.slice A' YL.length c') YL.length (intCells YL) ∧ Below v5.heap.size v5 w' := by
          have h0 := specYields_any A5 c5 z sv v5 hzn (own_le hoz) (own_rd hoz)
          rw [HYe.out] at h0; exact h0
        refine (HT).mono ?_
        rintro e v6 ⟨A9, c9, rfl, ho9, hbq⟩
        replace hb := btr hb hbq
        replace hoz := own_below hoz hbq
        replace ho6 := own_below ho6 hbq
        replace ho8 := own_below ho8 hbq
        replace BZ := BZ.below hbq
        clear hbq
        clear kz0 kz1
        have kz0 := blk_cell BZ (j := 0) rfl
        have kz1 := blk_cell BZ (j := 1) rfl
        clear HT
        go_wp2_with fail
        refine (vInts_any A8 A9 c8 c9 YL v6 (by unfold maxLen; omega) (own_rd ho8) (own_rd ho9)).mono ?_
        rintro e V7 ⟨rfl, hbq⟩
        replace hb := btr hb hbq
        replace ho6 := own_below ho6 hbq
        replace ho8 := own_below ho8 hbq
        replace BZ := BZ.below hbq
        clear hbq
        clear kz0 kz1
        have kz0 := blk_cell BZ (j := 0) rfl
        have kz1 := blk_cell BZ (j := 1) rfl
        clear ho9 hoz
        go_wp2_with fail
        go_loopw [36] (fun q wr => q = .int .i64 0 ∧ V7 = wr) (fun _ _ => 0)
        case atStart => exact ⟨rfl, rfl⟩
        case round =>
          obtain ⟨rfl, rfl⟩ := hrel
          by_cases h0 : (0 : Int) < z.kinds
          · have h0D : decide ((0 : Int) < z.kinds) = true := by simpa using h0
            go_wp2
            go_ret
            exact ⟨rfl, hb⟩
          · have h0D : decide ((0 : Int) < z.kinds) = false := by simpa using h0
            go_wp2
            go_ret
            exact ⟨rfl, hb⟩
      | true =>
        have HT : Calls Try.prog 28 #[.agg #[.int .i64 z.kinds, .slice A5 z.over.length c5], .int .i64 sv] V fun en w' => ∃ A' c', en = .returned (.tuple #[.slice A' BL.length c', .bool true]) ∧ w'.ownsRow V.heap.size 3 1 (.slice A' BL.length c') BL.length (intCells BL) ∧ Below V.heap.size V w' := by
          have h0 := blocked_any A5 c5 z sv V hzn (own_le hoz) (own_rd hoz)
          rw [HBe.out] at h0; exact h0
        refine (HT).mono ?_
        rintro e v2 ⟨A6, c6, rfl, ho6, hbq⟩
        replace hb := btr hb hbq
        replace hoz := own_below hoz hbq
        replace BZ := BZ.below hbq
        clear hbq
        clear kz0 kz1
        have kz0 := blk_cell BZ (j := 0) rfl
        have kz1 := blk_cell BZ (j := 1) rfl
        clear HT
        go_wp2_with fail
        have HT : Calls Try.prog 27 #[.agg #[.int .i64 z.kinds, .slice A5 z.over.length c5], .int .i64 sv] v2 fun en w' => ∃ A' c', en = .returned (.tuple #[.slice A' BL.length c', .bool true]) ∧ w'.ownsRow v2.heap.size 3 1 (.slice A' BL.length c') BL.length (intCells BL) ∧ Below v2.heap.size v2 w' := by
          have h0 := specBlocked_any A5 c5 z sv v2 hzn (own_le hoz) (own_rd hoz)
          rw [HBe.out] at h0; exact h0
        refine (HT).mono ?_
        rintro e v3 ⟨A7, c7, rfl, ho7, hbq⟩
        replace hb := btr hb hbq
        replace hoz := own_below hoz hbq
        replace ho6 := own_below ho6 hbq
        replace BZ := BZ.below hbq
        clear hbq
        clear kz0 kz1
        have kz0 := blk_cell BZ (j := 0) rfl
        have kz1 := blk_cell BZ (j := 1) rfl
        clear HT
        go_wp2_with fail
        refine (vInts_any A6 A7 c6 c7 BL v3 (by unfold maxLen; omega) (own_rd ho6) (own_rd ho7)).mono ?_
        rintro e v4 ⟨rfl, hbq⟩
        replace hb := btr hb hbq
        replace hoz := own_below hoz hbq
        replace ho6 := own_below ho6 hbq
        replace BZ := BZ.below hbq
        clear hbq
        clear kz0 kz1
        have kz0 := blk_cell BZ (j := 0) rfl
        have kz1 := blk_cell BZ (j := 1) rfl
        clear ho7
        go_wp2_with fail
        have HT : Calls Try.prog 22 #[.agg #[.int .i64 z.kinds, .slice A5 z.over.length c5], .int .i64 sv] v4 fun en w' => ∃ A' c', en = .returned (.tuple #[.slice A' YL.length c', .bool true]) ∧ w'.ownsRow v4.heap.size 3 1 (.slice A' YL.length c') YL.length (intCells YL) ∧ Below v4.heap.size v4 w' := by
          have h0 := yieldsT_any A5 c5 z sv v4 hzn (own_le hoz) (own_rd hoz)
          rw [HYe.out] at h0; exact h0
        refine (HT).mono ?_
        rintro e v5 ⟨A8, c8, rfl, ho8, hbq⟩
        replace hb := btr hb hbq
        replace hoz := own_below hoz hbq
        replace ho6 := own_below ho6 hbq
        replace BZ := BZ.below hbq
        clear hbq
        clear kz0 kz1
        have kz0 := blk_cell BZ (j := 0) rfl
        have kz1 := blk_cell BZ (j := 1) rfl
        clear HT
        go_wp2_with fail
        have HT : Calls Try.prog 21 #[.agg #[.int .i64 z.kinds, .slice A5 z.over.length c5], .int .i64 sv] v5 fun en w' => ∃ A' c', en = .returned (.tuple #[.slice A' YL.length c', .bool true]) ∧ w'.ownsRow v5.heap.size 3 1 (.slice A' YL.length c') YL.length (intCells YL) ∧ Below v5.heap.size v5 w' := by
          have h0 := specYields_any A5 c5 z sv v5 hzn (own_le hoz) (own_rd hoz)
          rw [HYe.out] at h0; exact h0
        refine (HT).mono ?_
        rintro e v6 ⟨A9, c9, rfl, ho9, hbq⟩
        replace hb := btr hb hbq
        replace hoz := own_below hoz hbq
        replace ho6 := own_below ho6 hbq
        replace ho8 := own_below ho8 hbq
        replace BZ := BZ.below hbq
        clear hbq
        clear kz0 kz1
        have kz0 := blk_cell BZ (j := 0) rfl
        have kz1 := blk_cell BZ (j := 1) rfl
        clear HT
        go_wp2_with fail
        refine (vInts_any A8 A9 c8 c9 YL v6 (by unfold maxLen; omega) (own_rd ho8) (own_rd ho9)).mono ?_
        rintro e V7 ⟨rfl, hbq⟩
        replace hb := btr hb hbq
        replace ho6 := own_below ho6 hbq
        replace ho8 := own_below ho8 hbq
        replace BZ := BZ.below hbq
        clear hbq
        clear kz0 kz1
        have kz0 := blk_cell BZ (j := 0) rfl
        have kz1 := blk_cell BZ (j := 1) rfl
        clear ho9 hoz
        obtain ⟨hK, hlaw⟩ := HLAW.out (by trivial)
        have HL2 := Lib.hid hlaw
        clear HLAW hlaw HYe HBe
        obtain ⟨KN, hKN⟩ : ∃ KN : Nat, z.kinds = (KN : Int) := ⟨z.kinds.toNat, by omega⟩
        rw [hKN] at HL2 kz0 BZ
        have hKN8 : KN ≤ 8 := by omega
        have hxY := own_rd ho8
        have hxB := own_rd ho6
        have hb0 := Below.refl V7.heap.size V7
        clear ho6 ho8 hKN hK
        go_wp2_with fail
        go_loopw [36] (fun q wr => ∃ i : Nat, i ≤ KN ∧ q = .int .i64 i ∧ Below V7.heap.size V7 wr) (fun q _ => KN - (intOf q).toNat)
        case atStart => exact ⟨0, by omega, rfl, hb0⟩
        case round =>
          clear hb0
          obtain ⟨i, hi, rfl, hbr⟩ := hrel
          replace BZ := BZ.below hbr
          replace hxY := hxY.below hbr
          replace hxB := hxB.below hbr
          clear kz0 kz1
          have kz0 := blk_cell BZ (j := 0) rfl
          have kz1 := blk_cell BZ (j := 1) rfl
          by_cases hlt : i < KN
          · have hiI : (i : Int) < (KN : Int) := by omega
            have hiD : decide ((i : Int) < (KN : Int)) = true := by simpa using hiI
            by_cases hs : (i : Int) = sv
            · have hsB : ((i : Int) != sv) = false := by simpa using hs
              go_wp2_with fail
              go_roundw
              case rel => exact ⟨i + 1, by omega, by go_num, hbr⟩
              case measure => simp [intOf]; omega
            · have hsB : ((i : Int) != sv) = true := by simpa using hs
              have hq := HL2.out (i : Int) (by omega) (by omega) hs
              have HHY : Hid (∀ w1, Below wr.heap.size wr w1 → Calls Try.prog 46 #[.slice A8 YL.length c8, .int .i64 i] w1 fun e w' => e = .returned (.bool (hasK YL i)) ∧ w1 = w') := fun w1 h1 => vHas_any A8 c8 YL i w1 (by unfold maxLen; omega) (hxY.below h1)
              have HHB : Hid (∀ w1, Below wr.heap.size wr w1 → Calls Try.prog 46 #[.slice A6 BL.length c6, .int .i64 i] w1 fun e w' => e = .returned (.bool (hasK BL i)) ∧ w1 = w') := fun w1 h1 => vHas_any A6 c6 BL i w1 (by unfold maxLen; omega) (hxB.below h1)
              rw [hq] at HHY
              clear hq
              cases hh : hasK BL (i : Int) with
              | false =>
                rw [hh] at HHY HHB
                go_wp2_with fail
                refine (HHY.out _ (Below.refl _ _)).mono ?_
                rintro e w9 ⟨rfl, rfl⟩
                go_wp2_with fail
                refine (HHB.out _ (Below.refl _ _)).mono ?_
                rintro e w9 ⟨rfl, rfl⟩
                go_wp2_with fail
                go_roundw
                case rel => exact ⟨i + 1, by omega, by go_num, hbr⟩
                case measure => simp [intOf]; omega
              | true =>
                rw [hh] at HHY HHB
                go_wp2_with fail
                refine (HHY.out _ (Below.refl _ _)).mono ?_
                rintro e w9 ⟨rfl, rfl⟩
                go_wp2_with fail
                refine (HHB.out _ (Below.refl _ _)).mono ?_
                rintro e w9 ⟨rfl, rfl⟩
                go_wp2_with fail
                go_roundw
                case rel => exact ⟨i + 1, by omega, by go_num, hbr⟩
                case measure => simp [intOf]; omega
          · have hiI : ¬ (i : Int) < (KN : Int) := by omega
            have hiD : decide ((i : Int) < (KN : Int)) = false := by simp; omega
            replace hb := btr hb hbr
            go_wp2
            go_ret
            exact ⟨rfl, hb⟩
  | true =>
    have HT : Calls Try.prog 30 #[.agg #[.int .i64 p.kinds, .slice A1 p.over.length c1]] W fun en w' => ∃ A' c', en = .returned (.tuple #[.slice A' PR.length c', .bool true]) ∧ w'.ownsRow W.heap.size 52 2 (.slice A' PR.length c') PR.length (prCells PR) ∧ Below W.heap.size W w' := by
      have h0 := needP_any A1 c1 p W hpn (own_le ho) (own_rd ho)
      rw [HNe.out] at h0; exact h0
    refine (HT).mono ?_
    rintro e w2 ⟨A2, c2, rfl, ho2, hbq⟩
    replace hb := btr hb hbq
    replace ho := own_below ho hbq
    replace BP := BP.below hbq
    clear hbq
    clear kb0 kb1
    have kb0 := blk_cell BP (j := 0) rfl
    have kb1 := blk_cell BP (j := 1) rfl
    clear HT
    go_wp2_with fail
    have HT : Calls Try.prog 29 #[.agg #[.int .i64 p.kinds, .slice A1 p.over.length c1]] w2 fun en w' => ∃ A' c', en = .returned (.tuple #[.slice A' PR.length c', .bool true]) ∧ w'.ownsRow w2.heap.size 52 2 (.slice A' PR.length c') PR.length (prCells PR) ∧ Below w2.heap.size w2 w' := by
      have h0 := specNeedP_any A1 c1 p w2 hpn (own_le ho) (own_rd ho)
      rw [HNe.out] at h0; exact h0
    refine (HT).mono ?_
    rintro e w3 ⟨A3, c3, rfl, ho3, hbq⟩
    replace hb := btr hb hbq
    replace ho := own_below ho hbq
    replace ho2 := own_below ho2 hbq
    replace BP := BP.below hbq
    clear hbq
    clear kb0 kb1
    have kb0 := blk_cell BP (j := 0) rfl
    have kb1 := blk_cell BP (j := 1) rfl
    clear HT
    go_wp2_with fail
    refine (vPairs_any A2 A3 c2 c3 PR w3 (by unfold maxLen; omega) (own_rd ho2) (own_rd ho3)).mono ?_
    rintro e W4 ⟨rfl, hbq⟩
    replace hb := btr hb hbq
    replace ho := own_below ho hbq
    replace ho2 := own_below ho2 hbq
    replace BP := BP.below hbq
    clear hbq
    clear kb0 kb1
    have kb0 := blk_cell BP (j := 0) rfl
    have kb1 := blk_cell BP (j := 1) rfl
    clear ho3
    obtain ⟨hK, hp16, hnl⟩ := HNW.out (by trivial)
    have HNL := Lib.hid hnl
    clear HNW hnl HNe
    generalize W4 = W at *
    have hwbl : w.heap.size ≤ W.heap.size := hb.size
    have BL : Blk (W.alloc (.cells #[.int .i64 p.kinds, .slice none 0 0] 27)) W.heap.size 27 [.int .i64 p.kinds, .slice none 0 0] := blk_made #[.int .i64 p.kinds, .slice none 0 0] rfl
    have hbn := bnew (Below.refl W.heap.size W) (.cells #[.int .i64 p.kinds, .slice none 0 0] 27)
    have hbW : b < W.heap.size := BP.lt
    have hA1 : ∀ ad, A1 = some ad → ad.block < W.heap.size := fun ad e => by subst e; exact own_top ho _ rfl
    have hA2 : ∀ ad, A2 = some ad → ad.block < W.heap.size := fun ad e => by subst e; exact own_top ho2 _ rfl
    have hx1 := (own_rd ho).below hbn
    have hx2 := (own_rd ho2).below hbn
    have hlc1 := own_le ho
    replace BP := BP.below hbn
    replace hb := btr hb hbn
    clear hbn ho ho2
    go_wp2_with fail
    generalize hWx : W.alloc (.cells #[.int .i64 p.kinds, .slice none 0 0] 27) = W0 at *
    clear hWx kb0 kb1
    generalize W.heap.size = bl at *
    have kb0 := blk_cell BP (j := 0) rfl
    have kb1 := blk_cell BP (j := 1) rfl
    go_loopw [9, 10, 11] (fun q _ _ wr => ∃ (i : Nat) (A' : Option Addr) (c' : Nat) (M : List Pr), q = .int .i64 i ∧ i ≤ p.over.length ∧ Hid (M = (p.over.take i).filter (fun x => !dirB PR x.a x.b)) ∧ M.length ≤ i ∧ Blk wr b 27 [.int .i64 p.kinds, .slice A1 p.over.length c1] ∧ Blk wr bl 27 [.int .i64 p.kinds, .slice A' M.length c'] ∧ wr.ownsRow (bl + 1) 52 2 (.slice A' M.length c') M.length (prCells M) ∧ Rd wr A1 (prCells p.over) ∧ Rd wr A2 (prCells PR) ∧ Below w.heap.size w wr) (fun q _ _ _ => p.over.length - (intOf q).toNat)
    case atStart => exact ⟨0, none, 0, [], rfl, by omega, (by show _ = _; simp), by simp, BP, BL, own_nil, hx1, hx2, hb⟩
    case round =>
      clear BP BL hx1 hx2 hb kb0 kb1
      obtain ⟨i, A', c', M, rfl, hi, HM, hMi, BP, BL, hoM, hx1, hx2, hb⟩ := hrel
      have kb0 := blk_cell BP (j := 0) rfl
      have kb1 := blk_cell BP (j := 1) rfl
      have hblw : w.heap.size ≤ bl := hwbl
      by_cases hlt : i < p.over.length
      · have hiI : (i : Int) < (p.over.length : Int) := by omega
        have HMn : Hid ((p.over.take (i + 1)).filter (fun x => !dirB PR x.a x.b) = M ++ (if dirB PR p.over[i].a p.over[i].b = true then [] else [p.over[i]])) := by
          show _ = _
          rw [List.take_succ_eq_append_getElem hlt, List.filter_append, ← HM.out]
          by_cases h : dirB PR p.over[i].a p.over[i].b = true <;> simp [h]
        obtain ⟨b1, off1, eA, c0, c1'⟩ := Rd.pr hx1 hlt
        have hA1' := hA1 _ eA
        have eA' := Lib.hid eA
        clear eA
        have HDE : Hid (∀ k (hk : k < PR.length), dirB (PR.take (k + 1)) p.over[i].a p.over[i].b = (dirB (PR.take k) p.over[i].a p.over[i].b || (PR[k].a == p.over[i].a && PR[k].b == p.over[i].b))) := fun k hk => by
          rw [List.take_succ_eq_append_getElem hk]; unfold dirB; rw [List.any_append, List.any_cons, List.any_nil, Bool.or_false]
        have HD0 : Hid (false = dirB (PR.take 0) p.over[i].a p.over[i].b) := rfl
        have HDN : Hid (dirB (PR.take PR.length) p.over[i].a p.over[i].b = dirB PR p.over[i].a p.over[i].b) := by show _ = _; rw [List.take_length]
        generalize p.over[i] = x at *
        go_wp2_with fail
        generalize wr = Wo at *
        go_loopw [10, 11] (fun f q wr => ∃ (k : Nat) (nd : Bool), k ≤ PR.length ∧ f = .bool nd ∧ q = .int .i64 k ∧ Hid (nd = dirB (PR.take k) x.a x.b) ∧ Below Wo.heap.size Wo wr) (fun _ q _ => PR.length - (intOf q).toNat)
        case atStart => exact ⟨0, false, by omega, rfl, rfl, HD0, Below.refl _ _⟩
        case round =>
          clear HD0
          obtain ⟨k, nd, hk, rfl, rfl, HN, hbr⟩ := hrel
          have k0r := cell_bel kb0 hbr
          have k1r := cell_bel kb1 hbr
          have d0 := cell_bel c0 hbr
          have d1 := cell_bel c1' hbr
          by_cases hlk : k < PR.length
          · obtain ⟨b2, off2, eB, e0, e1⟩ := Rd.pr (hx2.below hbr) hlk
            have hkI : (k : Int) < (PR.length : Int) := by omega
            have HNn := Lib.hid (HDE.out k hlk)
            generalize PR[k] = y at *
            have he : ∀ w, (Op.equalIn 10000 52 (.agg #[.int .i64 y.a, .int .i64 y.b]) (.agg #[.int .i64 x.a, .int .i64 x.b])).run Try.prog w = .ok (y.a == x.a && y.b == x.b) w := fun w => eq2_run _ _ _ _ w
            generalize (y.a == x.a && y.b == x.b) = ev at *
            have hA := eA'.out
            subst eB
            cases hA
            have g0 := cell_after k0r
            have g1 := cell_after k1r
            have g2 := cell_after d0
            have g3 := cell_after d1
            have g4 := cell_after e0
            have g5 := cell_after e1
            cases nd with
            | true =>
              have HN2 : Hid (true = dirB (PR.take (k + 1)) x.a x.b) := by show _ = _; rw [HNn.out, ← HN.out]; rfl
              clear HN HNn
              go_wp2_with fail
              refine wp_region_after (by kernel_rfl) (by kernel_rfl) ?_
              repeat (go_big_quiet_step (fail))
              refine wpQuiet_nil ?_
              intro nq
              have hb2 := btr hbr nq.bel
              generalize nq.val = W1 at *
              go_wp2_with fail
              go_roundw
              case rel => exact ⟨k + 1, true, by omega, rfl, by go_num, HN2, hb2⟩
              case measure => simp [intOf]; omega
            | false =>
              have HN2 : Hid (ev = dirB (PR.take (k + 1)) x.a x.b) := by show _ = _; rw [HNn.out, ← HN.out]; rfl
              clear HN HNn
              go_wp2_with fail
              refine wp_region_after (by kernel_rfl) (by kernel_rfl) ?_
              repeat (go_big_quiet_step (fail))
              refine wpQuiet_nil ?_
              intro nq
              have hb2 := btr hbr nq.bel
              generalize nq.val = W1 at *
              go_wp2_with fail
              go_roundw
              case rel => exact ⟨k + 1, ev, by omega, rfl, by go_num, HN2, hb2⟩
              case measure => simp [intOf]; omega
          · have hkI : ¬ (k : Int) < (PR.length : Int) := by omega
            have HF : Hid (nd = dirB PR x.a x.b) := HN.out.trans (by rw [show k = PR.length by omega]; exact HDN.out)
            replace BP := BP.below hbr
            replace BL := BL.below hbr
            replace hoM := own_below hoM hbr
            replace hx1 := hx1.below hbr
            replace hx2 := hx2.below hbr
            replace hb := btr hb hbr
            clear HN HDN HDE hbr kb0 kb1 c0 c1' k0r k1r
            cases nd with
            | true =>
              have HM2 : Hid (M = (p.over.take (i + 1)).filter (fun x => !dirB PR x.a x.b)) := by show _ = _; rw [HMn.out, ← HF.out]; simp
              clear HM HMn HF
              go_wp2_with fail
              go_roundw
              case rel => exact ⟨i + 1, A', c', M, by go_num, by omega, HM2, by omega, BP, BL, hoM, hx1, hx2, hb⟩
              case measure => simp [intOf]; omega
            | false =>
              have HM2 : Hid (M ++ [x] = (p.over.take (i + 1)).filter (fun x => !dirB PR x.a x.b)) := by show _ = _; rw [HMn.out, ← HF.out]; simp
              clear HM HMn HF
              generalize wr = W9 at *
              have hA := eA'.out
              cases hA
              have bL := (bnew (Below.refl W9.heap.size W9) (.cells #[.int .i64 x.a, .int .i64 x.b] 52)).drew
              have bD := (Below.refl W9.heap.size W9).drew
              have hblW : bl < W9.heap.size := BL.lt
              have hoL := own_below hoM bL
              have hrd : Rd (W9.alloc (.cells #[.int .i64 x.a, .int .i64 x.b] 52)).drew (some ⟨W9.heap.size, 0, none⟩) [.int .i64 x.a, .int .i64 x.b] := (rd_new' W9 #[.int .i64 x.a, .int .i64 x.b] 52).drew
              have hM1 : ∀ u ∈ ([.int .i64 x.a, .int .i64 x.b] : List Value), u.oneCell' = true := by simp [Value.oneCell']
              have hszM : bl + 1 ≤ (W9.alloc (.cells #[.int .i64 x.a, .int .i64 x.b] 52)).drew.heap.size := Nat.le_trans (show bl + 1 ≤ W9.heap.size by omega) bL.size
              have hbn : some b ≠ (Value.slice A' M.length c').ownBlock := own_ne hoM (by omega)
              have hln : some bl ≠ (Value.slice A' M.length c').ownBlock := own_ne hoM (by omega)
              have h1n : some b1 ≠ (Value.slice A' M.length c').ownBlock := own_ne hoM (show b1 < bl + 1 from Nat.lt_succ_of_lt hA1')
              have hsn : ∀ ad, A2 = some ad → some ad.block ≠ (Value.slice A' M.length c').ownBlock := fun ad e => own_ne hoM (by have := hA2 ad e; omega)
              have f0 := cell_bel (blk_cell BP (j := 0) rfl) bD
              have f1 := cell_bel (blk_cell BP (j := 1) rfl) bD
              have f2 := cell_bel (blk_cell BL (j := 0) rfl) bD
              have f3 := cell_bel (blk_cell BL (j := 1) rfl) bD
              have f4 := cell_bel d0 bD
              have f5 := cell_bel d1 bD
              have BPL := BP.below bL
              have BLL := BL.below bL
              have hdL0 := cell_bel d0 bL
              have hdL1 := cell_bel d1 bL
              have hx1L := hx1.below bL
              have hx2L := hx2.below bL
              have hbL := btr hb bL
              have HCS : Hid (prCells M ++ [.int .i64 x.a, .int .i64 x.b] = prCells (M ++ [x])) := by show _ = _; simp [prCells, Pr.cells]
              have HLN : Hid (M.length + 1 = (M ++ [x]).length) := by show _ = _; simp
              have HM22 : Hid ((M ++ [x]).length ≤ i + 1) := by show _ ≤ _; rw [← HLN.out]; omega
              have hM64 : M.length ≤ 100 := by omega
              have m0 := blk_cell BPL (j := 0) rfl
              have m1 := blk_cell BPL (j := 1) rfl
              have m2 := blk_cell BLL (j := 0) rfl
              have m3 := blk_cell BLL (j := 1) rfl
              clear d0 d1
              go_wp2_with fail
              go_region_law (refine step_app (by rfl) (.tmp 93) (.tmp 99) 22 (by rfl) el_Pr (v := .slice A' M.length c') (by rfl) hoL (by rfl) rfl hrd hM1 (by unfold maxLen; omega) (by omega) hszM ?_; intro A3 c3 w5 h5 hg5 _; have BP5 := BPL.grown hg5 hbn; have BL5 := BLL.grown hg5 hln; have f0 := blk_cell BP5 (j := 0) rfl; have f1 := blk_cell BP5 (j := 1) rfl; have f2 := blk_cell BL5 (j := 0) rfl; have f3 := blk_cell BL5 (j := 1) rfl; have f4 := hg5.cell hdL0 h1n; have f5 := hg5.cell hdL1 h1n; have zl1 := blk_frozen BL5 1; rw [HCS.out, HLN.out] at h5; rw [HLN.out])
              all_goals (
                have hblb : b ≠ bl := by omega
                have BPn := BP5.oset (g := b) (h := bl) hblb 1 (.slice A3 (M.length + 1) c3)
                have BLn : Blk (w5.setCell ⟨bl, 1, none⟩ (.slice A3 (M.length + 1) c3)) bl 27 [.int .i64 p.kinds, .slice A3 (M ++ [x]).length c3] := by rw [← HLN.out]; exact Blk.setj BL5 1 (.slice A3 (M.length + 1) c3)
                have hon := own_setN h5 (own_ne h5 (Nat.lt_succ_self bl)) 1 (.slice A3 (M.length + 1) c3)
                have hx1a := hx1L.grown hg5 (fun ad e => by cases e; exact h1n)
                have hx1n := hx1a.grown (grown_set (World.grownBy.refl w5 (some bl)) 1 (.slice A3 (M.length + 1) c3)) (fun ad e => by cases e; exact fun h => absurd (Option.some.inj h) (Nat.ne_of_lt hA1'))
                have hx2a := hx2L.grown hg5 hsn
                have hx2n := hx2a.grown (grown_set (World.grownBy.refl w5 (some bl)) 1 (.slice A3 (M.length + 1) c3)) (fun ad e => fun h => absurd (Option.some.inj h) (Nat.ne_of_lt (hA2 ad e)))
                have hbn := (hbL.grown hg5 hbL.size (fun k hk => by have := (hoL.lt k hk).1; omega)).setCell (show w.heap.size ≤ bl from hblw) (.slice A3 (M.length + 1) c3) (p := ⟨bl, 1, none⟩)
                go_wp2_with fail
                go_roundw
                case rel => exact ⟨i + 1, A3, c3, M ++ [x], by go_num, by omega, HM2, HM22.out, BPn, BLn, hon, hx1n, hx2n, hbn⟩
                case measure => simp [intOf]; omega)
      · have hiI : ¬ (i : Int) < (p.over.length : Int) := by omega
        have HML : Hid (M = lessL p) := HM.out.trans (by rw [List.take_of_length_le (by omega)]; exact HLE.out.symm)
        clear HM
        generalize wr = W at *
        have hMe := HML.out
        subst hMe
        have hle := own_le hoM
        have hxM := own_rd hoM
        have hML : (lessL p).length ≤ maxLen := by unfold maxLen; omega
        obtain ⟨KN, hKN⟩ : ∃ KN : Nat, p.kinds = (KN : Int) := ⟨p.kinds.toNat, by omega⟩
        have hKN8 : KN ≤ 8 := by omega
        have HKN := Lib.hid hKN
        clear hKN
        have hb0 := Below.refl W.heap.size W
        go_wp2_with fail
        clear hoM hx2 hA1 hA2 HLE kb0 kb1
        go_loopw [12, 13, 14, 15, 16] (fun q _ _ _ _ wr => ∃ k : Nat, k ≤ KN ∧ q = .int .i64 k ∧ Below W.heap.size W wr) (fun q _ _ _ _ _ => KN - (intOf q).toNat)
        case atStart => exact ⟨0, by omega, rfl, hb0⟩
        case round =>
          clear hb0
          obtain ⟨k, hk, rfl, hbr⟩ := hrel
          replace BP := BP.below hbr
          replace BL := BL.below hbr
          replace hx1 := hx1.below hbr
          replace hxM := hxM.below hbr
          replace hb := btr hb hbr
          have kb0 := blk_cell BP (j := 0) rfl
          have kb1 := blk_cell BP (j := 1) rfl
          have kl0 := blk_cell BL (j := 0) rfl
          have kl1 := blk_cell BL (j := 1) rfl
          by_cases hlt : k < KN
          · have hkI : (k : Int) < p.kinds := by have := HKN.out; omega
            obtain ⟨Y, hY8, eY1, eY2⟩ := HNL.out (k : Int) (by omega) (by omega)
            go_wp2_with fail
            have HT : Calls Try.prog 22 #[.agg #[.int .i64 p.kinds, .slice A1 p.over.length c1], .int .i64 k] wr fun en w' => ∃ A' c', en = .returned (.tuple #[.slice A' Y.length c', .bool true]) ∧ w'.ownsRow wr.heap.size 3 1 (.slice A' Y.length c') Y.length (intCells Y) ∧ Below wr.heap.size wr w' := by
              have h0 := yieldsT_any A1 c1 p (k : Int) wr hpn hlc1 hx1
              rw [eY1] at h0; exact h0
            refine HT.mono ?_
            rintro e w2 ⟨A3, c3, rfl, ho3, hb2⟩
            replace BL := BL.below hb2
            replace hxM := hxM.below hb2
            clear HT kb0 kb1 kl0 kl1
            have kl0 := blk_cell BL (j := 0) rfl
            have kl1 := blk_cell BL (j := 1) rfl
            go_wp2_with fail
            have HT : Calls Try.prog 22 #[(.agg #[.int .i64 p.kinds, .slice A' (lessL p).length c']), .int .i64 k] w2 fun en w' => ∃ A' c', en = .returned (.tuple #[.slice A' Y.length c', .bool true]) ∧ w'.ownsRow w2.heap.size 3 1 (.slice A' Y.length c') Y.length (intCells Y) ∧ Below w2.heap.size w2 w' := by
              have h0 := yieldsT_any A' c' ⟨p.kinds, lessL p⟩ (k : Int) w2 hML hle hxM
              rw [eY2] at h0; exact h0
            refine HT.mono ?_
            rintro e w3 ⟨A4, c4, rfl, ho4, hb3⟩
            replace ho3 := own_below ho3 hb3
            have HV := Lib.hid (vInts_any A3 A4 c3 c4 Y w3 (by unfold maxLen; omega) (own_rd ho3) (own_rd ho4))
            go_wp2_with (go_at_call 45; refine HV.out.mono ?_; rintro e w4 ⟨rfl, hb4⟩)
            go_roundw
            case rel => exact ⟨k + 1, by omega, by go_num, btr hbr (btr hb2 (btr hb3 hb4))⟩
            case measure => simp [intOf]; omega
          · have hkI : ¬ (k : Int) < p.kinds := by have := HKN.out; omega
            clear hx1 hxM BL kl0 kl1 HNL
            generalize wr = W at *
            go_wp2_with fail
            refine (drawAdd_any A n c W hn (HR.out.below hb)).mono ?_
            rintro e u1 ⟨A2, c2, x, lo, hi, rfl, hx60, hox, hbq⟩
            have hbn := bnew (Below.refl u1.heap.size u1) (.cells #[.int .i64 x.kinds, .slice A2 x.over.length c2] 27)
            have BX : Blk (u1.alloc (.cells #[.int .i64 x.kinds, .slice A2 x.over.length c2] 27)) u1.heap.size 27 [.int .i64 x.kinds, .slice A2 x.over.length c2] := blk_made #[.int .i64 x.kinds, .slice A2 x.over.length c2] rfl
            replace hb := btr hb (btr hbq hbn)
            replace hox := own_below hox hbn
            clear hbq hbn
            have hxn : x.over.length ≤ maxLen := by unfold maxLen; omega
            go_wp2_with fail
            generalize u1.alloc (.cells #[.int .i64 x.kinds, .slice A2 x.over.length c2] 27) = U at *
            generalize u1.heap.size = bx at *
            have kx0 := blk_cell BX (j := 0) rfl
            have kx1 := blk_cell BX (j := 1) rfl
            have HAL := Lib.hid (add_law (p := x) (x := ⟨lo, hi⟩))
            have hq17 := addP_len x ⟨lo, hi⟩
            obtain ⟨⟨q, tl⟩, hQ⟩ : ∃ R, R = addP x ⟨lo, hi⟩ := ⟨_, rfl⟩
            rw [← hQ] at HAL hq17
            simp only at HAL hq17
            have HQe := Lib.hid hQ.symm
            clear hQ
            have HT : Calls Try.prog 41 #[.agg #[.int .i64 x.kinds, .slice A2 x.over.length c2], .int .i64 lo, .int .i64 hi] U fun en w' => ∃ A' c', en = .returned (.tuple #[.agg #[.int .i64 q.kinds, .slice A' q.over.length c'], .bool tl]) ∧ w'.ownsRow U.heap.size 52 2 (.slice A' q.over.length c') q.over.length (prCells q.over) ∧ Below U.heap.size U w' := by
              have h0 := addPr_any A2 c2 x ⟨lo, hi⟩ U hxn (own_le hox) (own_rd hox)
              rw [HQe.out] at h0; exact h0
            refine (HT).mono ?_
            rintro e u2 ⟨A3, c3, rfl, hoy, hbq⟩
            replace hb := btr hb hbq
            replace hox := own_below hox hbq
            replace BX := BX.below hbq
            clear hbq
            clear kx0 kx1
            have kx0 := blk_cell BX (j := 0) rfl
            have kx1 := blk_cell BX (j := 1) rfl
            clear HT
            have hbn := bnew (Below.refl u2.heap.size u2) (.cells #[.int .i64 q.kinds, .slice A3 q.over.length c3] 27)
            have BY : Blk (u2.alloc (.cells #[.int .i64 q.kinds, .slice A3 q.over.length c3] 27)) u2.heap.size 27 [.int .i64 q.kinds, .slice A3 q.over.length c3] := blk_made #[.int .i64 q.kinds, .slice A3 q.over.length c3] rfl
            replace hb := btr hb hbn
            replace hox := own_below hox hbn
            replace hoy := own_below hoy hbn
            replace BX := BX.below hbn
            clear hbn kx0 kx1
            have kx0 := blk_cell BX (j := 0) rfl
            have kx1 := blk_cell BX (j := 1) rfl
            go_wp2_with fail
            generalize hU2 : u2.alloc (.cells #[.int .i64 q.kinds, .slice A3 q.over.length c3] 27) = U2 at *
            clear hU2
            generalize u2.heap.size = by_ at *
            have ky0 := blk_cell BY (j := 0) rfl
            have ky1 := blk_cell BY (j := 1) rfl
            have HT : Calls Try.prog 40 #[.agg #[.int .i64 x.kinds, .slice A2 x.over.length c2], .int .i64 lo, .int .i64 hi] U2 fun en w' => ∃ A' c', en = .returned (.tuple #[.agg #[.int .i64 q.kinds, .slice A' q.over.length c'], .bool tl]) ∧ w'.ownsRow U2.heap.size 52 2 (.slice A' q.over.length c') q.over.length (prCells q.over) ∧ Below U2.heap.size U2 w' := by
              have h0 := specAddPr_any A2 c2 x ⟨lo, hi⟩ U2 hxn (own_le hox) (own_rd hox)
              rw [HQe.out] at h0; exact h0
            refine (HT).mono ?_
            rintro e u4 ⟨A4, c4, rfl, how, hbq⟩
            replace hb := btr hb hbq
            replace hoy := own_below hoy hbq
            replace BY := BY.below hbq
            clear hbq
            clear ky0 ky1
            have ky0 := blk_cell BY (j := 0) rfl
            have ky1 := blk_cell BY (j := 1) rfl
            clear HT hox BX kx0 kx1
            have hbn := bnew (Below.refl u4.heap.size u4) (.cells #[.int .i64 q.kinds, .slice A4 q.over.length c4] 27)
            have BW : Blk (u4.alloc (.cells #[.int .i64 q.kinds, .slice A4 q.over.length c4] 27)) u4.heap.size 27 [.int .i64 q.kinds, .slice A4 q.over.length c4] := blk_made #[.int .i64 q.kinds, .slice A4 q.over.length c4] rfl
            replace hb := btr hb hbn
            replace hoy := own_below hoy hbn
            replace how := own_below how hbn
            replace BY := BY.below hbn
            clear hbn ky0 ky1
            have ky0 := blk_cell BY (j := 0) rfl
            have ky1 := blk_cell BY (j := 1) rfl
            have kw0 := blk_cell BW (j := 0) rfl
            have kw1 := blk_cell BW (j := 1) rfl
            go_wp2_with fail
            generalize hU4 : u4.alloc (.cells #[.int .i64 q.kinds, .slice A4 q.over.length c4] 27) = U4 at *
            clear hU4
            generalize u4.heap.size = bw at *
            refine (vPairs_any A3 A4 c3 c4 q.over U4 (by unfold maxLen; omega) (own_rd hoy) (own_rd how)).mono ?_
            rintro e u6 ⟨rfl, hbq⟩
            replace hb := btr hb hbq
            replace hoy := own_below hoy hbq
            replace BY := BY.below hbq
            clear hbq
            clear ky0 ky1
            have ky0 := blk_cell BY (j := 0) rfl
            have ky1 := blk_cell BY (j := 1) rfl
            clear how BW kw0 kw1
            cases tl with
            | false =>
              clear HAL HQe hoy BY ky0 ky1
              go_wp2_with fail
              refine (drawBlocked_any A n c u6 hn (HR.out.below hb)).mono ?_
              rintro e v1 ⟨A5, c5, z, sv, rfl, hz60, hoz, hbq⟩
              have hbn := bnew (Below.refl v1.heap.size v1) (.cells #[.int .i64 z.kinds, .slice A5 z.over.length c5] 27)
              have BZ : Blk (v1.alloc (.cells #[.int .i64 z.kinds, .slice A5 z.over.length c5] 27)) v1.heap.size 27 [.int .i64 z.kinds, .slice A5 z.over.length c5] := blk_made #[.int .i64 z.kinds, .slice A5 z.over.length c5] rfl
              replace hb := btr hb (btr hbq hbn)
              replace hoz := own_below hoz hbn
              clear hbq hbn
              obtain ⟨he, hy8, hk8, hlaw⟩ := block_law z sv
              have hzn : z.over.length ≤ maxLen := by unfold maxLen; omega
              go_wp2_with fail
              generalize v1.alloc (.cells #[.int .i64 z.kinds, .slice A5 z.over.length c5] 27) = V at *
              generalize v1.heap.size = bz at *
              have kz0 := blk_cell BZ (j := 0) rfl
              have kz1 := blk_cell BZ (j := 1) rfl
              obtain ⟨⟨YL, kn⟩, hY⟩ : ∃ R, R = yieldsR z sv := ⟨_, rfl⟩
              obtain ⟨⟨BL, kb⟩, hB⟩ : ∃ R, R = blockedR z sv := ⟨_, rfl⟩
              rw [← hY, ← hB] at he hlaw
              rw [← hY] at hy8
              rw [← hB] at hk8
              simp only at he hlaw hy8 hk8
              subst he
              have HLAW := Lib.hid hlaw
              have HYe := Lib.hid hY.symm
              have HBe := Lib.hid hB.symm
              clear hlaw hY hB
              cases kn with
              | false =>
                clear HLAW
                have HT : Calls Try.prog 28 #[.agg #[.int .i64 z.kinds, .slice A5 z.over.length c5], .int .i64 sv] V fun en w' => ∃ A' c', en = .returned (.tuple #[.slice A' BL.length c', .bool false]) ∧ w'.ownsRow V.heap.size 3 1 (.slice A' BL.length c') BL.length (intCells BL) ∧ Below V.heap.size V w' := by
                  have h0 := blocked_any A5 c5 z sv V hzn (own_le hoz) (own_rd hoz)
                  rw [HBe.out] at h0; exact h0
                refine (HT).mono ?_
                rintro e v2 ⟨A6, c6, rfl, ho6, hbq⟩
                replace hb := btr hb hbq
                replace hoz := own_below hoz hbq
                replace BZ := BZ.below hbq
                clear hbq
                clear kz0 kz1
                have kz0 := blk_cell BZ (j := 0) rfl
                have kz1 := blk_cell BZ (j := 1) rfl
                clear HT
                go_wp2_with fail
                have HT : Calls Try.prog 27 #[.agg #[.int .i64 z.kinds, .slice A5 z.over.length c5], .int .i64 sv] v2 fun en w' => ∃ A' c', en = .returned (.tuple #[.slice A' BL.length c', .bool false]) ∧ w'.ownsRow v2.heap.size 3 1 (.slice A' BL.length c') BL.length (intCells BL) ∧ Below v2.heap.size v2 w' := by
                  have h0 := specBlocked_any A5 c5 z sv v2 hzn (own_le hoz) (own_rd hoz)
                  rw [HBe.out] at h0; exact h0
                refine (HT).mono ?_
                rintro e v3 ⟨A7, c7, rfl, ho7, hbq⟩
                replace hb := btr hb hbq
                replace hoz := own_below hoz hbq
                replace ho6 := own_below ho6 hbq
                replace BZ := BZ.below hbq
                clear hbq
                clear kz0 kz1
                have kz0 := blk_cell BZ (j := 0) rfl
                have kz1 := blk_cell BZ (j := 1) rfl
                clear HT
                go_wp2_with fail
                refine (vInts_any A6 A7 c6 c7 BL v3 (by unfold maxLen; omega) (own_rd ho6) (own_rd ho7)).mono ?_
                rintro e v4 ⟨rfl, hbq⟩
                replace hb := btr hb hbq
                replace hoz := own_below hoz hbq
                replace ho6 := own_below ho6 hbq
                replace BZ := BZ.below hbq
                clear hbq
                clear kz0 kz1
                have kz0 := blk_cell BZ (j := 0) rfl
                have kz1 := blk_cell BZ (j := 1) rfl
                clear ho7
                go_wp2_with fail
                have HT : Calls Try.prog 22 #[.agg #[.int .i64 z.kinds, .slice A5 z.over.length c5], .int .i64 sv] v4 fun en w' => ∃ A' c', en = .returned (.tuple #[.slice A' YL.length c', .bool false]) ∧ w'.ownsRow v4.heap.size 3 1 (.slice A' YL.length c') YL.length (intCells YL) ∧ Below v4.heap.size v4 w' := by
                  have h0 := yieldsT_any A5 c5 z sv v4 hzn (own_le hoz) (own_rd hoz)
                  rw [HYe.out] at h0; exact h0
                refine (HT).mono ?_
                rintro e v5 ⟨A8, c8, rfl, ho8, hbq⟩
                replace hb := btr hb hbq
                replace hoz := own_below hoz hbq
                replace ho6 := own_below ho6 hbq
                replace BZ := BZ.below hbq
                clear hbq
                clear kz0 kz1
                have kz0 := blk_cell BZ (j := 0) rfl
                have kz1 := blk_cell BZ (j := 1) rfl
                clear HT
                go_wp2_with fail
                have HT : Calls Try.prog 21 #[.agg #[.int .i64 z.kinds, .slice A5 z.over.length c5], .int .i64 sv] v5 fun en w' => ∃ A' c', en = .returned (.tuple #[.slice A' YL.length c', .bool false]) ∧ w'.ownsRow v5.heap.size 3 1 (.slice A' YL.length c') YL.length (intCells YL) ∧ Below v5.heap.size v5 w' := by
                  have h0 := specYields_any A5 c5 z sv v5 hzn (own_le hoz) (own_rd hoz)
                  rw [HYe.out] at h0; exact h0
                refine (HT).mono ?_
                rintro e v6 ⟨A9, c9, rfl, ho9, hbq⟩
                replace hb := btr hb hbq
                replace hoz := own_below hoz hbq
                replace ho6 := own_below ho6 hbq
                replace ho8 := own_below ho8 hbq
                replace BZ := BZ.below hbq
                clear hbq
                clear kz0 kz1
                have kz0 := blk_cell BZ (j := 0) rfl
                have kz1 := blk_cell BZ (j := 1) rfl
                clear HT
                go_wp2_with fail
                refine (vInts_any A8 A9 c8 c9 YL v6 (by unfold maxLen; omega) (own_rd ho8) (own_rd ho9)).mono ?_
                rintro e V7 ⟨rfl, hbq⟩
                replace hb := btr hb hbq
                replace ho6 := own_below ho6 hbq
                replace ho8 := own_below ho8 hbq
                replace BZ := BZ.below hbq
                clear hbq
                clear kz0 kz1
                have kz0 := blk_cell BZ (j := 0) rfl
                have kz1 := blk_cell BZ (j := 1) rfl
                clear ho9 hoz
                go_wp2_with fail
                go_loopw [36] (fun q wr => q = .int .i64 0 ∧ V7 = wr) (fun _ _ => 0)
                case atStart => exact ⟨rfl, rfl⟩
                case round =>
                  obtain ⟨rfl, rfl⟩ := hrel
                  by_cases h0 : (0 : Int) < z.kinds
                  · have h0D : decide ((0 : Int) < z.kinds) = true := by simpa using h0
                    go_wp2
                    go_ret
                    exact ⟨rfl, hb⟩
                  · have h0D : decide ((0 : Int) < z.kinds) = false := by simpa using h0
                    go_wp2
                    go_ret
                    exact ⟨rfl, hb⟩
              | true =>
                have HT : Calls Try.prog 28 #[.agg #[.int .i64 z.kinds, .slice A5 z.over.length c5], .int .i64 sv] V fun en w' => ∃ A' c', en = .returned (.tuple #[.slice A' BL.length c', .bool true]) ∧ w'.ownsRow V.heap.size 3 1 (.slice A' BL.length c') BL.length (intCells BL) ∧ Below V.heap.size V w' := by
                  have h0 := blocked_any A5 c5 z sv V hzn (own_le hoz) (own_rd hoz)
                  rw [HBe.out] at h0; exact h0
                refine (HT).mono ?_
                rintro e v2 ⟨A6, c6, rfl, ho6, hbq⟩
                replace hb := btr hb hbq
                replace hoz := own_below hoz hbq
                replace BZ := BZ.below hbq
                clear hbq
                clear kz0 kz1
                have kz0 := blk_cell BZ (j := 0) rfl
                have kz1 := blk_cell BZ (j := 1) rfl
                clear HT
                go_wp2_with fail
                have HT : Calls Try.prog 27 #[.agg #[.int .i64 z.kinds, .slice A5 z.over.length c5], .int .i64 sv] v2 fun en w' => ∃ A' c', en = .returned (.tuple #[.slice A' BL.length c', .bool true]) ∧ w'.ownsRow v2.heap.size 3 1 (.slice A' BL.length c') BL.length (intCells BL) ∧ Below v2.heap.size v2 w' := by
                  have h0 := specBlocked_any A5 c5 z sv v2 hzn (own_le hoz) (own_rd hoz)
                  rw [HBe.out] at h0; exact h0
                refine (HT).mono ?_
                rintro e v3 ⟨A7, c7, rfl, ho7, hbq⟩
                replace hb := btr hb hbq
                replace hoz := own_below hoz hbq
                replace ho6 := own_below ho6 hbq
                replace BZ := BZ.below hbq
                clear hbq
                clear kz0 kz1
                have kz0 := blk_cell BZ (j := 0) rfl
                have kz1 := blk_cell BZ (j := 1) rfl
                clear HT
                go_wp2_with fail
                refine (vInts_any A6 A7 c6 c7 BL v3 (by unfold maxLen; omega) (own_rd ho6) (own_rd ho7)).mono ?_
                rintro e v4 ⟨rfl, hbq⟩
                replace hb := btr hb hbq
                replace hoz := own_below hoz hbq
                replace ho6 := own_below ho6 hbq
                replace BZ := BZ.below hbq
                clear hbq
                clear kz0 kz1
                have kz0 := blk_cell BZ (j := 0) rfl
                have kz1 := blk_cell BZ (j := 1) rfl
                clear ho7
                go_wp2_with fail
                have HT : Calls Try.prog 22 #[.agg #[.int .i64 z.kinds, .slice A5 z.over.length c5], .int .i64 sv] v4 fun en w' => ∃ A' c', en = .returned (.tuple #[.slice A' YL.length c', .bool true]) ∧ w'.ownsRow v4.heap.size 3 1 (.slice A' YL.length c') YL.length (intCells YL) ∧ Below v4.heap.size v4 w' := by
                  have h0 := yieldsT_any A5 c5 z sv v4 hzn (own_le hoz) (own_rd hoz)
                  rw [HYe.out] at h0; exact h0
                refine (HT).mono ?_
                rintro e v5 ⟨A8, c8, rfl, ho8, hbq⟩
                replace hb := btr hb hbq
                replace hoz := own_below hoz hbq
                replace ho6 := own_below ho6 hbq
                replace BZ := BZ.below hbq
                clear hbq
                clear kz0 kz1
                have kz0 := blk_cell BZ (j := 0) rfl
                have kz1 := blk_cell BZ (j := 1) rfl
                clear HT
                go_wp2_with fail
                have HT : Calls Try.prog 21 #[.agg #[.int .i64 z.kinds, .slice A5 z.over.length c5], .int .i64 sv] v5 fun en w' => ∃ A' c', en = .returned (.tuple #[.slice A' YL.length c', .bool true]) ∧ w'.ownsRow v5.heap.size 3 1 (.slice A' YL.length c') YL.length (intCells YL) ∧ Below v5.heap.size v5 w' := by
                  have h0 := specYields_any A5 c5 z sv v5 hzn (own_le hoz) (own_rd hoz)
                  rw [HYe.out] at h0; exact h0
                refine (HT).mono ?_
                rintro e v6 ⟨A9, c9, rfl, ho9, hbq⟩
                replace hb := btr hb hbq
                replace hoz := own_below hoz hbq
                replace ho6 := own_below ho6 hbq
                replace ho8 := own_below ho8 hbq
                replace BZ := BZ.below hbq
                clear hbq
                clear kz0 kz1
                have kz0 := blk_cell BZ (j := 0) rfl
                have kz1 := blk_cell BZ (j := 1) rfl
                clear HT
                go_wp2_with fail
                refine (vInts_any A8 A9 c8 c9 YL v6 (by unfold maxLen; omega) (own_rd ho8) (own_rd ho9)).mono ?_
                rintro e V7 ⟨rfl, hbq⟩
                replace hb := btr hb hbq
                replace ho6 := own_below ho6 hbq
                replace ho8 := own_below ho8 hbq
                replace BZ := BZ.below hbq
                clear hbq
                clear kz0 kz1
                have kz0 := blk_cell BZ (j := 0) rfl
                have kz1 := blk_cell BZ (j := 1) rfl
                clear ho9 hoz
                obtain ⟨hK, hlaw⟩ := HLAW.out (by trivial)
                have HL2 := Lib.hid hlaw
                clear HLAW hlaw HYe HBe
                obtain ⟨KN, hKN⟩ : ∃ KN : Nat, z.kinds = (KN : Int) := ⟨z.kinds.toNat, by omega⟩
                rw [hKN] at HL2 kz0 BZ
                have hKN8 : KN ≤ 8 := by omega
                have hxY := own_rd ho8
                have hxB := own_rd ho6
                have hb0 := Below.refl V7.heap.size V7
                clear ho6 ho8 hKN hK
                go_wp2_with fail
                go_loopw [36] (fun q wr => ∃ i : Nat, i ≤ KN ∧ q = .int .i64 i ∧ Below V7.heap.size V7 wr) (fun q _ => KN - (intOf q).toNat)
                case atStart => exact ⟨0, by omega, rfl, hb0⟩
                case round =>
                  clear hb0
                  obtain ⟨i, hi, rfl, hbr⟩ := hrel
                  replace BZ := BZ.below hbr
                  replace hxY := hxY.below hbr
                  replace hxB := hxB.below hbr
                  clear kz0 kz1
                  have kz0 := blk_cell BZ (j := 0) rfl
                  have kz1 := blk_cell BZ (j := 1) rfl
                  by_cases hlt : i < KN
                  · have hiI : (i : Int) < (KN : Int) := by omega
                    have hiD : decide ((i : Int) < (KN : Int)) = true := by simpa using hiI
                    by_cases hs : (i : Int) = sv
                    · have hsB : ((i : Int) != sv) = false := by simpa using hs
                      go_wp2_with fail
                      go_roundw
                      case rel => exact ⟨i + 1, by omega, by go_num, hbr⟩
                      case measure => simp [intOf]; omega
                    · have hsB : ((i : Int) != sv) = true := by simpa using hs
                      have hq := HL2.out (i : Int) (by omega) (by omega) hs
                      have HHY : Hid (∀ w1, Below wr.heap.size wr w1 → Calls Try.prog 46 #[.slice A8 YL.length c8, .int .i64 i] w1 fun e w' => e = .returned (.bool (hasK YL i)) ∧ w1 = w') := fun w1 h1 => vHas_any A8 c8 YL i w1 (by unfold maxLen; omega) (hxY.below h1)
                      have HHB : Hid (∀ w1, Below wr.heap.size wr w1 → Calls Try.prog 46 #[.slice A6 BL.length c6, .int .i64 i] w1 fun e w' => e = .returned (.bool (hasK BL i)) ∧ w1 = w') := fun w1 h1 => vHas_any A6 c6 BL i w1 (by unfold maxLen; omega) (hxB.below h1)
                      rw [hq] at HHY
                      clear hq
                      cases hh : hasK BL (i : Int) with
                      | false =>
                        rw [hh] at HHY HHB
                        go_wp2_with fail
                        refine (HHY.out _ (Below.refl _ _)).mono ?_
                        rintro e w9 ⟨rfl, rfl⟩
                        go_wp2_with fail
                        refine (HHB.out _ (Below.refl _ _)).mono ?_
                        rintro e w9 ⟨rfl, rfl⟩
                        go_wp2_with fail
                        go_roundw
                        case rel => exact ⟨i + 1, by omega, by go_num, hbr⟩
                        case measure => simp [intOf]; omega
                      | true =>
                        rw [hh] at HHY HHB
                        go_wp2_with fail
                        refine (HHY.out _ (Below.refl _ _)).mono ?_
                        rintro e w9 ⟨rfl, rfl⟩
                        go_wp2_with fail
                        refine (HHB.out _ (Below.refl _ _)).mono ?_
                        rintro e w9 ⟨rfl, rfl⟩
                        go_wp2_with fail
                        go_roundw
                        case rel => exact ⟨i + 1, by omega, by go_num, hbr⟩
                        case measure => simp [intOf]; omega
                  · have hiI : ¬ (i : Int) < (KN : Int) := by omega
                    have hiD : decide ((i : Int) < (KN : Int)) = false := by simp; omega
                    replace hb := btr hb hbr
                    go_wp2
                    go_ret
                    exact ⟨rfl, hb⟩
            | true =>
              obtain ⟨Y, hY8, eY, hh⟩ := HAL.out (by trivial)
              clear HAL HQe
              have HT : Calls Try.prog 22 #[.agg #[.int .i64 q.kinds, .slice A3 q.over.length c3], .int .i64 lo] u6 fun en w' => ∃ A' c', en = .returned (.tuple #[.slice A' Y.length c', .bool true]) ∧ w'.ownsRow u6.heap.size 3 1 (.slice A' Y.length c') Y.length (intCells Y) ∧ Below u6.heap.size u6 w' := by
                have h0 := yieldsT_any A3 c3 q lo u6 (by unfold maxLen; omega) (own_le hoy) (own_rd hoy)
                rw [eY] at h0; exact h0
              go_wp2_with fail
              refine (HT).mono ?_
              rintro e u7 ⟨A5, c5, rfl, ho5, hbq⟩
              replace hb := btr hb hbq
              clear hbq
              clear HT hoy BY ky0 ky1
              have HH := vHas_any A5 c5 Y hi u7 (by unfold maxLen; omega) (own_rd ho5)
              rw [hh] at HH
              go_wp2_with (go_at_call 46; refine HH.mono ?_; rintro e w9 ⟨rfl, rfl⟩)
              clear HH ho5 eY hh
              refine (drawBlocked_any A n c u7 hn (HR.out.below hb)).mono ?_
              rintro e v1 ⟨A5, c5, z, sv, rfl, hz60, hoz, hbq⟩
              have hbn := bnew (Below.refl v1.heap.size v1) (.cells #[.int .i64 z.kinds, .slice A5 z.over.length c5] 27)
              have BZ : Blk (v1.alloc (.cells #[.int .i64 z.kinds, .slice A5 z.over.length c5] 27)) v1.heap.size 27 [.int .i64 z.kinds, .slice A5 z.over.length c5] := blk_made #[.int .i64 z.kinds, .slice A5 z.over.length c5] rfl
              replace hb := btr hb (btr hbq hbn)
              replace hoz := own_below hoz hbn
              clear hbq hbn
              obtain ⟨he, hy8, hk8, hlaw⟩ := block_law z sv
              have hzn : z.over.length ≤ maxLen := by unfold maxLen; omega
              go_wp2_with fail
              generalize v1.alloc (.cells #[.int .i64 z.kinds, .slice A5 z.over.length c5] 27) = V at *
              generalize v1.heap.size = bz at *
              have kz0 := blk_cell BZ (j := 0) rfl
              have kz1 := blk_cell BZ (j := 1) rfl
              obtain ⟨⟨YL, kn⟩, hY⟩ : ∃ R, R = yieldsR z sv := ⟨_, rfl⟩
              obtain ⟨⟨BL, kb⟩, hB⟩ : ∃ R, R = blockedR z sv := ⟨_, rfl⟩
              rw [← hY, ← hB] at he hlaw
              rw [← hY] at hy8
              rw [← hB] at hk8
              simp only at he hlaw hy8 hk8
              subst he
              have HLAW := Lib.hid hlaw
              have HYe := Lib.hid hY.symm
              have HBe := Lib.hid hB.symm
              clear hlaw hY hB
              cases kn with
              | false =>
                clear HLAW
                have HT : Calls Try.prog 28 #[.agg #[.int .i64 z.kinds, .slice A5 z.over.length c5], .int .i64 sv] V fun en w' => ∃ A' c', en = .returned (.tuple #[.slice A' BL.length c', .bool false]) ∧ w'.ownsRow V.heap.size 3 1 (.slice A' BL.length c') BL.length (intCells BL) ∧ Below V.heap.size V w' := by
                  have h0 := blocked_any A5 c5 z sv V hzn (own_le hoz) (own_rd hoz)
                  rw [HBe.out] at h0; exact h0
                refine (HT).mono ?_
                rintro e v2 ⟨A6, c6, rfl, ho6, hbq⟩
                replace hb := btr hb hbq
                replace hoz := own_below hoz hbq
                replace BZ := BZ.below hbq
                clear hbq
                clear kz0 kz1
                have kz0 := blk_cell BZ (j := 0) rfl
                have kz1 := blk_cell BZ (j := 1) rfl
                clear HT
                go_wp2_with fail
                have HT : Calls Try.prog 27 #[.agg #[.int .i64 z.kinds, .slice A5 z.over.length c5], .int .i64 sv] v2 fun en w' => ∃ A' c', en = .returned (.tuple #[.slice A' BL.length c', .bool false]) ∧ w'.ownsRow v2.heap.size 3 1 (.slice A' BL.length c') BL.length (intCells BL) ∧ Below v2.heap.size v2 w' := by
                  have h0 := specBlocked_any A5 c5 z sv v2 hzn (own_le hoz) (own_rd hoz)
                  rw [HBe.out] at h0; exact h0
                refine (HT).mono ?_
                rintro e v3 ⟨A7, c7, rfl, ho7, hbq⟩
                replace hb := btr hb hbq
                replace hoz := own_below hoz hbq
                replace ho6 := own_below ho6 hbq
                replace BZ := BZ.below hbq
                clear hbq
                clear kz0 kz1
                have kz0 := blk_cell BZ (j := 0) rfl
                have kz1 := blk_cell BZ (j := 1) rfl
                clear HT
                go_wp2_with fail
                refine (vInts_any A6 A7 c6 c7 BL v3 (by unfold maxLen; omega) (own_rd ho6) (own_rd ho7)).mono ?_
                rintro e v4 ⟨rfl, hbq⟩
                replace hb := btr hb hbq
                replace hoz := own_below hoz hbq
                replace ho6 := own_below ho6 hbq
                replace BZ := BZ.below hbq
                clear hbq
                clear kz0 kz1
                have kz0 := blk_cell BZ (j := 0) rfl
                have kz1 := blk_cell BZ (j := 1) rfl
                clear ho7
                go_wp2_with fail
                have HT : Calls Try.prog 22 #[.agg #[.int .i64 z.kinds, .slice A5 z.over.length c5], .int .i64 sv] v4 fun en w' => ∃ A' c', en = .returned (.tuple #[.slice A' YL.length c', .bool false]) ∧ w'.ownsRow v4.heap.size 3 1 (.slice A' YL.length c') YL.length (intCells YL) ∧ Below v4.heap.size v4 w' := by
                  have h0 := yieldsT_any A5 c5 z sv v4 hzn (own_le hoz) (own_rd hoz)
                  rw [HYe.out] at h0; exact h0
                refine (HT).mono ?_
                rintro e v5 ⟨A8, c8, rfl, ho8, hbq⟩
                replace hb := btr hb hbq
                replace hoz := own_below hoz hbq
                replace ho6 := own_below ho6 hbq
                replace BZ := BZ.below hbq
                clear hbq
                clear kz0 kz1
                have kz0 := blk_cell BZ (j := 0) rfl
                have kz1 := blk_cell BZ (j := 1) rfl
                clear HT
                go_wp2_with fail
                have HT : Calls Try.prog 21 #[.agg #[.int .i64 z.kinds, .slice A5 z.over.length c5], .int .i64 sv] v5 fun en w' => ∃ A' c', en = .returned (.tuple #[.slice A' YL.length c', .bool false]) ∧ w'.ownsRow v5.heap.size 3 1 (.slice A' YL.length c') YL.length (intCells YL) ∧ Below v5.heap.size v5 w' := by
                  have h0 := specYields_any A5 c5 z sv v5 hzn (own_le hoz) (own_rd hoz)
                  rw [HYe.out] at h0; exact h0
                refine (HT).mono ?_
                rintro e v6 ⟨A9, c9, rfl, ho9, hbq⟩
                replace hb := btr hb hbq
                replace hoz := own_below hoz hbq
                replace ho6 := own_below ho6 hbq
                replace ho8 := own_below ho8 hbq
                replace BZ := BZ.below hbq
                clear hbq
                clear kz0 kz1
                have kz0 := blk_cell BZ (j := 0) rfl
                have kz1 := blk_cell BZ (j := 1) rfl
                clear HT
                go_wp2_with fail
                refine (vInts_any A8 A9 c8 c9 YL v6 (by unfold maxLen; omega) (own_rd ho8) (own_rd ho9)).mono ?_
                rintro e V7 ⟨rfl, hbq⟩
                replace hb := btr hb hbq
                replace ho6 := own_below ho6 hbq
                replace ho8 := own_below ho8 hbq
                replace BZ := BZ.below hbq
                clear hbq
                clear kz0 kz1
                have kz0 := blk_cell BZ (j := 0) rfl
                have kz1 := blk_cell BZ (j := 1) rfl
                clear ho9 hoz
                go_wp2_with fail
                go_loopw [36] (fun q wr => q = .int .i64 0 ∧ V7 = wr) (fun _ _ => 0)
                case atStart => exact ⟨rfl, rfl⟩
                case round =>
                  obtain ⟨rfl, rfl⟩ := hrel
                  by_cases h0 : (0 : Int) < z.kinds
                  · have h0D : decide ((0 : Int) < z.kinds) = true := by simpa using h0
                    go_wp2
                    go_ret
                    exact ⟨rfl, hb⟩
                  · have h0D : decide ((0 : Int) < z.kinds) = false := by simpa using h0
                    go_wp2
                    go_ret
                    exact ⟨rfl, hb⟩
              | true =>
                have HT : Calls Try.prog 28 #[.agg #[.int .i64 z.kinds, .slice A5 z.over.length c5], .int .i64 sv] V fun en w' => ∃ A' c', en = .returned (.tuple #[.slice A' BL.length c', .bool true]) ∧ w'.ownsRow V.heap.size 3 1 (.slice A' BL.length c') BL.length (intCells BL) ∧ Below V.heap.size V w' := by
                  have h0 := blocked_any A5 c5 z sv V hzn (own_le hoz) (own_rd hoz)
                  rw [HBe.out] at h0; exact h0
                refine (HT).mono ?_
                rintro e v2 ⟨A6, c6, rfl, ho6, hbq⟩
                replace hb := btr hb hbq
                replace hoz := own_below hoz hbq
                replace BZ := BZ.below hbq
                clear hbq
                clear kz0 kz1
                have kz0 := blk_cell BZ (j := 0) rfl
                have kz1 := blk_cell BZ (j := 1) rfl
                clear HT
                go_wp2_with fail
                have HT : Calls Try.prog 27 #[.agg #[.int .i64 z.kinds, .slice A5 z.over.length c5], .int .i64 sv] v2 fun en w' => ∃ A' c', en = .returned (.tuple #[.slice A' BL.length c', .bool true]) ∧ w'.ownsRow v2.heap.size 3 1 (.slice A' BL.length c') BL.length (intCells BL) ∧ Below v2.heap.size v2 w' := by
                  have h0 := specBlocked_any A5 c5 z sv v2 hzn (own_le hoz) (own_rd hoz)
                  rw [HBe.out] at h0; exact h0
                refine (HT).mono ?_
                rintro e v3 ⟨A7, c7, rfl, ho7, hbq⟩
                replace hb := btr hb hbq
                replace hoz := own_below hoz hbq
                replace ho6 := own_below ho6 hbq
                replace BZ := BZ.below hbq
                clear hbq
                clear kz0 kz1
                have kz0 := blk_cell BZ (j := 0) rfl
                have kz1 := blk_cell BZ (j := 1) rfl
                clear HT
                go_wp2_with fail
                refine (vInts_any A6 A7 c6 c7 BL v3 (by unfold maxLen; omega) (own_rd ho6) (own_rd ho7)).mono ?_
                rintro e v4 ⟨rfl, hbq⟩
                replace hb := btr hb hbq
                replace hoz := own_below hoz hbq
                replace ho6 := own_below ho6 hbq
                replace BZ := BZ.below hbq
                clear hbq
                clear kz0 kz1
                have kz0 := blk_cell BZ (j := 0) rfl
                have kz1 := blk_cell BZ (j := 1) rfl
                clear ho7
                go_wp2_with fail
                have HT : Calls Try.prog 22 #[.agg #[.int .i64 z.kinds, .slice A5 z.over.length c5], .int .i64 sv] v4 fun en w' => ∃ A' c', en = .returned (.tuple #[.slice A' YL.length c', .bool true]) ∧ w'.ownsRow v4.heap.size 3 1 (.slice A' YL.length c') YL.length (intCells YL) ∧ Below v4.heap.size v4 w' := by
                  have h0 := yieldsT_any A5 c5 z sv v4 hzn (own_le hoz) (own_rd hoz)
                  rw [HYe.out] at h0; exact h0
                refine (HT).mono ?_
                rintro e v5 ⟨A8, c8, rfl, ho8, hbq⟩
                replace hb := btr hb hbq
                replace hoz := own_below hoz hbq
                replace ho6 := own_below ho6 hbq
                replace BZ := BZ.below hbq
                clear hbq
                clear kz0 kz1
                have kz0 := blk_cell BZ (j := 0) rfl
                have kz1 := blk_cell BZ (j := 1) rfl
                clear HT
                go_wp2_with fail
                have HT : Calls Try.prog 21 #[.agg #[.int .i64 z.kinds, .slice A5 z.over.length c5], .int .i64 sv] v5 fun en w' => ∃ A' c', en = .returned (.tuple #[.slice A' YL.length c', .bool true]) ∧ w'.ownsRow v5.heap.size 3 1 (.slice A' YL.length c') YL.length (intCells YL) ∧ Below v5.heap.size v5 w' := by
                  have h0 := specYields_any A5 c5 z sv v5 hzn (own_le hoz) (own_rd hoz)
                  rw [HYe.out] at h0; exact h0
                refine (HT).mono ?_
                rintro e v6 ⟨A9, c9, rfl, ho9, hbq⟩
                replace hb := btr hb hbq
                replace hoz := own_below hoz hbq
                replace ho6 := own_below ho6 hbq
                replace ho8 := own_below ho8 hbq
                replace BZ := BZ.below hbq
                clear hbq
                clear kz0 kz1
                have kz0 := blk_cell BZ (j := 0) rfl
                have kz1 := blk_cell BZ (j := 1) rfl
                clear HT
                go_wp2_with fail
                refine (vInts_any A8 A9 c8 c9 YL v6 (by unfold maxLen; omega) (own_rd ho8) (own_rd ho9)).mono ?_
                rintro e V7 ⟨rfl, hbq⟩
                replace hb := btr hb hbq
                replace ho6 := own_below ho6 hbq
                replace ho8 := own_below ho8 hbq
                replace BZ := BZ.below hbq
                clear hbq
                clear kz0 kz1
                have kz0 := blk_cell BZ (j := 0) rfl
                have kz1 := blk_cell BZ (j := 1) rfl
                clear ho9 hoz
                obtain ⟨hK, hlaw⟩ := HLAW.out (by trivial)
                have HL2 := Lib.hid hlaw
                clear HLAW hlaw HYe HBe
                obtain ⟨KN, hKN⟩ : ∃ KN : Nat, z.kinds = (KN : Int) := ⟨z.kinds.toNat, by omega⟩
                rw [hKN] at HL2 kz0 BZ
                have hKN8 : KN ≤ 8 := by omega
                have hxY := own_rd ho8
                have hxB := own_rd ho6
                have hb0 := Below.refl V7.heap.size V7
                clear ho6 ho8 hKN hK
                go_wp2_with fail
                go_loopw [36] (fun q wr => ∃ i : Nat, i ≤ KN ∧ q = .int .i64 i ∧ Below V7.heap.size V7 wr) (fun q _ => KN - (intOf q).toNat)
                case atStart => exact ⟨0, by omega, rfl, hb0⟩
                case round =>
                  clear hb0
                  obtain ⟨i, hi, rfl, hbr⟩ := hrel
                  replace BZ := BZ.below hbr
                  replace hxY := hxY.below hbr
                  replace hxB := hxB.below hbr
                  clear kz0 kz1
                  have kz0 := blk_cell BZ (j := 0) rfl
                  have kz1 := blk_cell BZ (j := 1) rfl
                  by_cases hlt : i < KN
                  · have hiI : (i : Int) < (KN : Int) := by omega
                    have hiD : decide ((i : Int) < (KN : Int)) = true := by simpa using hiI
                    by_cases hs : (i : Int) = sv
                    · have hsB : ((i : Int) != sv) = false := by simpa using hs
                      go_wp2_with fail
                      go_roundw
                      case rel => exact ⟨i + 1, by omega, by go_num, hbr⟩
                      case measure => simp [intOf]; omega
                    · have hsB : ((i : Int) != sv) = true := by simpa using hs
                      have hq := HL2.out (i : Int) (by omega) (by omega) hs
                      have HHY : Hid (∀ w1, Below wr.heap.size wr w1 → Calls Try.prog 46 #[.slice A8 YL.length c8, .int .i64 i] w1 fun e w' => e = .returned (.bool (hasK YL i)) ∧ w1 = w') := fun w1 h1 => vHas_any A8 c8 YL i w1 (by unfold maxLen; omega) (hxY.below h1)
                      have HHB : Hid (∀ w1, Below wr.heap.size wr w1 → Calls Try.prog 46 #[.slice A6 BL.length c6, .int .i64 i] w1 fun e w' => e = .returned (.bool (hasK BL i)) ∧ w1 = w') := fun w1 h1 => vHas_any A6 c6 BL i w1 (by unfold maxLen; omega) (hxB.below h1)
                      rw [hq] at HHY
                      clear hq
                      cases hh : hasK BL (i : Int) with
                      | false =>
                        rw [hh] at HHY HHB
                        go_wp2_with fail
                        refine (HHY.out _ (Below.refl _ _)).mono ?_
                        rintro e w9 ⟨rfl, rfl⟩
                        go_wp2_with fail
                        refine (HHB.out _ (Below.refl _ _)).mono ?_
                        rintro e w9 ⟨rfl, rfl⟩
                        go_wp2_with fail
                        go_roundw
                        case rel => exact ⟨i + 1, by omega, by go_num, hbr⟩
                        case measure => simp [intOf]; omega
                      | true =>
                        rw [hh] at HHY HHB
                        go_wp2_with fail
                        refine (HHY.out _ (Below.refl _ _)).mono ?_
                        rintro e w9 ⟨rfl, rfl⟩
                        go_wp2_with fail
                        refine (HHB.out _ (Below.refl _ _)).mono ?_
                        rintro e w9 ⟨rfl, rfl⟩
                        go_wp2_with fail
                        go_roundw
                        case rel => exact ⟨i + 1, by omega, by go_num, hbr⟩
                        case measure => simp [intOf]; omega
                  · have hiI : ¬ (i : Int) < (KN : Int) := by omega
                    have hiD : decide ((i : Int) < (KN : Int)) = false := by simp; omega
                    replace hb := btr hb hbr
                    go_wp2
                    go_ret
                    exact ⟨rfl, hb⟩
set_option maxRecDepth 100000 in
theorem law_FnPairs_lifted (os : Os) (started : os.Started) (H : Type) (enc : TypeId × Value → H) :
    ReturnsInHanded {} Try.checked os 13 .any (Rows.fnPairsSpec.pre6 enc Try.prog Try.f13 Rows.fnPairsRow.domain false) (Rows.fnPairsSpec.post enc Try.prog Try.f13 false true false false) := by
  refine returnsInHanded_of_change (C := Try.checked) own started (by kernel_rfl) Try.func13
    (ChangeSpec.witness6 (enc := enc) (C := Try.checked) false ⟨#[], #[.slice none 0 0], []⟩ 8 (by kernel_rfl) (by kernel_rfl) (by kernel_rfl) (by kernel_rfl)) ?_
  intro W base args ds gs before hval0 hW _ _
  have hval : ∀ (j : Nat) t v, Try.f13.params[j]? = some t → args[j]? = some v → Value.okWide Try.prog W .any base t v := hval0
  have hW' := hW
  obtain ⟨p, q, hA, -⟩ := hW
  replace hA : DataW.TrodAll enc Try.prog W 0 (fun _ => true) true Try.f13.params.toList args.toList ds p := hA
  rw [Try.params13] at hA hval
  obtain ⟨v0, d0, rfl, rfl, h0⟩ := trodAll_one hA
  obtain ⟨Acode, lencode, capcode, rfl⟩ := okWide_slice Try.underlying48 (hval 0 48 v0 rfl rfl)
  obtain ⟨code, rfl, hlccode, hcmcode, hxcode, hokcode⟩ := open_Code h0
  exact My.law_step laidOut Try.underlying4 (by kernel_rfl) (by kernel_rfl) rfl (fun H ds hd => by match ds, hd with | [_], _ => rfl) hW' (law_FnPairs Acode capcode code W (Nat.le_trans hlccode hcmcode) hxcode hokcode)
theorem law_FnPairs_holds : Rows.FnPairsSaid :=
  OpenClaim.holds_of_wide 13 Try.f13 rfl rfl rfl rfl rfl rfl rfl ⟨rfl, rfl, rfl, rfl, rfl⟩ rfl rfl rfl rfl rfl (by kernel_rfl) Try.func13 (by kernel_rfl)
    (of_decide_eq_true (by kernel_rfl)) (by unfold Func.isWrapper; first | (rw [if_pos (by decide +kernel)]; kernel_rfl) | (rw [if_neg (by decide +kernel)]; exact ⟨rfl, rfl⟩))
    (fun os started H enc _ => law_FnPairs_lifted os started H enc)
end Go.Proofs.Ytdbcbaahjhaonaa
