/-
  FnAgendaMoves returns true for every input. Conditions: none.
-/
import Derived.Test.YtpmliannnbfnmaaItmD3
import Derived.Test.YtpmliannnbfnmaaAgP
import Derived.Test.YtpmliannnbfnmaaLaw
namespace Go.My
open Go.RowKit
def codeCells (xs : List Int) : List Value := xs.map (Value.int .u8)
theorem rdCode_of {w : World} {A : Option Addr} {xs : List Int} (h : Rd w A (codeCells xs)) (hb : ∀ x ∈ xs, 0 ≤ x ∧ x < 256) : RdCode w A xs.length := by
  rcases h with h | ⟨b, off, rfl, hc⟩
  · left; cases xs with | nil => rfl | cons x xs => simp [codeCells] at h
  · refine .inr ⟨b, off, rfl, fun j hj => ⟨xs[j], (hb _ (List.getElem_mem hj)).1, (hb _ (List.getElem_mem hj)).2, ?_⟩⟩
    have := hc j (by simpa [codeCells] using hj)
    rw [this]; simp [codeCells]
theorem own_max {w : World} {B : Nat} {e : TypeId} {size n : Nat} {v : Value} {xs : List Value} (h : w.ownsRow B e size v n xs) : n ≤ maxLen := by
  rcases h.2 with ⟨h2, h0⟩ | ⟨g, cap, cur, hv, hb, hg, hnc, hcm, _⟩
  · omega
  · omega
end Go.My
namespace Go.Proofs.Ytpmliannnbfnmaa
open Go.RowKit Go.My Go.ChangeShapes Go.WideShapes Go.ChangeAt
theorem own : ownKnob Try.prog.godebug = none := by kernel_rfl
theorem laidOut : laidOutB Try.prog = true := by kernel_rfl
theorem codeCells_flat (xs : List Int) : xs.flatMap (fun x => [Value.int .u8 x]) = codeCells xs := by
  induction xs with
  | nil => rfl
  | cons x r ih => simp [codeCells] at ih ⊢; exact ih
theorem open_Code {H : Type} {enc : TypeId × Value → H} {w : World} {A : Option Addr} {len cap : Nat} {d : DataW H} {ps : List MemPlace} (h : DataW.Trod enc Try.prog w 0 (fun _ => true) true 33 (.slice A len cap) d ps) :
    ∃ xs : List Int, xs.length = len ∧ len ≤ cap ∧ cap ≤ maxLen ∧ Rd w A (codeCells xs) ∧ ∀ b ∈ xs, 0 ≤ b ∧ b < 256 := by
  obtain ⟨xs, h1, h2, h3, h4, h5⟩ := open_list (fun x : Int => [Value.int .u8 x]) (fun b => 0 ≤ b ∧ b < 256) 1 (fun _ => rfl) (by decide) Try.underlying33 (by kernel_rfl) (fun n cs x hx => by
    obtain ⟨n1, e1, _, w1⟩ := DataW.trod_int Try.underlying5 hx
    refine ⟨n1, e1, ?_⟩
    simp [Lit.wf, IntKind.min, IntKind.max, IntKind.signed, IntKind.bits] at w1
    omega) h
  exact ⟨xs, h1, h2, h3, by rw [← codeCells_flat]; exact h4, h5⟩
theorem big_any (A : Option Addr) (n c : Nat) (w : World) : Calls Try.prog 15 #[.slice A n c] w fun e w' => e = .returned (.bool (decide ((65536 : Int) < n))) ∧ w = w' := by
  go_enter Try.func15, Try.ntmps15
  go_wp2
  go_ret
  exact ⟨rfl, rfl⟩
set_option maxHeartbeats 16000000 in
set_option maxRecDepth 100000 in
theorem law_FnAgendaMoves (A : Option Addr) (c : Nat) (code : List Int) (w : World) (hn : code.length ≤ maxLen) (hx : Rd w A (codeCells code)) (hok : ∀ b ∈ code, 0 ≤ b ∧ b < 256) :
    Calls Try.prog 5 #[.slice A code.length c] w fun e w' => e = .returned (.bool true) ∧ Below w.heap.size w w' := by
  have HR := Lib.hid (rdCode_of hx hok)
  clear hx hok
  by_cases hbig : 65536 < code.length
  · have hbI : decide ((65536 : Int) < (code.length : Int)) = true := by simp; omega
    go_enter Try.func5, Try.ntmps5
    go_wp2_with (go_at_call 15; refine (big_any A _ c w).mono ?_; rintro e w1 ⟨rfl, rfl⟩)
    go_ret
    exact ⟨rfl, Below.refl _ _⟩
  have hbI : decide ((65536 : Int) < (code.length : Int)) = false := by simp; omega
  generalize code.length = n at *
  go_enter Try.func5, Try.ntmps5
  go_wp2_with (go_at_call 15; refine (big_any A n c w).mono ?_; rintro e w0 ⟨rfl, rfl⟩)
  go_wp2_with fail
  refine (drawMove_any A n c w hn HR.out).mono ?_
  rintro e w1 ⟨A1, c1, xs, id, to, rfl, hx11, HX, ho1, hb⟩
  go_wp2_with fail
  refine (move_any A1 c1 xs id to w1 (by unfold maxLen; omega) (own_le ho1) (own_rd ho1) (fun s hs => by have := HX s hs; unfold maxLen; omega)).mono ?_
  rintro e w2 ⟨A2, c2, rfl, ho2, hb12⟩
  replace hb := btr hb hb12
  replace ho1 := own_below ho1 hb12
  go_wp2_with fail
  refine (specMove_any A1 c1 xs id to w2 (by unfold maxLen; omega) (own_le ho1) (own_rd ho1) (fun s hs => by have := HX s hs; unfold maxLen; omega)).mono ?_
  rintro e w3 ⟨A3, c3, rfl, ho3, hb23⟩
  replace hb := btr hb hb23
  replace ho2 := own_below ho2 hb23
  replace ho1 := own_below ho1 hb23
  have HL := Lib.hid (fun h => move_law (xs := xs) (id := id) (to := to) h)
  have HN : Hid (∀ s ∈ (moveR xs id to).1, s.title.size ≤ 11) := move_titles HX
  have hL := move_len xs id to
  clear hb12 hb23 HX
  generalize moveR xs id to = G at *
  obtain ⟨L, ok⟩ := G
  have hL11 : L.length ≤ 11 := Nat.le_trans hL hx11
  clear hL
  go_wp2_with fail
  refine (rAgendas_any A2 A3 c2 c3 L w3 (by unfold maxLen; omega) (own_rd ho2) (own_rd ho3)).mono ?_
  rintro e W ⟨rfl, hb34⟩
  replace hb := btr hb hb34
  replace ho2 := own_below ho2 hb34
  replace ho1 := own_below ho1 hb34
  clear ho3 hb34
  cases ok with
  | false =>
    clear HL HN ho1 ho2
    go_wp2_with fail
    refine (drawOrder_any A n c W hn (HR.out.below hb)).mono ?_
    rintro e w5 ⟨A5, c5, ys, rfl, hy11, HY, ho5, hb5⟩
    replace hb := btr hb hb5
    go_wp2_with fail
    refine (order_any A5 c5 ys w5 (by unfold maxLen; omega) (own_le ho5) (own_rd ho5) (fun s hs => by have := HY s hs; unfold maxLen; omega)).mono ?_
    rintro e w6 ⟨A6, c6, rfl, ho6, hb6⟩
    replace hb := btr hb hb6
    replace ho5 := own_below ho5 hb6
    go_wp2_with fail
    refine (specOrder_any A5 c5 ys w6 (by unfold maxLen; omega) (own_le ho5) (own_rd ho5) (fun s hs => by have := HY s hs; unfold maxLen; omega)).mono ?_
    rintro e w7 ⟨A7, c7, rfl, ho7, hb7⟩
    replace hb := btr hb hb7
    replace ho6 := own_below ho6 hb7
    have HO := Lib.hid (order_law ys)
    have hSl := order_le ys
    clear ho5 hb5 hb6 hb7 HY
    generalize orderR ys = R at *
    obtain ⟨S, fine⟩ := R
    have hS11 : S.length ≤ 11 := Nat.le_trans hSl hy11
    clear hSl
    go_wp2_with fail
    refine (rAgendas_any A6 A7 c6 c7 S w7 (by unfold maxLen; omega) (own_rd ho6) (own_rd ho7)).mono ?_
    rintro e w8 ⟨rfl, hb8⟩
    replace hb := btr hb hb8
    replace ho6 := own_below ho6 hb8
    clear ho7 hb8
    have HS : Hid (S.Pairwise (fun a b => a.time ≤ b.time)) := HO.out.2
    have hx6 := own_rd ho6
    have hb60 := Below.refl w8.heap.size w8
    have hln : fine = true → (S.length : Int) = (ys.length : Int) := fun h => by rw [HO.out.1 h]
    clear HO
    cases fine with
    | false =>
      clear hln
      go_wp2_with fail
      go_loopw [19] (fun q wr => ∃ m : Nat, q = .int .i64 ((m : Int) + 1) ∧ m ≤ S.length ∧ Below w8.heap.size w8 wr) (fun q _ => S.length + 1 - (intOf q).toNat)
      case atStart => exact ⟨0, rfl, by omega, hb60⟩
      case round =>
        obtain ⟨m, rfl, hmS, hbr⟩ := hrel
        have hxr := hx6.below hbr
        by_cases hlt : m + 1 < S.length
        · obtain ⟨b1, off1, rfl, -, -, -, c3⟩ := Rd.itm hxr (show m < S.length by omega)
          obtain ⟨b2, off2, e2, -, -, -, d3⟩ := Rd.itm hxr hlt
          cases e2
          have hle : ¬ S[m + 1].time < S[m].time := by
            have := (List.pairwise_iff_getElem.1 HS.out) m (m + 1) (by omega) hlt (by omega)
            omega
          have hlI : (m : Int) + 1 < (S.length : Int) := by omega
          have hmI : (m : Int) < (S.length : Int) := by omega
          have hw0 : IntKind.i64.wrap ((m : Int) + 1 - 1) = (m : Int) := by rw [IntKind.wrap_i64]; omega
          have hw1 : IntKind.i64.wrap (m : Int) = (m : Int) := by rw [IntKind.wrap_i64]; omega
          have hw2 : IntKind.i64.wrap ((m : Int) + 1 + 1) = (m : Int) + 1 + 1 := by rw [IntKind.wrap_i64]; omega
          generalize S[m + 1] = s2 at *
          generalize S[m] = s1 at *
          have g3 := cell_after c3
          have e3 := cell_after d3
          go_wp2_with fail
          refine wp_region_after (by kernel_rfl) (by kernel_rfl) ?_
          repeat (go_big_quiet_step (fail))
          refine wpQuiet_nil ?_
          intro nq
          have hb2 := btr hbr nq.bel
          generalize nq.val = W1 at *
          go_wp2_with fail
          go_roundw
          case rel => exact ⟨m + 1, by simp, by omega, hb2⟩
          case measure => simp [intOf]; omega
        · have hlI : ¬ (m : Int) + 1 < (S.length : Int) := by omega
          replace hb := btr hb hbr
          clear hx6 hxr hb60 hbr HS ho6
          generalize wr = W at *
          go_wp2_with fail
          refine (drawLate_any A n c W hn (HR.out.below hb)).mono ?_
          rintro e w21 ⟨A8, c8, zs, t8, rfl, hz11, HZ, ho8, hb21⟩
          replace hb := btr hb hb21
          go_wp2_with fail
          refine (late_any A8 c8 zs t8 w21 (by unfold maxLen; omega) (own_le ho8) (own_rd ho8) (fun s hs => by have := HZ s hs; unfold maxLen; omega)).mono ?_
          rintro e w22 ⟨A9, c9, rfl, ho9, hb22⟩
          replace hb := btr hb hb22
          replace ho8 := own_below ho8 hb22
          go_wp2_with fail
          refine (specLate_any A8 c8 zs t8 w22 (by unfold maxLen; omega) (own_le ho8) (own_rd ho8) (fun s hs => by have := HZ s hs; unfold maxLen; omega)).mono ?_
          rintro e w23 ⟨A10, c10, rfl, ho10, hb23⟩
          replace hb := btr hb hb23
          replace ho9 := own_below ho9 hb23
          clear ho8 hb21 hb22 hb23 HZ
          generalize lateR zs t8 = R at *
          obtain ⟨l8, b8⟩ := R
          go_wp2_with fail
          refine (rInts_any A9 A10 c9 c10 l8 w23 (own_max ho9) (own_rd ho9) (own_rd ho10)).mono ?_
          rintro e w24 ⟨rfl, hb24⟩
          replace hb := btr hb hb24
          clear ho9 ho10 hb24
          go_wp2_with fail
          refine (drawUntil_any A n c w24 hn (HR.out.below hb)).mono ?_
          rintro e w25 ⟨A11, c11, us, t11, z11, rfl, hu11, HU, ho11, hb25⟩
          replace hb := btr hb hb25
          go_wp2_with fail
          refine (until_any A11 c11 us t11 z11 w25 (by unfold maxLen; omega) (own_le ho11) (own_rd ho11) (fun s hs => by have := HU s hs; unfold maxLen; omega)).mono ?_
          rintro e w26 ⟨A12, c12, rfl, ho12, hb26⟩
          replace hb := btr hb hb26
          replace ho11 := own_below ho11 hb26
          go_wp2_with fail
          refine (specUntil_any A11 c11 us t11 z11 w26 (by unfold maxLen; omega) (own_le ho11) (own_rd ho11) (fun s hs => by have := HU s hs; unfold maxLen; omega)).mono ?_
          rintro e w27 ⟨A13, c13, rfl, ho13, hb27⟩
          replace hb := btr hb hb27
          replace ho12 := own_below ho12 hb27
          clear ho11 hb25 hb26 hb27 HU
          generalize untilR us t11 z11 = R at *
          obtain ⟨l11, b11⟩ := R
          go_wp2_with fail
          refine (rInts_any A12 A13 c12 c13 l11 w27 (own_max ho12) (own_rd ho12) (own_rd ho13)).mono ?_
          rintro e w28 ⟨rfl, hb28⟩
          replace hb := btr hb hb28
          go_wp2
          go_ret
          exact ⟨rfl, hb⟩
    | true =>
      have hlnI := hln rfl
      clear hln
      go_wp2_with fail
      go_loopw [19] (fun q wr => ∃ m : Nat, q = .int .i64 ((m : Int) + 1) ∧ m ≤ S.length ∧ Below w8.heap.size w8 wr) (fun q _ => S.length + 1 - (intOf q).toNat)
      case atStart => exact ⟨0, rfl, by omega, hb60⟩
      case round =>
        obtain ⟨m, rfl, hmS, hbr⟩ := hrel
        have hxr := hx6.below hbr
        by_cases hlt : m + 1 < S.length
        · obtain ⟨b1, off1, rfl, -, -, -, c3⟩ := Rd.itm hxr (show m < S.length by omega)
          obtain ⟨b2, off2, e2, -, -, -, d3⟩ := Rd.itm hxr hlt
          cases e2
          have hle : ¬ S[m + 1].time < S[m].time := by
            have := (List.pairwise_iff_getElem.1 HS.out) m (m + 1) (by omega) hlt (by omega)
            omega
          have hlI : (m : Int) + 1 < (S.length : Int) := by omega
          have hmI : (m : Int) < (S.length : Int) := by omega
          have hw0 : IntKind.i64.wrap ((m : Int) + 1 - 1) = (m : Int) := by rw [IntKind.wrap_i64]; omega
          have hw1 : IntKind.i64.wrap (m : Int) = (m : Int) := by rw [IntKind.wrap_i64]; omega
          have hw2 : IntKind.i64.wrap ((m : Int) + 1 + 1) = (m : Int) + 1 + 1 := by rw [IntKind.wrap_i64]; omega
          generalize S[m + 1] = s2 at *
          generalize S[m] = s1 at *
          have g3 := cell_after c3
          have e3 := cell_after d3
          go_wp2_with fail
          refine wp_region_after (by kernel_rfl) (by kernel_rfl) ?_
          repeat (go_big_quiet_step (fail))
          refine wpQuiet_nil ?_
          intro nq
          have hb2 := btr hbr nq.bel
          generalize nq.val = W1 at *
          go_wp2_with fail
          go_roundw
          case rel => exact ⟨m + 1, by simp, by omega, hb2⟩
          case measure => simp [intOf]; omega
        · have hlI : ¬ (m : Int) + 1 < (S.length : Int) := by omega
          replace hb := btr hb hbr
          clear hx6 hxr hb60 hbr HS ho6
          generalize wr = W at *
          go_wp2_with fail
          refine (drawLate_any A n c W hn (HR.out.below hb)).mono ?_
          rintro e w21 ⟨A8, c8, zs, t8, rfl, hz11, HZ, ho8, hb21⟩
          replace hb := btr hb hb21
          go_wp2_with fail
          refine (late_any A8 c8 zs t8 w21 (by unfold maxLen; omega) (own_le ho8) (own_rd ho8) (fun s hs => by have := HZ s hs; unfold maxLen; omega)).mono ?_
          rintro e w22 ⟨A9, c9, rfl, ho9, hb22⟩
          replace hb := btr hb hb22
          replace ho8 := own_below ho8 hb22
          go_wp2_with fail
          refine (specLate_any A8 c8 zs t8 w22 (by unfold maxLen; omega) (own_le ho8) (own_rd ho8) (fun s hs => by have := HZ s hs; unfold maxLen; omega)).mono ?_
          rintro e w23 ⟨A10, c10, rfl, ho10, hb23⟩
          replace hb := btr hb hb23
          replace ho9 := own_below ho9 hb23
          clear ho8 hb21 hb22 hb23 HZ
          generalize lateR zs t8 = R at *
          obtain ⟨l8, b8⟩ := R
          go_wp2_with fail
          refine (rInts_any A9 A10 c9 c10 l8 w23 (own_max ho9) (own_rd ho9) (own_rd ho10)).mono ?_
          rintro e w24 ⟨rfl, hb24⟩
          replace hb := btr hb hb24
          clear ho9 ho10 hb24
          go_wp2_with fail
          refine (drawUntil_any A n c w24 hn (HR.out.below hb)).mono ?_
          rintro e w25 ⟨A11, c11, us, t11, z11, rfl, hu11, HU, ho11, hb25⟩
          replace hb := btr hb hb25
          go_wp2_with fail
          refine (until_any A11 c11 us t11 z11 w25 (by unfold maxLen; omega) (own_le ho11) (own_rd ho11) (fun s hs => by have := HU s hs; unfold maxLen; omega)).mono ?_
          rintro e w26 ⟨A12, c12, rfl, ho12, hb26⟩
          replace hb := btr hb hb26
          replace ho11 := own_below ho11 hb26
          go_wp2_with fail
          refine (specUntil_any A11 c11 us t11 z11 w26 (by unfold maxLen; omega) (own_le ho11) (own_rd ho11) (fun s hs => by have := HU s hs; unfold maxLen; omega)).mono ?_
          rintro e w27 ⟨A13, c13, rfl, ho13, hb27⟩
          replace hb := btr hb hb27
          replace ho12 := own_below ho12 hb27
          clear ho11 hb25 hb26 hb27 HU
          generalize untilR us t11 z11 = R at *
          obtain ⟨l11, b11⟩ := R
          go_wp2_with fail
          refine (rInts_any A12 A13 c12 c13 l11 w27 (own_max ho12) (own_rd ho12) (own_rd ho13)).mono ?_
          rintro e w28 ⟨rfl, hb28⟩
          replace hb := btr hb hb28
          go_wp2
          go_ret
          exact ⟨rfl, hb⟩
  | true =>
    obtain ⟨k, j, hk, hj, rfl, hid, huq, hjd, hbk⟩ := HL.out rfl
    have HU := Lib.hid huq
    have HB := Lib.hid hbk
    have HJ := Lib.hid hjd
    have HI := Lib.hid hid
    clear HL huq hbk hjd hid
    have hx1 := own_rd ho1
    go_wp2_with fail
    go_loop [10, 11] (fun f q => ∃ i : Nat, ∃ v : Int, i ≤ xs.length ∧ q = .int .i64 i ∧ f = .int .i64 v ∧ Hid (v = if k < i then (k : Int) else 0)) (fun _ q => xs.length - (intOf q).toNat)
    case atStart => exact ⟨0, 0, by omega, rfl, rfl, by show _ = _; simp⟩
    case round =>
      obtain ⟨i, v, hi, rfl, rfl, Hv⟩ := hrel
      by_cases hlt : i < xs.length
      · obtain ⟨b1, off1, rfl, d0, -, -, -⟩ := Rd.itm hx1 hlt
        have hiI : (i : Int) < (xs.length : Int) := by omega
        by_cases he : xs[i].id = id
        · have hik := HU.out i hlt he
          have Hv2 : Hid ((i : Int) = if k < i + 1 then (k : Int) else 0) := by show _ = _; rw [if_pos (by omega), hik]
          have heq : (xs[i].id == id) = true := by simpa using he
          clear hik Hv
          generalize xs[i].id = sid at *
          subst he
          go_wp2
          go_round
          case rel => exact ⟨i + 1, _, by omega, by go_num, rfl, Hv2⟩
          case measure => simp [intOf]; omega
        · have hik : i ≠ k := fun e => he (by subst e; exact HI.out)
          have Hv2 : Hid (v = if k < i + 1 then (k : Int) else 0) := by
            show _ = _
            rw [Hv.out]
            by_cases h1 : k < i
            · rw [if_pos h1, if_pos (by omega)]
            · rw [if_neg h1, if_neg (by omega)]
          have heq : (xs[i].id == id) = false := by simpa using he
          clear hik Hv
          generalize xs[i].id = sid at *
          go_wp2
          go_round
          case rel => exact ⟨i + 1, _, by omega, by go_num, rfl, Hv2⟩
          case measure => simp [intOf]; omega
      · have hiI : ¬ (i : Int) < (xs.length : Int) := by omega
        have hvk : v = (k : Int) := by rw [Hv.out, if_pos (by omega)]
        subst hvk
        clear Hv HU HI
        have HM := move_any A2 c2 L id (k : Int) W (by unfold maxLen; omega) (own_le ho2) (own_rd ho2) (fun s hs => by have := HN.out s hs; unfold maxLen; omega)
        rw [HB.out] at HM
        clear HB
        go_wp2_with fail
        refine HM.mono ?_
        rintro e w4 ⟨A4, c4, rfl, ho4, hb4⟩
        replace hb := btr hb hb4
        replace ho2 := own_below ho2 hb4
        replace ho1 := own_below ho1 hb4
        clear HM hb4
        obtain ⟨b1, off1, rfl, d0, -, -, -⟩ := Rd.itm (own_rd ho2) hj
        rw [HJ.out] at d0
        have hjI : (j : Int) < (L.length : Int) := by omega
        go_wp2_with fail
        refine (rAgendas_any A4 A1 c4 c1 xs w4 (by unfold maxLen; omega) (own_rd ho4) (own_rd ho1)).mono ?_
        rintro e w44 ⟨rfl, hb4⟩
        replace hb := btr hb hb4
        clear ho1 ho2 ho4 hb4 d0 hx1 HN
        go_wp2_with fail
        refine (drawOrder_any A n c w44 hn (HR.out.below hb)).mono ?_
        rintro e w5 ⟨A5, c5, ys, rfl, hy11, HY, ho5, hb5⟩
        replace hb := btr hb hb5
        go_wp2_with fail
        refine (order_any A5 c5 ys w5 (by unfold maxLen; omega) (own_le ho5) (own_rd ho5) (fun s hs => by have := HY s hs; unfold maxLen; omega)).mono ?_
        rintro e w6 ⟨A6, c6, rfl, ho6, hb6⟩
        replace hb := btr hb hb6
        replace ho5 := own_below ho5 hb6
        go_wp2_with fail
        refine (specOrder_any A5 c5 ys w6 (by unfold maxLen; omega) (own_le ho5) (own_rd ho5) (fun s hs => by have := HY s hs; unfold maxLen; omega)).mono ?_
        rintro e w7 ⟨A7, c7, rfl, ho7, hb7⟩
        replace hb := btr hb hb7
        replace ho6 := own_below ho6 hb7
        have HO := Lib.hid (order_law ys)
        have hSl := order_le ys
        clear ho5 hb5 hb6 hb7 HY
        generalize orderR ys = R at *
        obtain ⟨S, fine⟩ := R
        have hS11 : S.length ≤ 11 := Nat.le_trans hSl hy11
        clear hSl
        go_wp2_with fail
        refine (rAgendas_any A6 A7 c6 c7 S w7 (by unfold maxLen; omega) (own_rd ho6) (own_rd ho7)).mono ?_
        rintro e w8 ⟨rfl, hb8⟩
        replace hb := btr hb hb8
        replace ho6 := own_below ho6 hb8
        clear ho7 hb8
        have HS : Hid (S.Pairwise (fun a b => a.time ≤ b.time)) := HO.out.2
        have hx6 := own_rd ho6
        have hb60 := Below.refl w8.heap.size w8
        have hln : fine = true → (S.length : Int) = (ys.length : Int) := fun h => by rw [HO.out.1 h]
        clear HO
        cases fine with
        | false =>
          clear hln
          go_wp2_with fail
          go_loopw [19] (fun q wr => ∃ m : Nat, q = .int .i64 ((m : Int) + 1) ∧ m ≤ S.length ∧ Below w8.heap.size w8 wr) (fun q _ => S.length + 1 - (intOf q).toNat)
          case atStart => exact ⟨0, rfl, by omega, hb60⟩
          case round =>
            obtain ⟨m, rfl, hmS, hbr⟩ := hrel
            have hxr := hx6.below hbr
            by_cases hlt : m + 1 < S.length
            · obtain ⟨b1, off1, rfl, -, -, -, c3⟩ := Rd.itm hxr (show m < S.length by omega)
              obtain ⟨b2, off2, e2, -, -, -, d3⟩ := Rd.itm hxr hlt
              cases e2
              have hle : ¬ S[m + 1].time < S[m].time := by
                have := (List.pairwise_iff_getElem.1 HS.out) m (m + 1) (by omega) hlt (by omega)
                omega
              have hlI : (m : Int) + 1 < (S.length : Int) := by omega
              have hmI : (m : Int) < (S.length : Int) := by omega
              have hw0 : IntKind.i64.wrap ((m : Int) + 1 - 1) = (m : Int) := by rw [IntKind.wrap_i64]; omega
              have hw1 : IntKind.i64.wrap (m : Int) = (m : Int) := by rw [IntKind.wrap_i64]; omega
              have hw2 : IntKind.i64.wrap ((m : Int) + 1 + 1) = (m : Int) + 1 + 1 := by rw [IntKind.wrap_i64]; omega
              generalize S[m + 1] = s2 at *
              generalize S[m] = s1 at *
              have g3 := cell_after c3
              have e3 := cell_after d3
              go_wp2_with fail
              refine wp_region_after (by kernel_rfl) (by kernel_rfl) ?_
              repeat (go_big_quiet_step (fail))
              refine wpQuiet_nil ?_
              intro nq
              have hb2 := btr hbr nq.bel
              generalize nq.val = W1 at *
              go_wp2_with fail
              go_roundw
              case rel => exact ⟨m + 1, by simp, by omega, hb2⟩
              case measure => simp [intOf]; omega
            · have hlI : ¬ (m : Int) + 1 < (S.length : Int) := by omega
              replace hb := btr hb hbr
              clear hx6 hxr hb60 hbr HS ho6
              generalize wr = W at *
              go_wp2_with fail
              refine (drawLate_any A n c W hn (HR.out.below hb)).mono ?_
              rintro e w21 ⟨A8, c8, zs, t8, rfl, hz11, HZ, ho8, hb21⟩
              replace hb := btr hb hb21
              go_wp2_with fail
              refine (late_any A8 c8 zs t8 w21 (by unfold maxLen; omega) (own_le ho8) (own_rd ho8) (fun s hs => by have := HZ s hs; unfold maxLen; omega)).mono ?_
              rintro e w22 ⟨A9, c9, rfl, ho9, hb22⟩
              replace hb := btr hb hb22
              replace ho8 := own_below ho8 hb22
              go_wp2_with fail
              refine (specLate_any A8 c8 zs t8 w22 (by unfold maxLen; omega) (own_le ho8) (own_rd ho8) (fun s hs => by have := HZ s hs; unfold maxLen; omega)).mono ?_
              rintro e w23 ⟨A10, c10, rfl, ho10, hb23⟩
              replace hb := btr hb hb23
              replace ho9 := own_below ho9 hb23
              clear ho8 hb21 hb22 hb23 HZ
              generalize lateR zs t8 = R at *
              obtain ⟨l8, b8⟩ := R
              go_wp2_with fail
              refine (rInts_any A9 A10 c9 c10 l8 w23 (own_max ho9) (own_rd ho9) (own_rd ho10)).mono ?_
              rintro e w24 ⟨rfl, hb24⟩
              replace hb := btr hb hb24
              clear ho9 ho10 hb24
              go_wp2_with fail
              refine (drawUntil_any A n c w24 hn (HR.out.below hb)).mono ?_
              rintro e w25 ⟨A11, c11, us, t11, z11, rfl, hu11, HU, ho11, hb25⟩
              replace hb := btr hb hb25
              go_wp2_with fail
              refine (until_any A11 c11 us t11 z11 w25 (by unfold maxLen; omega) (own_le ho11) (own_rd ho11) (fun s hs => by have := HU s hs; unfold maxLen; omega)).mono ?_
              rintro e w26 ⟨A12, c12, rfl, ho12, hb26⟩
              replace hb := btr hb hb26
              replace ho11 := own_below ho11 hb26
              go_wp2_with fail
              refine (specUntil_any A11 c11 us t11 z11 w26 (by unfold maxLen; omega) (own_le ho11) (own_rd ho11) (fun s hs => by have := HU s hs; unfold maxLen; omega)).mono ?_
              rintro e w27 ⟨A13, c13, rfl, ho13, hb27⟩
              replace hb := btr hb hb27
              replace ho12 := own_below ho12 hb27
              clear ho11 hb25 hb26 hb27 HU
              generalize untilR us t11 z11 = R at *
              obtain ⟨l11, b11⟩ := R
              go_wp2_with fail
              refine (rInts_any A12 A13 c12 c13 l11 w27 (own_max ho12) (own_rd ho12) (own_rd ho13)).mono ?_
              rintro e w28 ⟨rfl, hb28⟩
              replace hb := btr hb hb28
              go_wp2
              go_ret
              exact ⟨rfl, hb⟩
        | true =>
          have hlnI := hln rfl
          clear hln
          go_wp2_with fail
          go_loopw [19] (fun q wr => ∃ m : Nat, q = .int .i64 ((m : Int) + 1) ∧ m ≤ S.length ∧ Below w8.heap.size w8 wr) (fun q _ => S.length + 1 - (intOf q).toNat)
          case atStart => exact ⟨0, rfl, by omega, hb60⟩
          case round =>
            obtain ⟨m, rfl, hmS, hbr⟩ := hrel
            have hxr := hx6.below hbr
            by_cases hlt : m + 1 < S.length
            · obtain ⟨b1, off1, rfl, -, -, -, c3⟩ := Rd.itm hxr (show m < S.length by omega)
              obtain ⟨b2, off2, e2, -, -, -, d3⟩ := Rd.itm hxr hlt
              cases e2
              have hle : ¬ S[m + 1].time < S[m].time := by
                have := (List.pairwise_iff_getElem.1 HS.out) m (m + 1) (by omega) hlt (by omega)
                omega
              have hlI : (m : Int) + 1 < (S.length : Int) := by omega
              have hmI : (m : Int) < (S.length : Int) := by omega
              have hw0 : IntKind.i64.wrap ((m : Int) + 1 - 1) = (m : Int) := by rw [IntKind.wrap_i64]; omega
              have hw1 : IntKind.i64.wrap (m : Int) = (m : Int) := by rw [IntKind.wrap_i64]; omega
              have hw2 : IntKind.i64.wrap ((m : Int) + 1 + 1) = (m : Int) + 1 + 1 := by rw [IntKind.wrap_i64]; omega
              generalize S[m + 1] = s2 at *
              generalize S[m] = s1 at *
              have g3 := cell_after c3
              have e3 := cell_after d3
              go_wp2_with fail
              refine wp_region_after (by kernel_rfl) (by kernel_rfl) ?_
              repeat (go_big_quiet_step (fail))
              refine wpQuiet_nil ?_
              intro nq
              have hb2 := btr hbr nq.bel
              generalize nq.val = W1 at *
              go_wp2_with fail
              go_roundw
              case rel => exact ⟨m + 1, by simp, by omega, hb2⟩
              case measure => simp [intOf]; omega
            · have hlI : ¬ (m : Int) + 1 < (S.length : Int) := by omega
              replace hb := btr hb hbr
              clear hx6 hxr hb60 hbr HS ho6
              generalize wr = W at *
              go_wp2_with fail
              refine (drawLate_any A n c W hn (HR.out.below hb)).mono ?_
              rintro e w21 ⟨A8, c8, zs, t8, rfl, hz11, HZ, ho8, hb21⟩
              replace hb := btr hb hb21
              go_wp2_with fail
              refine (late_any A8 c8 zs t8 w21 (by unfold maxLen; omega) (own_le ho8) (own_rd ho8) (fun s hs => by have := HZ s hs; unfold maxLen; omega)).mono ?_
              rintro e w22 ⟨A9, c9, rfl, ho9, hb22⟩
              replace hb := btr hb hb22
              replace ho8 := own_below ho8 hb22
              go_wp2_with fail
              refine (specLate_any A8 c8 zs t8 w22 (by unfold maxLen; omega) (own_le ho8) (own_rd ho8) (fun s hs => by have := HZ s hs; unfold maxLen; omega)).mono ?_
              rintro e w23 ⟨A10, c10, rfl, ho10, hb23⟩
              replace hb := btr hb hb23
              replace ho9 := own_below ho9 hb23
              clear ho8 hb21 hb22 hb23 HZ
              generalize lateR zs t8 = R at *
              obtain ⟨l8, b8⟩ := R
              go_wp2_with fail
              refine (rInts_any A9 A10 c9 c10 l8 w23 (own_max ho9) (own_rd ho9) (own_rd ho10)).mono ?_
              rintro e w24 ⟨rfl, hb24⟩
              replace hb := btr hb hb24
              clear ho9 ho10 hb24
              go_wp2_with fail
              refine (drawUntil_any A n c w24 hn (HR.out.below hb)).mono ?_
              rintro e w25 ⟨A11, c11, us, t11, z11, rfl, hu11, HU, ho11, hb25⟩
              replace hb := btr hb hb25
              go_wp2_with fail
              refine (until_any A11 c11 us t11 z11 w25 (by unfold maxLen; omega) (own_le ho11) (own_rd ho11) (fun s hs => by have := HU s hs; unfold maxLen; omega)).mono ?_
              rintro e w26 ⟨A12, c12, rfl, ho12, hb26⟩
              replace hb := btr hb hb26
              replace ho11 := own_below ho11 hb26
              go_wp2_with fail
              refine (specUntil_any A11 c11 us t11 z11 w26 (by unfold maxLen; omega) (own_le ho11) (own_rd ho11) (fun s hs => by have := HU s hs; unfold maxLen; omega)).mono ?_
              rintro e w27 ⟨A13, c13, rfl, ho13, hb27⟩
              replace hb := btr hb hb27
              replace ho12 := own_below ho12 hb27
              clear ho11 hb25 hb26 hb27 HU
              generalize untilR us t11 z11 = R at *
              obtain ⟨l11, b11⟩ := R
              go_wp2_with fail
              refine (rInts_any A12 A13 c12 c13 l11 w27 (own_max ho12) (own_rd ho12) (own_rd ho13)).mono ?_
              rintro e w28 ⟨rfl, hb28⟩
              replace hb := btr hb hb28
              go_wp2
              go_ret
              exact ⟨rfl, hb⟩
set_option maxRecDepth 100000 in
theorem law_FnAgendaMoves_lifted (os : Os) (started : os.Started) (H : Type) (enc : TypeId × Value → H) :
    ReturnsInHanded {} Try.checked os 5 .any (Rows.fnAgendaMovesSpec.pre6 enc Try.prog Try.f5 Rows.fnAgendaMovesRow.domain false) (Rows.fnAgendaMovesSpec.post enc Try.prog Try.f5 false true false false) := by
  refine returnsInHanded_of_change (C := Try.checked) own started (by kernel_rfl) Try.func5
    (ChangeSpec.witness6 (enc := enc) (C := Try.checked) false ⟨#[], #[.slice none 0 0], []⟩ 8 (by kernel_rfl) (by kernel_rfl) (by kernel_rfl) (by kernel_rfl)) ?_
  intro W base args ds gs before hval0 hW _ _
  have hval : ∀ (j : Nat) t v, Try.f5.params[j]? = some t → args[j]? = some v → Value.okWide Try.prog W .any base t v := hval0
  have hW' := hW
  obtain ⟨p, q, hA, -⟩ := hW
  replace hA : DataW.TrodAll enc Try.prog W 0 (fun _ => true) true Try.f5.params.toList args.toList ds p := hA
  rw [Try.params5] at hA hval
  obtain ⟨v0, d0, rfl, rfl, h0⟩ := trodAll_one hA
  obtain ⟨Acode, lencode, capcode, rfl⟩ := okWide_slice Try.underlying33 (hval 0 33 v0 rfl rfl)
  obtain ⟨code, rfl, hlccode, hcmcode, hxcode, hokcode⟩ := open_Code h0
  exact My.law_step laidOut Try.underlying4 (by kernel_rfl) (by kernel_rfl) rfl (fun H ds hd => by match ds, hd with | [_], _ => rfl) hW' (law_FnAgendaMoves Acode capcode code W (Nat.le_trans hlccode hcmcode) hxcode hokcode)
theorem law_FnAgendaMoves_holds : Rows.FnAgendaMovesSaid :=
  OpenClaim.holds_of_wide 5 Try.f5 rfl rfl rfl rfl rfl rfl rfl ⟨rfl, rfl, rfl, rfl, rfl⟩ rfl rfl rfl rfl rfl (by kernel_rfl) Try.func5 (by kernel_rfl)
    (of_decide_eq_true (by kernel_rfl)) (by unfold Func.isWrapper; first | (rw [if_pos (by decide +kernel)]; kernel_rfl) | (rw [if_neg (by decide +kernel)]; exact ⟨rfl, rfl⟩))
    (fun os started H enc _ => law_FnAgendaMoves_lifted os started H enc)
end Go.Proofs.Ytpmliannnbfnmaa
