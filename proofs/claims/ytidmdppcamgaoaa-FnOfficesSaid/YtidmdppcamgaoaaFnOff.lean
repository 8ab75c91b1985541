/-
  FnOffices returns true for every input. Conditions: none.
-/
import Derived.Test.YtidmdppcamgaoaaMemD2
import Derived.Test.YtidmdppcamgaoaaOffP
import Derived.Test.YtidmdppcamgaoaaLaw
namespace Go.My
open Go.RowKit
def codeCells (xs : List Int) : List Value := xs.map (Value.int .u8)
theorem rdCode_of {w : World} {A : Option Addr} {xs : List Int} (h : Rd w A (codeCells xs)) (hb : ∀ x ∈ xs, 0 ≤ x ∧ x < 256) : RdCode w A xs.length := by
  rcases h with h | ⟨b, off, rfl, hc⟩
  · left; cases xs with | nil => rfl | cons x xs => simp [codeCells] at h
  · refine .inr ⟨b, off, rfl, fun j hj => ⟨xs[j], (hb _ (List.getElem_mem hj)).1, (hb _ (List.getElem_mem hj)).2, ?_⟩⟩
    have := hc j (by simpa [codeCells] using hj)
    rw [this]; simp [codeCells]
theorem hasI_at {ps : List Int} {v : Int} {k : Nat} (hk : k < ps.length) : hasI (ps.drop k) v = (ps[k] == v || hasI (ps.drop (k + 1)) v) := by
  rw [List.drop_eq_getElem_cons hk]; rfl
end Go.My
namespace Go.Proofs.Ytidmdppcamgaoaa
open Go.RowKit Go.My Go.ChangeShapes Go.WideShapes Go.ChangeAt
set_option maxHeartbeats 4000000 in
set_option maxRecDepth 100000 in
theorem rMembers_any (A B : Option Addr) (c d : Nat) (xs : List Mem) (w : World) (hn : xs.length ≤ maxLen) (hx : Rd w A (memCells xs)) (hy : Rd w B (memCells xs)) :
    Calls Try.prog 30 #[.slice A xs.length c, .slice B xs.length d] w fun e w' => e = .returned (.bool true) ∧ Below w.heap.size w w' := by
  unfold maxLen at hn
  go_enter Try.func30, Try.ntmps30
  go_wp2_with fail
  go_loopw [5] (fun q wr => ∃ k : Nat, k ≤ xs.length ∧ q = .int .i64 k ∧ Below w.heap.size w wr) (fun q _ => xs.length - (intOf q).toNat)
  case atStart => exact ⟨0, by omega, rfl, Below.refl _ _⟩
  case round =>
    obtain ⟨k, hk, rfl, hb⟩ := hrel
    by_cases hlt : k < xs.length
    · obtain ⟨b, off, rfl, c0, c1, c2⟩ := Rd.mem (hx.below hb) hlt
      obtain ⟨b2, off2, rfl, d0, d1, d2⟩ := Rd.mem (hy.below hb) hlt
      have hkI : (k : Int) < (xs.length : Int) := by omega
      generalize xs[k] = s at *
      have g0 := cell_after c0
      have g1 := cell_after c1
      have g2 := cell_after c2
      have e0 := cell_after d0
      have e1 := cell_after d1
      have e2 := cell_after d2
      go_wp2_with fail
      refine wp_region_after (by kernel_rfl) (by kernel_rfl) ?_
      repeat (go_big_quiet_step (fail))
      refine wpQuiet_nil ?_
      intro nq
      have hb2 := hb.trans (nq.bel.mono hb.size)
      generalize nq.val = W1 at *
      go_wp2_with fail
      go_roundw
      case rel => exact ⟨k + 1, by omega, by go_num, hb2⟩
      case measure => simp [intOf]; omega
    · have hkI : ¬ (k : Int) < (xs.length : Int) := by omega
      go_wp2
      go_ret
      exact ⟨rfl, hb⟩
set_option maxHeartbeats 1000000 in
theorem rHas_any (A : Option Addr) (c : Nat) (ps : List Int) (v : Int) (w : World) (hn : ps.length ≤ maxLen) (hx : Rd w A (intCells ps)) :
    Calls Try.prog 36 #[.slice A ps.length c, .int .i64 v] w fun e w' => e = .returned (.bool (hasI ps v)) ∧ w = w' := by
  unfold maxLen at hn
  have HT : Hid (hasI ps v = hasI (ps.drop 0) v) := rfl
  generalize hasI ps v = r at *
  go_enter Try.func36, Try.ntmps36
  go_wp2
  go_loop [5] (fun q => ∃ k : Nat, k ≤ ps.length ∧ q = .int .i64 k ∧ Hid (r = hasI (ps.drop k) v)) (fun q => ps.length - (intOf q).toNat)
  case atStart => exact ⟨0, by omega, rfl, HT⟩
  case round =>
    obtain ⟨k, hk, rfl, H⟩ := hrel
    by_cases hlt : k < ps.length
    · obtain ⟨b, off, rfl, c0⟩ := Rd.ints hx hlt
      have Hn := Lib.hid (H.out.trans (hasI_at hlt))
      have hkI : (k : Int) < (ps.length : Int) := by omega
      clear H
      generalize ps[k] = s at *
      by_cases hq : s = v
      · have hq1 : (s == v) = true := by simpa using hq
        have Hf : Hid (r = true) := Hn.out.trans (by rw [hq1]; rfl)
        go_wp2
        go_ret
        exact ⟨by rw [Hf.out]; rfl, rfl⟩
      · have hq1 : (s == v) = false := by simpa using hq
        have Hf : Hid (r = hasI (ps.drop (k + 1)) v) := Hn.out.trans (by rw [hq1]; rfl)
        clear Hn hq
        go_wp2
        go_round
        case rel => exact ⟨k + 1, by omega, by go_num, Hf⟩
        case measure => simp [intOf]; omega
    · have hkI : ¬ (k : Int) < (ps.length : Int) := by omega
      have Hf : Hid (r = false) := H.out.trans (by rw [List.drop_eq_nil_of_le (by omega)]; rfl)
      go_wp2
      go_ret
      exact ⟨by rw [Hf.out]; rfl, rfl⟩
theorem own : ownKnob Try.prog.godebug = none := by kernel_rfl
theorem laidOut : laidOutB Try.prog = true := by kernel_rfl
theorem codeCells_flat (xs : List Int) : xs.flatMap (fun x => [Value.int .u8 x]) = codeCells xs := by
  induction xs with
  | nil => rfl
  | cons x r ih => simp [codeCells] at ih ⊢; exact ih
theorem open_Code {H : Type} {enc : TypeId × Value → H} {w : World} {A : Option Addr} {len cap : Nat} {d : DataW H} {ps : List MemPlace} (h : DataW.Trod enc Try.prog w 0 (fun _ => true) true 46 (.slice A len cap) d ps) :
    ∃ xs : List Int, xs.length = len ∧ len ≤ cap ∧ cap ≤ maxLen ∧ Rd w A (codeCells xs) ∧ ∀ b ∈ xs, 0 ≤ b ∧ b < 256 := by
  obtain ⟨xs, h1, h2, h3, h4, h5⟩ := open_list (fun x : Int => [Value.int .u8 x]) (fun b => 0 ≤ b ∧ b < 256) 1 (fun _ => rfl) (by decide) Try.underlying46 (by kernel_rfl) (fun n cs x hx => by
    obtain ⟨n1, e1, _, w1⟩ := DataW.trod_int Try.underlying5 hx
    refine ⟨n1, e1, ?_⟩
    simp [Lit.wf, IntKind.min, IntKind.max, IntKind.signed, IntKind.bits] at w1
    omega) h
  exact ⟨xs, h1, h2, h3, by rw [← codeCells_flat]; exact h4, h5⟩
theorem big_any (A : Option Addr) (n c : Nat) (w : World) : Calls Try.prog 28 #[.slice A n c] w fun e w' => e = .returned (.bool (decide ((65536 : Int) < n))) ∧ w = w' := by
  go_enter Try.func28, Try.ntmps28
  go_wp2
  go_ret
  exact ⟨rfl, rfl⟩
set_option maxHeartbeats 8000000 in
set_option maxRecDepth 100000 in
theorem law_FnOffices (A : Option Addr) (c : Nat) (code : List Int) (w : World) (hn : code.length ≤ maxLen) (hx : Rd w A (codeCells code)) (hok : ∀ b ∈ code, 0 ≤ b ∧ b < 256) :
    Calls Try.prog 8 #[.slice A code.length c] w fun e w' => e = .returned (.bool true) ∧ Below w.heap.size w w' := by
  have HR := Lib.hid (rdCode_of hx hok)
  clear hx hok
  by_cases hbig : 65536 < code.length
  · have hbI : decide ((65536 : Int) < (code.length : Int)) = true := by simp; omega
    go_enter Try.func8, Try.ntmps8
    go_wp2_with (go_at_call 28; refine (big_any A _ c w).mono ?_; rintro e w1 ⟨rfl, rfl⟩)
    go_ret
    exact ⟨rfl, Below.refl _ _⟩
  have hbI : decide ((65536 : Int) < (code.length : Int)) = false := by simp; omega
  generalize code.length = n at *
  go_enter Try.func8, Try.ntmps8
  go_wp2_with (go_at_call 28; refine (big_any A n c w).mono ?_; rintro e w0 ⟨rfl, rfl⟩)
  go_wp2_with fail
  refine (drawGive_any A n c w hn HR.out).mono ?_
  rintro e w1 ⟨A1, c1, xs, num, off, rfl, hx13, HX, ho1, hb⟩
  go_wp2_with fail
  refine (give_any A1 c1 xs num off w1 (by unfold maxLen; omega) (own_le ho1) (own_rd ho1) (fun s hs => by have := HX s hs; unfold maxLen; omega)).mono ?_
  rintro e w2 ⟨A2, c2, rfl, ho2, hb12⟩
  replace hb := btr hb hb12
  have hox := own_below ho1 hb12
  go_wp2_with fail
  refine (specGive_any A1 c1 xs num off w2 (by unfold maxLen; omega) (own_le ho1) (own_rd hox) (fun s hs => by have := HX s hs; unfold maxLen; omega)).mono ?_
  rintro e w3 ⟨A3, c3, rfl, ho3, hb23⟩
  replace hb := btr hb hb23
  replace ho2 := own_below ho2 hb23
  have HL : Hid ((giveR xs num off).2 = true → goodMem (giveR xs num off).1 = true ∧ (giveR xs num off).1.length = xs.length ∧ (off ≠ 0 → holderR (giveR xs num off).1 off = (num, true))) := give_law
  have HN : Hid (∀ s ∈ (giveR xs num off).1, s.name.size ≤ 10) := give_names HX
  have hL := give_len xs num off
  generalize giveR xs num off = G at *
  obtain ⟨L, ok⟩ := G
  have hL13 : L.length ≤ 13 := Nat.le_trans hL hx13
  clear hb12 hox ho1 HX hb23 hL
  go_wp2_with fail
  refine (rMembers_any A2 A3 c2 c3 L w3 (by unfold maxLen; omega) (own_rd ho2) (own_rd ho3)).mono ?_
  rintro e W ⟨rfl, hb34⟩
  replace hb := btr hb hb34
  replace ho2 := own_below ho2 hb34
  clear ho3 hb34
  cases ok with
  | false =>
    go_wp2_with fail
    refine (drawHolder_any A n c W hn (HR.out.below hb)).mono ?_
    rintro e w5 ⟨A5, c5, ys, o5, rfl, hy13, HY, ho5, hb5⟩
    replace hb := btr hb hb5
    go_wp2_with fail
    refine (holder_any A5 c5 ys o5 w5 (by unfold maxLen; omega) (own_le ho5) (own_rd ho5) (fun s hs => by have := HY s hs; unfold maxLen; omega)).mono ?_
    rintro e w6 ⟨rfl, hb6⟩
    replace hb := btr hb hb6
    have ho6 := own_below ho5 hb6
    go_wp2_with fail
    refine (specHolder_any A5 c5 ys o5 w6 (by unfold maxLen; omega) (own_le ho6) (own_rd ho6) (fun s hs => by have := HY s hs; unfold maxLen; omega)).mono ?_
    rintro e w7 ⟨rfl, hb7⟩
    replace hb := btr hb hb7
    clear ho6 hb5 hb6 hb7 ho5 HY
    generalize holderR ys o5 = R at *
    obtain ⟨a5, b5⟩ := R
    go_wp2_with fail
    refine (drawPres_any A n c w7 hn (HR.out.below hb)).mono ?_
    rintro e w8 ⟨A8, c8, A9, c9, zs, ps, rfl, hz13, HZ, hp14, ho8, hop, hb8⟩
    replace hb := btr hb hb8
    go_wp2_with fail
    refine (pres_any A8 c8 zs A9 c9 ps w8 (by unfold maxLen; omega) (own_le ho8) (own_rd ho8) (fun s hs => by have := HZ s hs; unfold maxLen; omega) (by unfold maxLen; omega) (own_rd hop)).mono ?_
    rintro e w9 ⟨rfl, hb9⟩
    replace hb := btr hb hb9
    replace ho8 := own_below ho8 hb9
    replace hop := own_below hop hb9
    go_wp2_with fail
    refine (specPres_any A8 c8 zs A9 c9 ps w9 (by unfold maxLen; omega) (own_le ho8) (own_rd ho8) (fun s hs => by have := HZ s hs; unfold maxLen; omega) (by unfold maxLen; omega) (own_rd hop)).mono ?_
    rintro e w10 ⟨rfl, hb10⟩
    replace hb := btr hb hb10
    replace ho8 := own_below ho8 hb10
    replace hop := own_below hop hb10
    have HP : Hid ((presR zs ps).2 = true → hasI ps (presR zs ps).1 = true ∧ ((holderR zs 1).2 = true → hasI ps (holderR zs 1).1 = true → (presR zs ps).1 = (holderR zs 1).1)) := pres_law
    generalize presR zs ps = R at *
    obtain ⟨who, told⟩ := R
    clear hb8 hb9 hb10
    cases told with
    | false =>
      go_wp2
      go_ret
      exact ⟨rfl, hb⟩
    | true =>
      have HP2 := Lib.hid (HP.out rfl)
      clear HP
      go_wp2_with fail
      refine (holder_any A8 c8 zs 1 w10 (by unfold maxLen; omega) (own_le ho8) (own_rd ho8) (fun s hs => by have := HZ s hs; unfold maxLen; omega)).mono ?_
      rintro e w11 ⟨rfl, hb11⟩
      replace hb := btr hb hb11
      replace hop := own_below hop hb11
      generalize holderR zs 1 = R at *
      obtain ⟨ch, one⟩ := R
      clear ho8 hb11
      have HW : Hid (hasI ps who = true) := HP2.out.1
      go_wp2_with fail
      refine (rHas_any A9 c9 ps who w11 (by unfold maxLen; omega) (own_rd hop)).mono ?_
      rintro e w12 ⟨rfl, rfl⟩
      rw [HW.out]
      cases one with
      | false =>
        go_wp2
        go_ret
        exact ⟨rfl, hb⟩
      | true =>
        go_wp2_with fail
        refine (rHas_any A9 c9 ps ch w11 (by unfold maxLen; omega) (own_rd hop)).mono ?_
        rintro e w13 ⟨rfl, rfl⟩
        cases hq : hasI ps ch with
        | false =>
          go_wp2
          go_ret
          exact ⟨rfl, hb⟩
        | true =>
          have hwc : who = ch := HP2.out.2 (by trivial) hq
          subst hwc
          go_wp2
          go_ret
          exact ⟨rfl, hb⟩
  | true =>
    have hgd : goodMem L = true := (HL.out rfl).1
    have hln : (L.length : Int) = (xs.length : Int) := by rw [(HL.out rfl).2.1]
    have HH : Hid (off ≠ 0 → holderR L off = (num, true)) := (HL.out rfl).2.2
    clear HL
    go_wp2_with fail
    refine (isMembers_any A2 c2 L W (by unfold maxLen; omega) (by obtain ⟨_, _, e, h⟩ := own_form ho2; cases e; exact h) (own_rd ho2) (fun s hs => by have := HN.out s hs; unfold maxLen; omega)).mono ?_
    rintro e w4 ⟨rfl, hb4⟩
    replace hb := btr hb hb4
    replace ho2 := own_below ho2 hb4
    rw [hgd]
    clear hb4
    by_cases h0 : off = 0
    · subst h0
      clear HH
      go_wp2_with fail
      refine (drawHolder_any A n c w4 hn (HR.out.below hb)).mono ?_
      rintro e w5 ⟨A5, c5, ys, o5, rfl, hy13, HY, ho5, hb5⟩
      replace hb := btr hb hb5
      go_wp2_with fail
      refine (holder_any A5 c5 ys o5 w5 (by unfold maxLen; omega) (own_le ho5) (own_rd ho5) (fun s hs => by have := HY s hs; unfold maxLen; omega)).mono ?_
      rintro e w6 ⟨rfl, hb6⟩
      replace hb := btr hb hb6
      have ho6 := own_below ho5 hb6
      go_wp2_with fail
      refine (specHolder_any A5 c5 ys o5 w6 (by unfold maxLen; omega) (own_le ho6) (own_rd ho6) (fun s hs => by have := HY s hs; unfold maxLen; omega)).mono ?_
      rintro e w7 ⟨rfl, hb7⟩
      replace hb := btr hb hb7
      clear ho6 hb5 hb6 hb7 ho5 HY
      generalize holderR ys o5 = R at *
      obtain ⟨a5, b5⟩ := R
      go_wp2_with fail
      refine (drawPres_any A n c w7 hn (HR.out.below hb)).mono ?_
      rintro e w8 ⟨A8, c8, A9, c9, zs, ps, rfl, hz13, HZ, hp14, ho8, hop, hb8⟩
      replace hb := btr hb hb8
      go_wp2_with fail
      refine (pres_any A8 c8 zs A9 c9 ps w8 (by unfold maxLen; omega) (own_le ho8) (own_rd ho8) (fun s hs => by have := HZ s hs; unfold maxLen; omega) (by unfold maxLen; omega) (own_rd hop)).mono ?_
      rintro e w9 ⟨rfl, hb9⟩
      replace hb := btr hb hb9
      replace ho8 := own_below ho8 hb9
      replace hop := own_below hop hb9
      go_wp2_with fail
      refine (specPres_any A8 c8 zs A9 c9 ps w9 (by unfold maxLen; omega) (own_le ho8) (own_rd ho8) (fun s hs => by have := HZ s hs; unfold maxLen; omega) (by unfold maxLen; omega) (own_rd hop)).mono ?_
      rintro e w10 ⟨rfl, hb10⟩
      replace hb := btr hb hb10
      replace ho8 := own_below ho8 hb10
      replace hop := own_below hop hb10
      have HP : Hid ((presR zs ps).2 = true → hasI ps (presR zs ps).1 = true ∧ ((holderR zs 1).2 = true → hasI ps (holderR zs 1).1 = true → (presR zs ps).1 = (holderR zs 1).1)) := pres_law
      generalize presR zs ps = R at *
      obtain ⟨who, told⟩ := R
      clear hb8 hb9 hb10
      cases told with
      | false =>
        go_wp2
        go_ret
        exact ⟨rfl, hb⟩
      | true =>
        have HP2 := Lib.hid (HP.out rfl)
        clear HP
        go_wp2_with fail
        refine (holder_any A8 c8 zs 1 w10 (by unfold maxLen; omega) (own_le ho8) (own_rd ho8) (fun s hs => by have := HZ s hs; unfold maxLen; omega)).mono ?_
        rintro e w11 ⟨rfl, hb11⟩
        replace hb := btr hb hb11
        replace hop := own_below hop hb11
        generalize holderR zs 1 = R at *
        obtain ⟨ch, one⟩ := R
        clear ho8 hb11
        have HW : Hid (hasI ps who = true) := HP2.out.1
        go_wp2_with fail
        refine (rHas_any A9 c9 ps who w11 (by unfold maxLen; omega) (own_rd hop)).mono ?_
        rintro e w12 ⟨rfl, rfl⟩
        rw [HW.out]
        cases one with
        | false =>
          go_wp2
          go_ret
          exact ⟨rfl, hb⟩
        | true =>
          go_wp2_with fail
          refine (rHas_any A9 c9 ps ch w11 (by unfold maxLen; omega) (own_rd hop)).mono ?_
          rintro e w13 ⟨rfl, rfl⟩
          cases hq : hasI ps ch with
          | false =>
            go_wp2
            go_ret
            exact ⟨rfl, hb⟩
          | true =>
            have hwc : who = ch := HP2.out.2 (by trivial) hq
            subst hwc
            go_wp2
            go_ret
            exact ⟨rfl, hb⟩
    · have h0' : (off == 0) = false := by simpa using h0
      have HH2 := Lib.hid (HH.out h0)
      clear HH
      go_wp2_with fail
      refine (holder_any A2 c2 L off w4 (by unfold maxLen; omega) (by obtain ⟨_, _, e, h⟩ := own_form ho2; cases e; exact h) (own_rd ho2) (fun s hs => by have := HN.out s hs; unfold maxLen; omega)).mono ?_
      rintro e w44 ⟨rfl, hb4⟩
      replace hb := btr hb hb4
      rw [HH2.out]
      clear hb4 ho2
      go_wp2_with fail
      refine (drawHolder_any A n c w44 hn (HR.out.below hb)).mono ?_
      rintro e w5 ⟨A5, c5, ys, o5, rfl, hy13, HY, ho5, hb5⟩
      replace hb := btr hb hb5
      go_wp2_with fail
      refine (holder_any A5 c5 ys o5 w5 (by unfold maxLen; omega) (own_le ho5) (own_rd ho5) (fun s hs => by have := HY s hs; unfold maxLen; omega)).mono ?_
      rintro e w6 ⟨rfl, hb6⟩
      replace hb := btr hb hb6
      have ho6 := own_below ho5 hb6
      go_wp2_with fail
      refine (specHolder_any A5 c5 ys o5 w6 (by unfold maxLen; omega) (own_le ho6) (own_rd ho6) (fun s hs => by have := HY s hs; unfold maxLen; omega)).mono ?_
      rintro e w7 ⟨rfl, hb7⟩
      replace hb := btr hb hb7
      clear ho6 hb5 hb6 hb7 ho5 HY
      generalize holderR ys o5 = R at *
      obtain ⟨a5, b5⟩ := R
      go_wp2_with fail
      refine (drawPres_any A n c w7 hn (HR.out.below hb)).mono ?_
      rintro e w8 ⟨A8, c8, A9, c9, zs, ps, rfl, hz13, HZ, hp14, ho8, hop, hb8⟩
      replace hb := btr hb hb8
      go_wp2_with fail
      refine (pres_any A8 c8 zs A9 c9 ps w8 (by unfold maxLen; omega) (own_le ho8) (own_rd ho8) (fun s hs => by have := HZ s hs; unfold maxLen; omega) (by unfold maxLen; omega) (own_rd hop)).mono ?_
      rintro e w9 ⟨rfl, hb9⟩
      replace hb := btr hb hb9
      replace ho8 := own_below ho8 hb9
      replace hop := own_below hop hb9
      go_wp2_with fail
      refine (specPres_any A8 c8 zs A9 c9 ps w9 (by unfold maxLen; omega) (own_le ho8) (own_rd ho8) (fun s hs => by have := HZ s hs; unfold maxLen; omega) (by unfold maxLen; omega) (own_rd hop)).mono ?_
      rintro e w10 ⟨rfl, hb10⟩
      replace hb := btr hb hb10
      replace ho8 := own_below ho8 hb10
      replace hop := own_below hop hb10
      have HP : Hid ((presR zs ps).2 = true → hasI ps (presR zs ps).1 = true ∧ ((holderR zs 1).2 = true → hasI ps (holderR zs 1).1 = true → (presR zs ps).1 = (holderR zs 1).1)) := pres_law
      generalize presR zs ps = R at *
      obtain ⟨who, told⟩ := R
      clear hb8 hb9 hb10
      cases told with
      | false =>
        go_wp2
        go_ret
        exact ⟨rfl, hb⟩
      | true =>
        have HP2 := Lib.hid (HP.out rfl)
        clear HP
        go_wp2_with fail
        refine (holder_any A8 c8 zs 1 w10 (by unfold maxLen; omega) (own_le ho8) (own_rd ho8) (fun s hs => by have := HZ s hs; unfold maxLen; omega)).mono ?_
        rintro e w11 ⟨rfl, hb11⟩
        replace hb := btr hb hb11
        replace hop := own_below hop hb11
        generalize holderR zs 1 = R at *
        obtain ⟨ch, one⟩ := R
        clear ho8 hb11
        have HW : Hid (hasI ps who = true) := HP2.out.1
        go_wp2_with fail
        refine (rHas_any A9 c9 ps who w11 (by unfold maxLen; omega) (own_rd hop)).mono ?_
        rintro e w12 ⟨rfl, rfl⟩
        rw [HW.out]
        cases one with
        | false =>
          go_wp2
          go_ret
          exact ⟨rfl, hb⟩
        | true =>
          go_wp2_with fail
          refine (rHas_any A9 c9 ps ch w11 (by unfold maxLen; omega) (own_rd hop)).mono ?_
          rintro e w13 ⟨rfl, rfl⟩
          cases hq : hasI ps ch with
          | false =>
            go_wp2
            go_ret
            exact ⟨rfl, hb⟩
          | true =>
            have hwc : who = ch := HP2.out.2 (by trivial) hq
            subst hwc
            go_wp2
            go_ret
            exact ⟨rfl, hb⟩
set_option maxRecDepth 100000 in
theorem law_FnOffices_lifted (os : Os) (started : os.Started) (H : Type) (enc : TypeId × Value → H) :
    ReturnsInHanded {} Try.checked os 8 .any (Rows.fnOfficesSpec.pre6 enc Try.prog Try.f8 Rows.fnOfficesRow.domain false) (Rows.fnOfficesSpec.post enc Try.prog Try.f8 false true false false) := by
  refine returnsInHanded_of_change (C := Try.checked) own started (by kernel_rfl) Try.func8
    (ChangeSpec.witness6 (enc := enc) (C := Try.checked) false ⟨#[], #[.slice none 0 0], []⟩ 8 (by kernel_rfl) (by kernel_rfl) (by kernel_rfl) (by kernel_rfl)) ?_
  intro W base args ds gs before hval0 hW _ _
  have hval : ∀ (j : Nat) t v, Try.f8.params[j]? = some t → args[j]? = some v → Value.okWide Try.prog W .any base t v := hval0
  have hW' := hW
  obtain ⟨p, q, hA, -⟩ := hW
  replace hA : DataW.TrodAll enc Try.prog W 0 (fun _ => true) true Try.f8.params.toList args.toList ds p := hA
  rw [Try.params8] at hA hval
  obtain ⟨v0, d0, rfl, rfl, h0⟩ := trodAll_one hA
  obtain ⟨Acode, lencode, capcode, rfl⟩ := okWide_slice Try.underlying46 (hval 0 46 v0 rfl rfl)
  obtain ⟨code, rfl, hlccode, hcmcode, hxcode, hokcode⟩ := open_Code h0
  exact My.law_step laidOut Try.underlying4 (by kernel_rfl) (by kernel_rfl) rfl (fun H ds hd => by match ds, hd with | [_], _ => rfl) hW' (law_FnOffices Acode capcode code W (Nat.le_trans hlccode hcmcode) hxcode hokcode)
theorem law_FnOffices_holds : Rows.FnOfficesSaid :=
  OpenClaim.holds_of_wide 8 Try.f8 rfl rfl rfl rfl rfl rfl rfl ⟨rfl, rfl, rfl, rfl, rfl⟩ rfl rfl rfl rfl rfl (by kernel_rfl) Try.func8 (by kernel_rfl)
    (of_decide_eq_true (by kernel_rfl)) (by unfold Func.isWrapper; first | (rw [if_pos (by decide +kernel)]; kernel_rfl) | (rw [if_neg (by decide +kernel)]; exact ⟨rfl, rfl⟩))
    (fun os started H enc _ => law_FnOffices_lifted os started H enc)
end Go.Proofs.Ytidmdppcamgaoaa
