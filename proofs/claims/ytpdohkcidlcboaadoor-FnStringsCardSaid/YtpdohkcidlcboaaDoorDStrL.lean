/-
  FnStrings returns true for every input: the walk, the row over the laid tables and sentinels, and its tied card. Conditions: none beyond the row's own.
-/
import Derived.Test.YtpdohkcidlcboaaDoorDStr
import Derived.Test.YtpdohkcidlcboaaDoorLaw
import Derived.Test.YtpdohkcidlcboaaDoorRows
import Derived.Test.YtpdohkcidlcboaaDoorCards
import Derived.Test.YtpdohkcidlcboaaDoorTie
import Derived.ProofKit
import Derived.LaidMore
import Derived.OpenShut
import Derived.Stop.Joined
import Derived.Stop.LaidErr
import Derived.HandedShaped
import Derived.SevenTiedAt
import Derived.Lib.LaidTab
namespace Go.My
open Go.RowKit
theorem set_get {l : List UInt8} {k j : Nat} {c : UInt8} (hj : j < (l.set k c).length) : (l.set k c)[j] = if k = j then c else l[j]'(by simpa using hj) := by
  rw [List.getElem_set]
end Go.My
namespace Go.Proofs.YtpdohkcidlcboaaDoor
open Go.ChangeMaps (open_string shut_string)
open Go.ChangeShapes Go.WideShapes Go.ChangeAt Go.WideMaps Go.WideElems Go.RowKit Go.My
theorem codeCells_flat (xs : List Int) : xs.flatMap (fun x => [Value.int .u8 x]) = codeCells xs := by
  induction xs with
  | nil => rfl
  | cons x r ih => simp [codeCells] at ih ⊢; exact ih
theorem open_Code {H : Type} {enc : TypeId × Value → H} {w : World} {A : Option Addr} {len cap : Nat} {d : DataW H} {ps : List MemPlace} (h : DataW.Trod enc Tryd.prog w 0 (fun _ => true) true 29 (.slice A len cap) d ps) :
    ∃ xs : List Int, xs.length = len ∧ len ≤ cap ∧ cap ≤ maxLen ∧ Rd w A (codeCells xs) ∧ ∀ b ∈ xs, 0 ≤ b ∧ b < 256 := by
  obtain ⟨xs, h1, h2, h3, h4, h5⟩ := open_list (fun x : Int => [Value.int .u8 x]) (fun b => 0 ≤ b ∧ b < 256) 1 (fun _ => rfl) (by decide) Tryd.underlying29 (by kernel_rfl) (fun n cs x hx => by
    obtain ⟨n1, e1, _, w1⟩ := DataW.trod_int Tryd.underlying5 hx
    refine ⟨n1, e1, ?_⟩
    simp [Lit.wf, IntKind.min, IntKind.max, IntKind.signed, IntKind.bits] at w1
    omega) h
  exact ⟨xs, h1, h2, h3, by rw [← codeCells_flat]; exact h4, h5⟩
theorem big_any (A : Option Addr) (n c : Nat) (w : World) : Calls Tryd.prog 16 #[.slice A n c] w fun e w' => e = .returned (.bool (decide ((65536 : Int) < n))) ∧ w = w' := by
  go_enter Tryd.func16, Tryd.ntmps16
  go_wp2
  go_ret
  exact ⟨rfl, rfl⟩
set_option maxHeartbeats 8000000 in
set_option maxRecDepth 100000 in
theorem law_FnStrings (A : Option Addr) (c : Nat) (code : List Int) (w : World) (hn : code.length ≤ maxLen) (hx : Rd w A (codeCells code)) (hok : ∀ b ∈ code, 0 ≤ b ∧ b < 256) (hsh : MaxIs w) (hsyn : SynIs w) (htab : Lib.TabIs Tryd.prog w "internal/strconv.uint64pow10" .u64 Lib.pow10Tab) :
    Calls Tryd.prog 7 #[.slice A code.length c] w fun e w' => e = .returned (.bool true) ∧ Below w.heap.size w w' := by
  have HR := Lib.hid (rdCode_of hx hok)
  clear hx hok
  by_cases hbig : 65536 < code.length
  · have hbI : decide ((65536 : Int) < (code.length : Int)) = true := by simp; omega
    go_enter Tryd.func7, Tryd.ntmps7
    go_wp2_with (go_at_call 16; refine (big_any A _ c w).mono ?_; rintro e w1 ⟨rfl, rfl⟩)
    go_ret
    exact ⟨rfl, Below.refl _ _⟩
  have hbI : decide ((65536 : Int) < (code.length : Int)) = false := by simp; omega
  generalize code.length = n at *
  go_enter Tryd.func7, Tryd.ntmps7
  go_wp2_with (go_at_call 16; refine (big_any A n c w).mono ?_; rintro e w0 ⟨rfl, rfl⟩)
  go_wp2_with fail
  refine (drawFmt_any A n c w hn HR.out).mono ?_
  rintro e w1 ⟨v, rfl, hb1⟩
  go_wp2_with fail
  refine (implFmt_any v w1 (tab_below htab hb1)).mono ?_
  rintro e w2 ⟨rfl, hb12⟩
  have hb2 := btr hb1 hb12
  go_wp2_with fail
  refine (specFmt_any v w2).mono ?_
  rintro e w3 ⟨rfl, hb23⟩
  have hb3 := btr hb2 hb23
  go_wp2_with fail
  refine (drawPar_any A n c w3 hn (HR.out.below hb3)).mono ?_
  rintro e w4 ⟨t, rfl, ht, hb34⟩
  have hb4 := btr hb3 hb34
  clear hb1 hb12 hb2 hb23 hb3 hb34
  go_wp2_with fail
  refine (implParse_any t w4 (hsyn.below hb4) (tab_below htab hb4)).mono ?_
  rintro e w5 ⟨rfl, hb45⟩
  have hb5 := btr hb4 hb45
  go_wp2_with fail
  refine (specParse_any t w5 (by omega)).mono ?_
  rintro e w6 ⟨rfl, hb56⟩
  have hb6 := btr hb5 hb56
  go_wp2_with fail
  refine (drawApp_any A n c w6 hn (HR.out.below hb6)).mono ?_
  rintro e w7 ⟨x, rfl, hx, hb67⟩
  have hb7 := btr hb6 hb67
  clear hb4 hb45 hb5 hb56 hb6 hb67
  go_wp2_with fail
  refine (implApp_any x w7 (by unfold maxLen; omega) (tab_below htab hb7)).mono ?_
  rintro e w8 ⟨rfl, hb78⟩
  have hb8 := btr hb7 hb78
  go_wp2_with fail
  refine (specApp_any x w8 (by unfold maxLen; omega)).mono ?_
  rintro e w9 ⟨rfl, hb89⟩
  have hb9 := btr hb8 hb89
  clear hb7 hb78 hb8 hb89 ht
  generalize readR t = R2 at *
  obtain ⟨m2, f2⟩ := R2
  have HF : Hid ((fmtR v).2 = true → readR (fmtR v).1 = (v, true)) := fun h => by
    unfold fmtR at h ⊢
    by_cases hq : inB v (-999999) 999999 = true
    · rw [if_pos hq]
      simp only [inB, decide_eq_true_eq] at hq
      exact read_yes hq.1 hq.2 rfl
    · rw [if_neg hq] at h; cases h
  generalize fmtR v = R1 at *
  obtain ⟨S1, f1⟩ := R1
  have HPI : Hid (∀ w1, Below w.heap.size w w1 → Calls Tryd.prog 15 #[.string S1] w1 fun e w' => e = .returned (.tuple #[.int .i64 (readR S1).1, .bool (readR S1).2]) ∧ Below w1.heap.size w1 w') := fun w1 hb => implParse_any S1 w1 (hsyn.below hb) (tab_below htab hb)
  have HVC : Hid (∀ w1 y, y.size ≤ 1048576 → Below w.heap.size w w1 → Calls Tryd.prog 13 #[.string y] w1 fun e w' => e = .returned (.tuple #[.string (verR y).1, .bool (verR y).2]) ∧ Below w1.heap.size w1 w') := fun w1 y hy hb => implVer_any y w1 hy (hsh.below hb) (tab_below htab hb)
  have HAF : Hid ((appR x).2 = false → (appR x).1 = ⟨#[]⟩) := fun h => by
    unfold appR at h ⊢
    split
    · rename_i hh; rw [if_pos hh] at h; cases h
    · rfl
  have HSL : Hid ((appR x).2 = true → stB 35 x = false ∧ (appR x).1 = sealB x ∧ (sealB x).size ≤ 4000 ∧ verR (sealB x) = (x, true)) := fun h => ver_seal h
  generalize appR x = R3 at *
  obtain ⟨y, f3⟩ := R3
  obtain ⟨v9, hv9, hV9⟩ := vAt_val A n c 9 w (by omega) (by omega) HR.out
  obtain ⟨v10, hv10, hV10⟩ := vAt_val A n c 10 w (by omega) (by omega) HR.out
  have HV9 := Lib.hid hV9
  have HV10 := Lib.hid hV10
  clear hV9 hV10 hsh hsyn htab
  simp only at HF HAF HSL
  have H3 : Hid (∃ r : Int × Bool, readR S1 = r ∧ (f1 = true → r = (v, true))) := ⟨_, rfl, HF.out⟩
  obtain ⟨⟨m3, f3'⟩, hr3, hr3'⟩ := H3.out
  rw [hr3] at HPI
  simp only at HPI
  clear H3 HF hr3
  have hgo : (f1 = false ∨ (f1 = true ∧ m3 = v ∧ f3' = true)) := by
    cases f1 with
    | false => exact .inl rfl
    | true => have := hr3' rfl; cases this; exact .inr ⟨rfl, rfl, rfl⟩
  clear hr3'
  cases f3 with
  | false =>
    have hy : y = ⟨#[]⟩ := HAF.out rfl
    subst hy
    clear HAF HSL HVC HV9 HV10
    rcases hgo with rfl | ⟨rfl, rfl, rfl⟩
    · go_wp2_with (go_at_call 15; refine (HPI.out _ hb9).mono ?_; rintro e w10 ⟨rfl, hb910⟩)
      go_ret
      exact ⟨rfl, btr hb9 hb910⟩
    · go_wp2_with (go_at_call 15; refine (HPI.out _ hb9).mono ?_; rintro e w10 ⟨rfl, hb910⟩)
      go_ret
      exact ⟨rfl, btr hb9 hb910⟩
  | true =>
    obtain ⟨hst, hye, hsz, hver⟩ := HSL.out rfl
    subst hye
    have HBAD : Hid (∀ (k : Nat) (cc : UInt8) (s : ByteArray) (hk : k < (sealB x).size), cc ≠ (sealB x)[k] → s.data.toList = (sealB x).data.toList.set k cc → (verR s).2 = false) := fun k cc s hk h1 h2 => bad_byte hst hk h1 h2
    have HV1 : Hid (∀ w1, Below w.heap.size w w1 → Calls Tryd.prog 13 #[.string (sealB x)] w1 fun e w' => e = .returned (.tuple #[.string x, .bool true]) ∧ Below w1.heap.size w1 w') := fun w1 hb => by
      have := HVC.out w1 (sealB x) (by omega) hb
      rwa [hver] at this
    have hpos : 0 < (sealB x).size := by have := sealB_size x; omega
    clear HAF HSL hver hst
    generalize sealB x = y at *
    obtain ⟨k, hk, hkl⟩ : ∃ k : Nat, (v9 : Int).tmod (y.size : Int) = (k : Int) ∧ k < y.size := ⟨v9 % y.size, by rw [Int.tmod_eq_emod_of_nonneg (by omega)]; exact (Int.natCast_emod _ _).symm, Nat.mod_lt _ hpos⟩
    obtain ⟨d, hd, hd1, hd2⟩ : ∃ d : Nat, (v10 : Int).tmod 255 = (d : Int) ∧ d < 255 ∧ 1 + d < 256 := ⟨v10 % 255, by rw [Int.tmod_eq_emod_of_nonneg (by omega)]; omega, by omega, by omega⟩
    have hwk : IntKind.i64.wrap (k : Int) = (k : Int) := by rw [IntKind.wrap_i64]; omega
    have hwd : IntKind.i64.wrap (1 + (d : Int)) = 1 + (d : Int) := by rw [IntKind.wrap_i64]; omega
    have hw8 : IntKind.u8.wrap (1 + (d : Int)) = 1 + (d : Int) := by
      have e : IntKind.u8.wrap (1 + (d : Int)) = (1 + (d : Int)) % 256 := by simp [IntKind.wrap, IntKind.bits, IntKind.signed]
      rw [e]; exact Int.emod_eq_of_lt (by omega) (by omega)
    have hyk : y[k].toNat < 256 := y[k].toNat_lt
    have hxor : bits .xor .u8 (y[k].toNat : Int) (1 + (d : Int)) = ((y[k].toNat ^^^ (1 + d) : Nat) : Int) := by
      have := bits_xor_u8 y[k].toNat (1 + d) hyk hd2
      rwa [show ((1 + d : Nat) : Int) = 1 + (d : Int) by omega] at this
    have hx8 : y[k].toNat ^^^ (1 + d) < 256 := Nat.xor_lt_two_pow (n := 8) hyk hd2
    have hne : y[k].toNat ^^^ (1 + d) ≠ y[k].toNat := xor_ne (by omega)
    obtain ⟨cc, hcc⟩ : ∃ cc : UInt8, cc.toNat = y[k].toNat ^^^ (1 + d) := ⟨UInt8.ofNat (y[k].toNat ^^^ (1 + d)), by rw [UInt8.toNat_ofNat']; omega⟩
    have hcne : cc ≠ y[k] := fun e => hne (by rw [← hcc, e])
    rw [← hcc] at hxor
    clear hx8 hne hcc
    have hl0 : (⟨(y.data.toList.set k cc).toArray⟩ : ByteArray).size = y.size := by show (y.data.toList.set k cc).toArray.size = _; simp
    have hv2 := HBAD.out k cc ⟨(y.data.toList.set k cc).toArray⟩ hkl hcne (by simp)
    have HV2 : Hid (∀ w1, Below w.heap.size w w1 → Calls Tryd.prog 13 #[.string ⟨(y.data.toList.set k cc).toArray⟩] w1 fun e w' => e = .returned (.tuple #[.string (verR ⟨(y.data.toList.set k cc).toArray⟩).1, .bool false]) ∧ Below w1.heap.size w1 w') := fun w1 hb => by
      have := HVC.out w1 ⟨(y.data.toList.set k cc).toArray⟩ (by omega) hb
      rwa [hv2] at this
    clear hv2 HBAD HVC hl0
    generalize (verR ⟨(y.data.toList.set k cc).toArray⟩).1 = Z at *
    have hkI : (k : Int) < (y.size : Int) := by omega
    have hposI : (y.size : Int) ≠ 0 := by omega
    have hposB : ((y.size : Int) == 0) = false := beq_eq_false_iff_ne.2 hposI
    have HK := Lib.hid hk
    rcases hgo with rfl | ⟨rfl, rfl, rfl⟩
    · go_wp2_with (go_at_call 15; refine (HPI.out _ hb9).mono ?_; rintro e w10 ⟨rfl, hb910⟩; have hb10 := btr hb9 hb910)
      refine (HV1.out _ hb10).mono ?_
      rintro e w11 ⟨rfl, hb1011⟩
      have hb11 := btr hb10 hb1011
      have hcv := Lib.run_convert_string_bytes (P := Tryd.prog) w11 9 29 5 y Tryd.underlying9 Tryd.underlying29 Tryd.underlying5
      have hbW := Lib.bytesWorld_below w11 5 y
      have hcell : ∀ j (hj : j < y.size), (Lib.bytesWorld w11 5 y).cell? ⟨w11.heap.size, j, none⟩ = some (.int .u8 y[j].toNat) := fun j hj => by
        rw [Lib.bytesWorld_cell w11 5 y j hj]
        rw [List.getD_eq_getElem?_getD, List.getElem?_eq_getElem (by simpa using hj)]; rfl
      have hfr : ∀ j, j < y.size → (Lib.bytesWorld w11 5 y).frozen? ⟨w11.heap.size, j, none⟩ = false := fun j hj => by
        unfold World.frozen?
        rw [Lib.bytesWorld_at_new w11 5 y]
        have hb : y.size ≤ (Lib.bytesCells w11 5 y).size := by simp [Lib.bytesCells]
        simp; omega
      have hbWw := btr hb11 hbW
      have hgB : w.heap.size ≤ w11.heap.size := hb11.size
      generalize Lib.bytesWorld w11 5 y = W at *
      generalize grownCap w11 y.size 0 5 = cp at *
      generalize w11.heap.size = g at *
      go_wp2_with fail
      refine (HV9.out _ hbWw).mono ?_
      rintro e w12 ⟨rfl, rfl⟩
      have hwv : IntKind.i64.wrap (v9 : Int) = (v9 : Int) := by rw [IntKind.wrap_i64]; omega
      have d0 : w12.drew.cell? ⟨g, k, none⟩ = some (.int .u8 y[k].toNat) := hcell k hkl
      have f0 : w12.drew.frozen? ⟨g, k, none⟩ = false := hfr k hkl
      go_wp2_with fail
      refine wp_region_tail 13 (by kernel_rfl) (by kernel_rfl) ?_
      simp only [List.take_succ_cons, List.take_zero, List.drop_succ_cons, List.drop_zero]
      repeat (go_big_quiet_step (fail))
      go_big_quiet_want
      go_big_quiet_op
      apply Exists.intro
      refine ⟨?_, ?_⟩
      · exact HV10.out _ hbWw.drew
      go_big_quiet_on
      repeat (go_big_quiet_step (fail))
      refine wpQuiet_nil ?_
      have hcv2 : (convert 29 9 (.slice (some ⟨g, 0, none⟩) y.size cp)).run Tryd.prog (w12.setCell ⟨g, k, none⟩ (.int .u8 cc.toNat)).drew = .ok (.string ⟨(y.data.toList.set k cc).toArray⟩) (w12.setCell ⟨g, k, none⟩ (.int .u8 cc.toNat)).drew := by
        have hl : (y.data.toList.set k cc).length = y.size := by simp
        have := run_convert_bytes_back (P := Tryd.prog) (w12.setCell ⟨g, k, none⟩ (.int .u8 cc.toNat)).drew 29 9 5 ⟨g, 0, none⟩ cp (y.data.toList.set k cc) Tryd.underlying29 Tryd.underlying5 Tryd.underlying9 (fun j hj => by
          have hadd : (⟨g, 0, none⟩ : Addr).add j = ⟨g, j, none⟩ := by unfold Addr.add; split <;> simp_all
          rw [hadd, set_get hj]
          show (w12.setCell ⟨g, k, none⟩ (.int .u8 cc.toNat)).cell? ⟨g, j, none⟩ = _
          by_cases hjk : k = j
          · subst hjk
            rw [if_pos rfl]
            exact World.cell?_setCell_same _ _ _ (hcell k hkl)
          · rw [if_neg hjk, World.cell?_setCell_other _ _ _ _ (fun e => hjk (Addr.mk.inj e).2.1)]
            exact hcell j (by omega))
        rw [hl] at this
        exact this
      have hbE : Below w.heap.size w (w12.setCell ⟨g, k, none⟩ (.int .u8 cc.toNat)).drew := (hbWw.setCell hgB _).drew
      go_wp2_with (go_at_call 13; refine (HV2.out _ hbE).mono ?_; rintro e w13 ⟨rfl, hb13⟩)
      go_ret
      exact ⟨rfl, btr hbE hb13⟩
    · go_wp2_with (go_at_call 15; refine (HPI.out _ hb9).mono ?_; rintro e w10 ⟨rfl, hb910⟩; have hb10 := btr hb9 hb910)
      refine (HV1.out _ hb10).mono ?_
      rintro e w11 ⟨rfl, hb1011⟩
      have hb11 := btr hb10 hb1011
      have hcv := Lib.run_convert_string_bytes (P := Tryd.prog) w11 9 29 5 y Tryd.underlying9 Tryd.underlying29 Tryd.underlying5
      have hbW := Lib.bytesWorld_below w11 5 y
      have hcell : ∀ j (hj : j < y.size), (Lib.bytesWorld w11 5 y).cell? ⟨w11.heap.size, j, none⟩ = some (.int .u8 y[j].toNat) := fun j hj => by
        rw [Lib.bytesWorld_cell w11 5 y j hj]
        rw [List.getD_eq_getElem?_getD, List.getElem?_eq_getElem (by simpa using hj)]; rfl
      have hfr : ∀ j, j < y.size → (Lib.bytesWorld w11 5 y).frozen? ⟨w11.heap.size, j, none⟩ = false := fun j hj => by
        unfold World.frozen?
        rw [Lib.bytesWorld_at_new w11 5 y]
        have hb : y.size ≤ (Lib.bytesCells w11 5 y).size := by simp [Lib.bytesCells]
        simp; omega
      have hbWw := btr hb11 hbW
      have hgB : w.heap.size ≤ w11.heap.size := hb11.size
      generalize Lib.bytesWorld w11 5 y = W at *
      generalize grownCap w11 y.size 0 5 = cp at *
      generalize w11.heap.size = g at *
      go_wp2_with fail
      refine (HV9.out _ hbWw).mono ?_
      rintro e w12 ⟨rfl, rfl⟩
      have hwv : IntKind.i64.wrap (v9 : Int) = (v9 : Int) := by rw [IntKind.wrap_i64]; omega
      have d0 : w12.drew.cell? ⟨g, k, none⟩ = some (.int .u8 y[k].toNat) := hcell k hkl
      have f0 : w12.drew.frozen? ⟨g, k, none⟩ = false := hfr k hkl
      go_wp2_with fail
      refine wp_region_tail 13 (by kernel_rfl) (by kernel_rfl) ?_
      simp only [List.take_succ_cons, List.take_zero, List.drop_succ_cons, List.drop_zero]
      repeat (go_big_quiet_step (fail))
      go_big_quiet_want
      go_big_quiet_op
      apply Exists.intro
      refine ⟨?_, ?_⟩
      · exact HV10.out _ hbWw.drew
      go_big_quiet_on
      repeat (go_big_quiet_step (fail))
      refine wpQuiet_nil ?_
      have hcv2 : (convert 29 9 (.slice (some ⟨g, 0, none⟩) y.size cp)).run Tryd.prog (w12.setCell ⟨g, k, none⟩ (.int .u8 cc.toNat)).drew = .ok (.string ⟨(y.data.toList.set k cc).toArray⟩) (w12.setCell ⟨g, k, none⟩ (.int .u8 cc.toNat)).drew := by
        have hl : (y.data.toList.set k cc).length = y.size := by simp
        have := run_convert_bytes_back (P := Tryd.prog) (w12.setCell ⟨g, k, none⟩ (.int .u8 cc.toNat)).drew 29 9 5 ⟨g, 0, none⟩ cp (y.data.toList.set k cc) Tryd.underlying29 Tryd.underlying5 Tryd.underlying9 (fun j hj => by
          have hadd : (⟨g, 0, none⟩ : Addr).add j = ⟨g, j, none⟩ := by unfold Addr.add; split <;> simp_all
          rw [hadd, set_get hj]
          show (w12.setCell ⟨g, k, none⟩ (.int .u8 cc.toNat)).cell? ⟨g, j, none⟩ = _
          by_cases hjk : k = j
          · subst hjk
            rw [if_pos rfl]
            exact World.cell?_setCell_same _ _ _ (hcell k hkl)
          · rw [if_neg hjk, World.cell?_setCell_other _ _ _ _ (fun e => hjk (Addr.mk.inj e).2.1)]
            exact hcell j (by omega))
        rw [hl] at this
        exact this
      have hbE : Below w.heap.size w (w12.setCell ⟨g, k, none⟩ (.int .u8 cc.toNat)).drew := (hbWw.setCell hgB _).drew
      go_wp2_with (go_at_call 13; refine (HV2.out _ hbE).mono ?_; rintro e w13 ⟨rfl, hb13⟩)
      go_ret
      exact ⟨rfl, btr hbE hb13⟩
theorem own : ownKnob Tryd.prog.godebug = none := by kernel_rfl
theorem laidOut : laidOutB Tryd.prog = true := by kernel_rfl
/-- The wrap, with what the row lists and the world's shape both kept. -/
theorem returns_listed {H : Type} {enc : TypeId × Value → H} {a : Assume} {C : Checked} {os : Os} {f : FuncId} {fn : Func} {s : ChangeSpec} {conds : List PathCond} {apart fresh handsOn again : Bool} {X : World → Array Value → Prop}
    (hX : ∀ (w w' : World) (args : Array Value), w.heap = w'.heap → X w args → X w' args)
    (own : ownKnob C.prog.godebug = none) (started : os.Started) (noInit : C.prog.inits.idxOf? f = none) (hfn : C.prog.funcs[f]? = some fn)
    (witness : ∃ (w : World) (tape : Tape) (i : Input), w.os = os ∧ (w.forCall tape i).Shaped C.prog ∧ i.vars = [] ∧ Input.okWide C.prog (w.forCall tape i) .any w.heap.size f i ∧
      ((s.pre enc C.prog fn conds apart (w.forCall tape i).memory i.args ∧ X (w.forCall tape i).memory i.args) ∧ sizedMet enc C.prog fn (OpenSpec.ofChange s) apart (w.forCall tape i).memory i.args) ∧ a.holds C.prog (lone (Frame.enter C.prog f i.args .normal) [] (w.forCall tape i)))
    (contract : ∀ (W : World) (base : Nat) (args : Array Value) (ds gs : List (DataW H)) (before : List MemPlace),
      (∀ (j : Nat) t v, fn.params[j]? = some t → args[j]? = some v → Value.okWide C.prog W .any base t v) →
      DataW.Whole enc C.prog fn.params.toList s.vars apart W args.toList ds gs before → X W args → W.ShapedOpen C.prog →
      Calls C.prog f args W fun e W' => ∃ v, e = .returned v ∧ s.post enc C.prog fn apart fresh handsOn again W args v W') :
    ReturnsInHanded a C os f .any (fun w args => (s.pre enc C.prog fn conds apart w args ∧ X w args) ∧ sizedMet enc C.prog fn (OpenSpec.ofChange s) apart w args) (s.post enc C.prog fn apart fresh handsOn again) := by
  refine returnsInHanded_of_calls own started noInit witness ?_
  intro w tape i _ hsh _ hok hpre _
  obtain ⟨_, _, _, g, hg, _, _, _, _, hval⟩ := hok
  obtain rfl := Option.some.inj (hg.symm.trans hfn)
  obtain ⟨⟨⟨ds, gs, before, hw, _⟩, hx⟩, _⟩ := hpre
  refine (contract (w.forCall tape i) w.heap.size i.args ds gs before hval (DataW.Whole.of_heap (w' := w.forCall tape i) (by rfl) hw) (hX _ _ _ (by rfl) hx) hsh).mono fun e W' h => ?_
  obtain ⟨v, he, hp⟩ := h
  subst he
  exact ChangeSpec.post_blind hp
def strList : List (String × DataW Unit) := [("math/bits.deBruijn32tab", Rows.laid_math_bits_deBruijn32tab), ("math/bits.deBruijn64tab", Rows.laid_math_bits_deBruijn64tab), ("internal/strconv.uint64pow10", Rows.laid_internal_strconv_uint64pow10), ("strconv.ErrRange", Rows.laid_strconv_ErrRange), ("strconv.ErrSyntax", Rows.laid_strconv_ErrSyntax)]
theorem str_plain {W : World} (h : laidMetH Tryd.prog strList W) : laidMet Tryd.prog strList W := by
  rw [MakeChecks.laidMetH_plain _ _ _ (by kernel_rfl)] at h; exact h
set_option maxRecDepth 100000 in
theorem str_door (os : Os) (args : Array Value) : laidMetH Tryd.prog strList ((World.doorLaid Tryd.prog 400 os).forCall (fun _ _ => 0) ⟨#[], args, []⟩).memory :=
  laidMetH_of_parts3 (fuel := 8) (laidMet_of_run' 8 (by kernel_rfl) (by kernel_rfl)) (by kernel_rfl) (by kernel_rfl)
theorem str_tab {W : World} (h : laidMetH Tryd.prog strList W) : Lib.TabIs Tryd.prog W "internal/strconv.uint64pow10" .u64 Lib.pow10Tab := by
  obtain ⟨ps, ⟨g0, t0, cs0, f0, p0, q0, hg0, ht0, hv0, hd0, ⟨g1, t1, cs1, f1, p1, q1, hg1, ht1, hv1, hd1, ⟨g2, t2, cs2, f2, p2, q2, hg2, ht2, hv2, hd2, ⟨g3, t3, cs3, f3, p3, q3, hg3, ht3, hv3, hd3, ⟨g4, t4, cs4, f4, p4, q4, hg4, ht4, hv4, hd4, _, _⟩, _⟩, _⟩, _⟩, _⟩, _, _⟩ := str_plain h
  unfold Lib.TabIs
  have e1 : g2 = 3 := Option.some.inj (hg2.symm.trans (by kernel_rfl))
  subst e1
  have e2 : t2 = 80 := Option.some.inj (ht2.symm.trans (by kernel_rfl))
  subst e2
  rw [hv2, ← Lib.cells_of_tab (zs := Lib.pow10Tab) Tryd.underlying80 Tryd.underlying49 (by kernel_rfl) (by kernel_rfl) hd2]
theorem str_syn {W : World} (h : laidMetH Tryd.prog strList W) : SynIs W := by
  have h0 := str_plain h
  have h1 := ((((h0.tail).tail).tail).tail)
  obtain ⟨a, s, hv, -, -, -⟩ := laid_sentinel h1 (g := 1) (ti := 45) (tp := 88) (by kernel_rfl) (by kernel_rfl) Tryd.underlying45 (fun u hu => typeName_ptr_named (nm := "errors.errorString") (by rw [show "*" ++ "errors.errorString" = "*errors.errorString" by decide]; kernel_rfl) (by kernel_rfl) (by decide) u (by rw [show "*" ++ "errors.errorString" = "*errors.errorString" by decide]; exact hu)) Tryd.underlying88 Tryd.underlying90 rfl rfl Tryd.underlying9 (by kernel_rfl) (by kernel_rfl)
  exact ⟨_, _, hv⟩
set_option maxRecDepth 100000 in
theorem FnStrings_lifted (os : Os) (started : os.Started) (H : Type) (enc : TypeId × Value → H) :
    ReturnsInHanded {} Tryd.checked os 7 .any (fun w args => (Rows.fnStringsSpec.pre enc Tryd.prog Tryd.f7 [] false w args ∧ laidMetH Tryd.prog strList w) ∧ sizedMet enc Tryd.prog Tryd.f7 (OpenSpec.ofChange Rows.fnStringsSpec) false w args)
      (Rows.fnStringsSpec.post enc Tryd.prog Tryd.f7 false true false false) := by
  refine returns_listed (C := Tryd.checked) (X := fun w _ => laidMetH Tryd.prog strList w) (fun _ _ _ hh h => h.of_heap hh) own started (by kernel_rfl) Tryd.func7
    (ChangeSpec.witness_shaped (enc := enc) (C := Tryd.checked) (os := os) (X := fun w _ => laidMetH Tryd.prog strList w) false (World.doorLaid Tryd.prog 400 os) #[.slice none 0 0] 8 rfl (World.shaped_of_RefB (by kernel_rfl) (by kernel_rfl)) (by kernel_rfl) (by kernel_rfl) (by kernel_rfl) (str_door os _)) ?_
  intro W base args ds gs before hval0 hW hL hsh
  have hval : ∀ (j : Nat) t v, Tryd.f7.params[j]? = some t → args[j]? = some v → Value.okWide Tryd.prog W .any base t v := hval0
  have hW' := hW
  obtain ⟨p, q, hA, -⟩ := hW
  replace hA : DataW.TrodAll enc Tryd.prog W 0 (fun _ => true) true Tryd.f7.params.toList args.toList ds p := hA
  rw [Tryd.params7] at hA hval
  obtain ⟨v0, d0, rfl, rfl, h0⟩ := trodAll_one hA
  obtain ⟨A0, len0, cap0, rfl⟩ := okWide_slice Tryd.underlying29 (hval 0 29 v0 rfl rfl)
  obtain ⟨code, rfl, hlc, hcm, hx, hok⟩ := open_Code h0
  exact My.law_step laidOut Tryd.underlying4 (by kernel_rfl) (by kernel_rfl) rfl (fun H ds hd => by match ds, hd with | [_], _ => rfl) hW' (law_FnStrings A0 cap0 code W (Nat.le_trans hlc hcm) hx hok (Tryd.laysM219.s1_3 W hsh) (str_syn hL) (str_tab hL))
theorem FnStrings_holds : Rows.FnStringsSaid :=
  OpenClaim.holds_of_wide 7 Tryd.f7 rfl rfl rfl rfl rfl rfl rfl ⟨rfl, rfl, rfl, rfl, rfl⟩ rfl rfl rfl rfl rfl (by kernel_rfl) Tryd.func7 (by kernel_rfl)
    (of_decide_eq_true (by kernel_rfl)) (by unfold Func.isWrapper; first | (rw [if_pos (by decide +kernel)]; kernel_rfl) | (rw [if_neg (by decide +kernel)]; exact ⟨rfl, rfl⟩))
    (fun os started H enc _ => FnStrings_lifted os started H enc)
theorem FnStrings_card : Rows.FnStringsCardSaid :=
  Claim7.holds_tied_plain_at .later [] [.data, .data, .data, .sentinel, .sentinel] true (true, "2f6e1df87f37b37e30decda7a934c12a24335fb1af53b75f3e3d11a8041154e1") true
    FnStrings_holds (fun _ h => by cases h) (by kernel_rfl) (fun _ h => by cases h) fnStrings_row_tie rfl ⟨rfl, rfl⟩ (by kernel_rfl) rfl
    (fun f fn hf hfn => by
      obtain rfl : f = 7 := Option.some.inj ((show Tryd.prog.funcNamed "loop.example/g00909/laws.FnStrings" = some 7 by kernel_rfl).symm.trans hf) |>.symm
      obtain rfl : fn = Tryd.f7 := (Option.some.inj (Tryd.func7.symm.trans hfn)).symm
      exact ⟨by kernel_rfl, fun j t ht => by
        rw [Tryd.params7] at ht
        have hm : t ∈ [29] := by simpa using Array.mem_of_getElem? ht
        have hall : ([29].all fun u => !Tryd.prog.wantsStandIn u) = true := by kernel_rfl
        exact (show Tryd.prog.wantsStandIn t = false by simpa using List.all_eq_true.1 hall t hm)⟩)
    (by kernel_rfl)
end Go.Proofs.YtpdohkcidlcboaaDoor

