/-
  Contracts of SectionNumber, of the program and of the reference. Conditions: lengths within Go's range.
-/
import Derived.Test.YteeelkiapccdoaaDoorDoc2
import Derived.Test.YteeelkiapccdoaaDoorDNum
import Derived.Lib.ItoaMem
namespace Go.My
open Go.RowKit
def numB (n : Int) : ByteArray := ⟨(Lib.itoa n).toArray⟩
def dAt (xs : List Sec) (k : Nat) : Int := match xs[k]? with | some s => s.d | none => 0
theorem dAt_eq {xs : List Sec} {k : Nat} (h : k < xs.length) : dAt xs k = xs[k].d := by simp [dAt, List.getElem?_eq_getElem h]
theorem upAt_range {xs : List Sec} {i : Nat} (hi : i < xs.length) : -1 ≤ upAt xs i ∧ upAt xs i < i := by
  rw [upAt_eq hi]; exact upTo_range xs _ i
/-- How many sections up to a place stand beside it. -/
def sib (xs : List Sec) (i k : Nat) : Bool := dAt xs k == dAt xs i && upAt xs k == upAt xs i
def cntTo (xs : List Sec) (i : Nat) : Nat → Nat
  | 0 => 0
  | k + 1 => cntTo xs i k + (if sib xs i k = true then 1 else 0)
theorem cntTo_le (xs : List Sec) (i k : Nat) : cntTo xs i k ≤ k := by
  induction k with
  | zero => exact Nat.le_refl _
  | succ k ih => simp only [cntTo]; split <;> omega
def secB (xs : List Sec) : Nat → Nat → ByteArray
  | 0, _ => ⟨#[]⟩
  | f + 1, i => if upAt xs i < 0 then numB (cntTo xs i (i + 1)) else secB xs f (upAt xs i).toNat ++ ⟨#[46]⟩ ++ numB (cntTo xs i (i + 1))
theorem numB_size {n : Nat} (h : n ≤ 999999) : (numB n).size ≤ 20 := by
  have := dec_len n h
  unfold numB Lib.itoa
  rw [if_neg (by omega)]
  exact this
theorem secB_size (xs : List Sec) (hl : xs.length ≤ 12) : ∀ (f i : Nat), i < 13 → (secB xs f i).size ≤ 21 * f
  | 0, _, _ => by simp [secB]; rfl
  | f + 1, i, hi => by
    have hc := cntTo_le xs i (i + 1)
    have h1 := numB_size (n := cntTo xs i (i + 1)) (by omega)
    unfold secB
    split
    · omega
    · have hu : (upAt xs i).toNat < 13 := by
        by_cases h : i < xs.length
        · have := upAt_range h; omega
        · have : upAt xs i = -1 := by simp [upAt, List.getElem?_eq_none (Nat.le_of_not_lt h)]
          omega
      have h2 := secB_size xs hl f _ hu
      rw [ByteArray.size_append, ByteArray.size_append]
      have : (⟨#[46]⟩ : ByteArray).size = 1 := rfl
      omega
def secR (xs : List Sec) (i : Int) : ByteArray × Bool := if okAt xs i then (secB xs (i.toNat + 1) i.toNat, true) else (⟨#[]⟩, false)
end Go.My
namespace Go.Proofs.YteeelkiapccdoaaDoor
open Go.RowKit Go.My
set_option maxHeartbeats 4000000 in
set_option maxRecDepth 100000 in
theorem secN_any (A : Option Addr) (c : Nat) (xs : List Sec) (hn : xs.length ≤ 12) : ∀ (f i : Nat) (w : World), i < f → f ≤ 20 → i < xs.length → Rd w A (secCells xs) →
    Calls Tryd.prog 14 #[.slice A xs.length c, .int .i64 i] w fun e w' => e = .returned (.string (secB xs f i)) ∧ Below w.heap.size w w'
  | 0, i, w, hf, _, _, _ => absurd hf (by omega)
  | f + 1, i, w, hf, hf2, hi, hx => by
    have hur := upAt_range hi
    have HU : Hid (∀ (w1 : World) (k : Nat), k < xs.length → Below w.heap.size w w1 → Calls Tryd.prog 22 #[.slice A xs.length c, .int .i64 k] w1 fun e w' => e = .returned (.int .i64 (upAt xs k)) ∧ Below w1.heap.size w1 w') := fun w1 k hk hb => belongsTo_any A c xs k w1 (by omega) hk (hx.below hb)
    have hcl := cntTo_le xs i (i + 1)
    have HI : Hid (∀ (w1 : World), 0 ≤ upAt xs i → Below w.heap.size w w1 → Calls Tryd.prog 14 #[.slice A xs.length c, .int .i64 (upAt xs i)] w1 fun e w' => e = .returned (.string (secB xs f (upAt xs i).toNat)) ∧ Below w1.heap.size w1 w') := fun w1 h0 hb => by
      have := secN_any A c xs hn f (upAt xs i).toNat w1 (by omega) (by omega) (by omega) (hx.below hb)
      rwa [Int.toNat_of_nonneg h0] at this
    have HD : Hid (∀ w1, Calls Tryd.prog 23 #[.int .i64 (cntTo xs i (i + 1) : Nat)] w1 fun e w' => e = .returned (.string (numB (cntTo xs i (i + 1) : Nat))) ∧ Below w1.heap.size w1 w') := fun w1 => (Tryd.strconv_Itoa_small _ (by omega) w1).mono fun e w2 h => ⟨by rw [h.1, numB, Lib.itoa_nonneg], by rw [h.2]; exact Below.refl _ _⟩
    have hDs := numB_size (n := cntTo xs i (i + 1)) (by omega)
    have HSB : Hid (secB xs (f + 1) i = if upAt xs i < 0 then numB (cntTo xs i (i + 1)) else secB xs f (upAt xs i).toNat ++ ⟨#[46]⟩ ++ numB (cntTo xs i (i + 1))) := rfl
    have hf13 : (secB xs f (upAt xs i).toNat).size ≤ 21 * 20 := by
      have h1 := secB_size xs hn f (upAt xs i).toNat (by omega)
      omega
    have HDI := Lib.hid (dAt_eq hi)
    obtain ⟨b, off, rfl, c1, -⟩ := Rd.sec hx hi
    go_enter Tryd.func14, Tryd.ntmps14
    go_wp2_with fail
    refine (HU.out _ i hi (Below.refl _ _)).mono ?_
    rintro e w1 ⟨rfl, hb1⟩
    go_wp2_with fail
    go_loopw [6, 7, 13] (fun n q k wr => ∃ k' : Nat, k' ≤ i + 1 ∧ k = .int .i64 k' ∧ n = .int .i64 (cntTo xs i k' : Nat) ∧ Below w.heap.size w wr) (fun _ _ k _ => (i + 1) - (intOf k).toNat)
    case atStart => exact ⟨0, by omega, rfl, rfl, hb1⟩
    case round =>
      obtain ⟨k, hk, rfl, rfl, hb⟩ := hrel
      have hck := cntTo_le xs i k
      have hk13 : (k : Int) ≤ 12 := by omega
      have hi12 : (i : Int) ≤ 11 := by omega
      by_cases hlt : k < i + 1
      · have hkl : k < xs.length := by omega
        have hkI : (k : Int) < (xs.length : Int) := by omega
        have hiI : (i : Int) < (xs.length : Int) := by omega
        have hltI : (k : Int) < (i : Int) + 1 := by omega
        have hltI2 : (k : Int) ≤ (i : Int) := by omega
        obtain ⟨b', off', e', k1, -⟩ := Rd.sec (hx.below hb) hkl
        have k2 : b' = b ∧ off' = off := by simpa using e'.symm
        obtain ⟨rfl, rfl⟩ := k2
        clear e'
        have g1 := cell_after k1
        have g0 := cell_after ((hb.cell (World.block_lt_of_cell? w _ c1)).trans c1)
        have HDK := Lib.hid (dAt_eq hkl)
        clear k1
        by_cases h1 : xs[k].d = xs[i].d
        · have h1b : (xs[k].d == xs[i].d) = true := by simpa using h1
          by_cases h2 : upAt xs k = upAt xs i
          · have h2b : (upAt xs k == upAt xs i) = true := by simpa using h2
            have HS : Hid (sib xs i k = true) := by show _ = _; unfold sib; rw [HDK.out, HDI.out, h1b, h2b]; rfl
            clear HDK h1 h2
            go_wp2_with fail
            have HN : Hid (Value.int .i64 ((cntTo xs i (k + 1) : Nat) : Int) = .int .i64 ((cntTo xs i k : Int) + 1)) := by show _ = _; simp only [cntTo]; rw [HS.out]; simp
            clear HS
            refine wp_region_after (by kernel_rfl) (by kernel_rfl) ?_
            repeat (go_big_quiet_step ((go_at_call 22; exact Calls.after (HU.out _ k hkl (btr hb (After.bel _))))))
            refine wpQuiet_nil ?_
            intro nq
            have hb9 := btr hb nq.bel
            go_wp2
            go_roundw
            case rel => exact ⟨k + 1, by omega, by go_num, HN.out.symm, hb9⟩
            case measure => simp [intOf]; omega
          · have h2b : (upAt xs k == upAt xs i) = false := by simpa using h2
            have HS : Hid (sib xs i k = false) := by show _ = _; unfold sib; rw [HDK.out, HDI.out, h1b, h2b]; rfl
            clear HDK h1 h2
            go_wp2_with fail
            have HN : Hid (Value.int .i64 ((cntTo xs i (k + 1) : Nat) : Int) = .int .i64 ((cntTo xs i k : Int))) := by show _ = _; simp only [cntTo]; rw [HS.out]; simp
            clear HS
            refine wp_region_after (by kernel_rfl) (by kernel_rfl) ?_
            repeat (go_big_quiet_step ((go_at_call 22; exact Calls.after (HU.out _ k hkl (btr hb (After.bel _))))))
            refine wpQuiet_nil ?_
            intro nq
            have hb9 := btr hb nq.bel
            go_wp2
            go_roundw
            case rel => exact ⟨k + 1, by omega, by go_num, HN.out.symm, hb9⟩
            case measure => simp [intOf]; omega
        · have h1b : (xs[k].d == xs[i].d) = false := by simpa using h1
          have HS : Hid (sib xs i k = false) := by show _ = _; unfold sib; rw [HDK.out, HDI.out, h1b]; rfl
          clear HDK h1
          go_wp2_with fail
          have HN : Hid (Value.int .i64 ((cntTo xs i (k + 1) : Nat) : Int) = .int .i64 ((cntTo xs i k : Int))) := by show _ = _; simp only [cntTo]; rw [HS.out]; simp
          clear HS
          refine wp_region_after (by kernel_rfl) (by kernel_rfl) ?_
          repeat (go_big_quiet_step (fail))
          refine wpQuiet_nil ?_
          intro nq
          have hb9 := btr hb nq.bel
          go_wp2
          go_roundw
          case rel => exact ⟨k + 1, by omega, by go_num, HN.out.symm, hb9⟩
          case measure => simp [intOf]; omega
      · have hki : k = i + 1 := by omega
        subst hki
        have hltI : ¬ (((i + 1 : Nat) : Int) < (i : Int) + 1) := by omega
        have hltI2 : ¬ (((i + 1 : Nat) : Int) ≤ (i : Int)) := by omega
        generalize numB (cntTo xs i (i + 1) : Nat) = D at *
        generalize ((cntTo xs i (i + 1) : Nat) : Int) = cn at *
        by_cases hu : upAt xs i < 0
        · have HT : Hid (secB xs (f + 1) i = D) := HSB.out.trans (if_pos hu)
          clear HSB HI
          go_wp2_with (go_at_call 23; refine (HD.out _).mono ?_; rintro e w2 ⟨rfl, hb2⟩)
          go_ret
          exact ⟨by rw [HT.out]; rfl, btr hb hb2⟩
        · have HT : Hid (secB xs (f + 1) i = secB xs f (upAt xs i).toNat ++ ⟨#[46]⟩ ++ D) := HSB.out.trans (if_neg hu)
          have hu0 : 0 ≤ upAt xs i := by omega
          generalize secB xs f (upAt xs i).toNat = S at *
          have hr1 : ∀ w, (Op.stringOp .add S ⟨#[46]⟩).run Tryd.prog w = .ok (.string (S ++ ⟨#[46]⟩)) w := fun w => run_string_add w _ _ (by omega) (by show ((1 : Nat) : Int) ≤ 8388608; omega)
          have hss : (S ++ (⟨#[46]⟩ : ByteArray)).size = S.size + 1 := by rw [ByteArray.size_append]; rfl
          have hr2 : ∀ w, (Op.stringOp .add (S ++ ⟨#[46]⟩) D).run Tryd.prog w = .ok (.string ((S ++ ⟨#[46]⟩) ++ D)) w := fun w => run_string_add w _ _ (by omega) (by omega)
          clear HSB hDs hf13 hss
          go_wp2_with (first | (go_at_call 14; refine (HI.out _ hu0 hb).mono ?_; rintro e w2 ⟨rfl, hb2⟩) | (go_at_call 23; refine (HD.out _).mono ?_; rintro e w3 ⟨rfl, hb3⟩))
          go_ret
          exact ⟨by rw [HT.out]; rfl, btr hb (btr hb2 hb3)⟩
set_option maxHeartbeats 4000000 in
set_option maxRecDepth 100000 in
theorem l6Number_any (A : Option Addr) (c : Nat) (xs : List Sec) (hn : xs.length ≤ 12) : ∀ (f i : Nat) (w : World), i < f → f ≤ 20 → i < xs.length → Rd w A (secCells xs) →
    Calls Tryd.prog 11 #[.slice A xs.length c, .int .i64 i] w fun e w' => e = .returned (.string (secB xs f i)) ∧ Below w.heap.size w w'
  | 0, i, w, hf, _, _, _ => absurd hf (by omega)
  | f + 1, i, w, hf, hf2, hi, hx => by
    have hur := upAt_range hi
    have HU : Hid (∀ (w1 : World) (k : Nat), k < xs.length → Below w.heap.size w w1 → Calls Tryd.prog 18 #[.slice A xs.length c, .int .i64 k] w1 fun e w' => e = .returned (.int .i64 (upAt xs k)) ∧ Below w1.heap.size w1 w') := fun w1 k hk hb => l6Up_any A c xs k w1 (by omega) hk (hx.below hb)
    have hcl := cntTo_le xs i (i + 1)
    have HI : Hid (∀ (w1 : World), 0 ≤ upAt xs i → Below w.heap.size w w1 → Calls Tryd.prog 11 #[.slice A xs.length c, .int .i64 (upAt xs i)] w1 fun e w' => e = .returned (.string (secB xs f (upAt xs i).toNat)) ∧ Below w1.heap.size w1 w') := fun w1 h0 hb => by
      have := l6Number_any A c xs hn f (upAt xs i).toNat w1 (by omega) (by omega) (by omega) (hx.below hb)
      rwa [Int.toNat_of_nonneg h0] at this
    have HD : Hid (∀ w1, Calls Tryd.prog 19 #[.int .i64 (cntTo xs i (i + 1) : Nat)] w1 fun e w' => e = .returned (.string (numB (cntTo xs i (i + 1) : Nat))) ∧ Below w1.heap.size w1 w') := fun w1 => (num_any _ (by omega) w1).mono fun e w2 h => ⟨by rw [h.1, numB, Lib.itoa_nonneg], h.2⟩
    have hDs := numB_size (n := cntTo xs i (i + 1)) (by omega)
    have HSB : Hid (secB xs (f + 1) i = if upAt xs i < 0 then numB (cntTo xs i (i + 1)) else secB xs f (upAt xs i).toNat ++ ⟨#[46]⟩ ++ numB (cntTo xs i (i + 1))) := rfl
    have hf13 : (secB xs f (upAt xs i).toNat).size ≤ 21 * 20 := by
      have h1 := secB_size xs hn f (upAt xs i).toNat (by omega)
      omega
    have HDI := Lib.hid (dAt_eq hi)
    obtain ⟨b, off, rfl, c1, -⟩ := Rd.sec hx hi
    go_enter Tryd.func11, Tryd.ntmps11
    go_wp2_with fail
    refine (HU.out _ i hi (Below.refl _ _)).mono ?_
    rintro e w1 ⟨rfl, hb1⟩
    go_wp2_with fail
    go_loopw [6, 7] (fun n k wr => ∃ k' : Nat, k' ≤ i + 1 ∧ k = .int .i64 k' ∧ n = .int .i64 (cntTo xs i k' : Nat) ∧ Below w.heap.size w wr) (fun _ k _ => (i + 1) - (intOf k).toNat)
    case atStart => exact ⟨0, by omega, rfl, rfl, hb1⟩
    case round =>
      obtain ⟨k, hk, rfl, rfl, hb⟩ := hrel
      have hck := cntTo_le xs i k
      have hk13 : (k : Int) ≤ 12 := by omega
      have hi12 : (i : Int) ≤ 11 := by omega
      by_cases hlt : k < i + 1
      · have hkl : k < xs.length := by omega
        have hkI : (k : Int) < (xs.length : Int) := by omega
        have hiI : (i : Int) < (xs.length : Int) := by omega
        have hltI : (k : Int) < (i : Int) + 1 := by omega
        have hltI2 : (k : Int) ≤ (i : Int) := by omega
        obtain ⟨b', off', e', k1, -⟩ := Rd.sec (hx.below hb) hkl
        have k2 : b' = b ∧ off' = off := by simpa using e'.symm
        obtain ⟨rfl, rfl⟩ := k2
        clear e'
        have g1 := cell_after k1
        have g0 := cell_after ((hb.cell (World.block_lt_of_cell? w _ c1)).trans c1)
        have HDK := Lib.hid (dAt_eq hkl)
        clear k1
        by_cases h1 : xs[k].d = xs[i].d
        · have h1b : (xs[k].d == xs[i].d) = true := by simpa using h1
          by_cases h2 : upAt xs k = upAt xs i
          · have h2b : (upAt xs k == upAt xs i) = true := by simpa using h2
            have HS : Hid (sib xs i k = true) := by show _ = _; unfold sib; rw [HDK.out, HDI.out, h1b, h2b]; rfl
            clear HDK h1 h2
            go_wp2_with fail
            have HN : Hid (Value.int .i64 ((cntTo xs i (k + 1) : Nat) : Int) = .int .i64 ((cntTo xs i k : Int) + 1)) := by show _ = _; simp only [cntTo]; rw [HS.out]; simp
            clear HS
            refine wp_region_after (by kernel_rfl) (by kernel_rfl) ?_
            repeat (go_big_quiet_step ((go_at_call 18; exact Calls.after (HU.out _ k hkl (btr hb (After.bel _))))))
            refine wpQuiet_nil ?_
            intro nq
            have hb9 := btr hb nq.bel
            go_wp2
            go_roundw
            case rel => exact ⟨k + 1, by omega, by go_num, HN.out.symm, hb9⟩
            case measure => simp [intOf]; omega
          · have h2b : (upAt xs k == upAt xs i) = false := by simpa using h2
            have HS : Hid (sib xs i k = false) := by show _ = _; unfold sib; rw [HDK.out, HDI.out, h1b, h2b]; rfl
            clear HDK h1 h2
            go_wp2_with fail
            have HN : Hid (Value.int .i64 ((cntTo xs i (k + 1) : Nat) : Int) = .int .i64 ((cntTo xs i k : Int))) := by show _ = _; simp only [cntTo]; rw [HS.out]; simp
            clear HS
            refine wp_region_after (by kernel_rfl) (by kernel_rfl) ?_
            repeat (go_big_quiet_step ((go_at_call 18; exact Calls.after (HU.out _ k hkl (btr hb (After.bel _))))))
            refine wpQuiet_nil ?_
            intro nq
            have hb9 := btr hb nq.bel
            go_wp2
            go_roundw
            case rel => exact ⟨k + 1, by omega, by go_num, HN.out.symm, hb9⟩
            case measure => simp [intOf]; omega
        · have h1b : (xs[k].d == xs[i].d) = false := by simpa using h1
          have HS : Hid (sib xs i k = false) := by show _ = _; unfold sib; rw [HDK.out, HDI.out, h1b]; rfl
          clear HDK h1
          go_wp2_with fail
          have HN : Hid (Value.int .i64 ((cntTo xs i (k + 1) : Nat) : Int) = .int .i64 ((cntTo xs i k : Int))) := by show _ = _; simp only [cntTo]; rw [HS.out]; simp
          clear HS
          refine wp_region_after (by kernel_rfl) (by kernel_rfl) ?_
          repeat (go_big_quiet_step (fail))
          refine wpQuiet_nil ?_
          intro nq
          have hb9 := btr hb nq.bel
          go_wp2
          go_roundw
          case rel => exact ⟨k + 1, by omega, by go_num, HN.out.symm, hb9⟩
          case measure => simp [intOf]; omega
      · have hki : k = i + 1 := by omega
        subst hki
        have hltI : ¬ (((i + 1 : Nat) : Int) < (i : Int) + 1) := by omega
        have hltI2 : ¬ (((i + 1 : Nat) : Int) ≤ (i : Int)) := by omega
        generalize numB (cntTo xs i (i + 1) : Nat) = D at *
        generalize ((cntTo xs i (i + 1) : Nat) : Int) = cn at *
        by_cases hu : upAt xs i < 0
        · have HT : Hid (secB xs (f + 1) i = D) := HSB.out.trans (if_pos hu)
          clear HSB HI
          go_wp2_with (go_at_call 19; refine (HD.out _).mono ?_; rintro e w2 ⟨rfl, hb2⟩)
          go_ret
          exact ⟨by rw [HT.out]; rfl, btr hb hb2⟩
        · have HT : Hid (secB xs (f + 1) i = secB xs f (upAt xs i).toNat ++ ⟨#[46]⟩ ++ D) := HSB.out.trans (if_neg hu)
          have hu0 : 0 ≤ upAt xs i := by omega
          generalize secB xs f (upAt xs i).toNat = S at *
          have hr1 : ∀ w, (Op.stringOp .add S ⟨#[46]⟩).run Tryd.prog w = .ok (.string (S ++ ⟨#[46]⟩)) w := fun w => run_string_add w _ _ (by omega) (by show ((1 : Nat) : Int) ≤ 8388608; omega)
          have hss : (S ++ (⟨#[46]⟩ : ByteArray)).size = S.size + 1 := by rw [ByteArray.size_append]; rfl
          have hr2 : ∀ w, (Op.stringOp .add (S ++ ⟨#[46]⟩) D).run Tryd.prog w = .ok (.string ((S ++ ⟨#[46]⟩) ++ D)) w := fun w => run_string_add w _ _ (by omega) (by omega)
          clear HSB hDs hf13 hss
          go_wp2_with (first | (go_at_call 11; refine (HI.out _ hu0 hb).mono ?_; rintro e w2 ⟨rfl, hb2⟩) | (go_at_call 19; refine (HD.out _).mono ?_; rintro e w3 ⟨rfl, hb3⟩))
          go_ret
          exact ⟨by rw [HT.out]; rfl, btr hb (btr hb2 hb3)⟩
set_option maxHeartbeats 400000 in
theorem implSec_any (A : Option Addr) (c : Nat) (xs : List Sec) (i : Int) (w : World) (hn : xs.length ≤ maxLen) (hx : Rd w A (secCells xs)) (hs : ∀ s ∈ xs, s.t.size ≤ maxLen) :
    Calls Tryd.prog 7 #[.slice A xs.length c, .int .i64 i] w fun e w' => e = .returned (.tuple #[.string (secR xs i).1, .bool (secR xs i).2]) ∧ Below w.heap.size w w' := by
  have Hc := Lib.hid (hasSection_any A c xs i w hn hx hs)
  by_cases hg : okAt xs i = true
  · obtain ⟨k, rfl, hk, h12⟩ := okAt_idx hg
    have HT : Hid (secR xs k = (secB xs (k + 1) k, true)) := by show _ = _; simp [secR, hg]
    have Hp : Hid (∀ w1, Rd w1 A (secCells xs) → Calls Tryd.prog 14 #[.slice A xs.length c, .int .i64 k] w1 fun e w' => e = .returned (.string (secB xs (k + 1) k)) ∧ Below w1.heap.size w1 w') := fun w1 h1 => secN_any A c xs h12 (k + 1) k w1 (by omega) (by omega) hk h1
    generalize secB xs (k + 1) k = S at *
    clear hs hn
    go_enter Tryd.func7, Tryd.ntmps7
    go_wp2_with (first | (go_at_call 13; refine Hc.out.mono ?_; rintro e w1 ⟨rfl, hb1⟩) | (go_at_call 14; refine (Hp.out _ (hx.below hb1)).mono ?_; rintro e w2 ⟨rfl, hb2⟩))
    go_ret2
    exact ⟨by rw [HT.out]; rfl, btr hb1 hb2⟩
  · have hg' : okAt xs i = false := by simpa using hg
    have HT : Hid (secR xs i = (⟨#[]⟩, false)) := by show _ = _; simp [secR, hg']
    clear hs hn hx
    go_enter Tryd.func7, Tryd.ntmps7
    go_wp2_with (first | (go_at_call 13; refine Hc.out.mono ?_; rintro e w1 ⟨rfl, hb1⟩))
    go_ret2
    exact ⟨by rw [HT.out]; rfl, hb1⟩
set_option maxHeartbeats 400000 in
theorem specSec_any (A : Option Addr) (c : Nat) (xs : List Sec) (i : Int) (w : World) (hn : xs.length ≤ maxLen) (hx : Rd w A (secCells xs)) (hs : ∀ s ∈ xs, s.t.size ≤ maxLen) :
    Calls Tryd.prog 5 #[.slice A xs.length c, .int .i64 i] w fun e w' => e = .returned (.tuple #[.string (secR xs i).1, .bool (secR xs i).2]) ∧ Below w.heap.size w w' := by
  have Hc := Lib.hid (l6Asked_any A c xs i w hn hx hs)
  by_cases hg : okAt xs i = true
  · obtain ⟨k, rfl, hk, h12⟩ := okAt_idx hg
    have HT : Hid (secR xs k = (secB xs (k + 1) k, true)) := by show _ = _; simp [secR, hg]
    have Hp : Hid (∀ w1, Rd w1 A (secCells xs) → Calls Tryd.prog 11 #[.slice A xs.length c, .int .i64 k] w1 fun e w' => e = .returned (.string (secB xs (k + 1) k)) ∧ Below w1.heap.size w1 w') := fun w1 h1 => l6Number_any A c xs h12 (k + 1) k w1 (by omega) (by omega) hk h1
    generalize secB xs (k + 1) k = S at *
    clear hs hn
    go_enter Tryd.func5, Tryd.ntmps5
    go_wp2_with (first | (go_at_call 10; refine Hc.out.mono ?_; rintro e w1 ⟨rfl, hb1⟩) | (go_at_call 11; refine (Hp.out _ (hx.below hb1)).mono ?_; rintro e w2 ⟨rfl, hb2⟩))
    go_ret2
    exact ⟨by rw [HT.out]; rfl, btr hb1 hb2⟩
  · have hg' : okAt xs i = false := by simpa using hg
    have HT : Hid (secR xs i = (⟨#[]⟩, false)) := by show _ = _; simp [secR, hg']
    clear hs hn hx
    go_enter Tryd.func5, Tryd.ntmps5
    go_wp2_with (first | (go_at_call 10; refine Hc.out.mono ?_; rintro e w1 ⟨rfl, hb1⟩))
    go_ret2
    exact ⟨by rw [HT.out]; rfl, hb1⟩
end Go.Proofs.YteeelkiapccdoaaDoor

