/-
  l1Num and strconv.Itoa: the decimal text of a number. Conditions: between -999999 and 999999.
-/
import Derived.Test.YtfpjelpbeicdoaaGreatDoorBase
import Derived.Test.YtfpjelpbeicdoaaGreatDoorShelf
namespace Go.My
open Go.RowKit
def digs : ByteArray := ⟨#[48, 49, 50, 51, 52, 53, 54, 55, 56, 57]⟩
theorem digs_at : ∀ n, n < 10 → digs.extract n (n + 1) = ⟨#[UInt8.ofNat (48 + n)]⟩ := by decide
theorem dec_small {n : Nat} (h : n < 10) : Lib.decDigits n = [UInt8.ofNat (48 + n)] := by rw [Lib.decDigits]; rw [dif_pos h]
theorem dec_big {n : Nat} (h : ¬ n < 10) : Lib.decDigits n = Lib.decDigits (n / 10) ++ [UInt8.ofNat (48 + n % 10)] := by rw [Lib.decDigits]; rw [dif_neg h]
theorem dec_len (n : Nat) (h : n ≤ 999999) : (⟨(Lib.decDigits n).toArray⟩ : ByteArray).size ≤ 20 := by
  have key : ∀ k n, n < 10 ^ k → (Lib.decDigits n).length ≤ k + 1 := by
    intro k
    induction k with
    | zero => intro n hn; rw [dec_small (by omega)]; simp
    | succ k ih =>
      intro n hn
      by_cases h10 : n < 10
      · rw [dec_small h10]; simp
      · rw [dec_big h10, List.length_append]
        have := ih (n / 10) (by rw [Nat.pow_succ] at hn; omega)
        simp; omega
  have := key 6 n (by omega)
  show (Lib.decDigits n).toArray.size ≤ 20
  simp; omega
end Go.My
namespace Go.Proofs.YtfpjelpbeicdoaaGreatDoor
open Go.RowKit Go.My
set_option maxRecDepth 100000 in
theorem num_any (n : Nat) (hn : n ≤ 999999) (w : World) : Calls Tryz.prog 68 #[.int .i64 n] w fun e w' => e = .returned (.string ⟨(Lib.decDigits n).toArray⟩) ∧ Below w.heap.size w w' := by
  induction n using Nat.strongRecOn generalizing w with
  | ind n ih =>
    have h0 : ¬ (n : Int) < 0 := by omega
    by_cases h10 : n < 10
    · have h10I : (n : Int) < 10 := by omega
      have hw : IntKind.i64.wrap ((n : Int) + 1) = (n : Int) + 1 := by rw [IntKind.wrap_i64]; omega
      have HT := Lib.hid (dec_small h10)
      have HE := Lib.hid (digs_at n h10)
      clear ih
      go_enter Tryz.func68, Tryz.ntmps68
      go_wp2
      go_ret
      exact ⟨by rw [HT.out]; exact congrArg (fun b => Ending.returned (.string b)) HE.out, Below.refl _ _⟩
    · have h10I : ¬ (n : Int) < 10 := by omega
      obtain ⟨r, hr, hr10, hrn⟩ : ∃ r : Nat, (n : Int) % 10 = (r : Int) ∧ r < 10 ∧ n % 10 = r := ⟨n % 10, by omega, by omega, rfl⟩
      obtain ⟨q, hq, hqn, hql⟩ : ∃ q : Nat, (n : Int) / 10 = (q : Int) ∧ n / 10 = q ∧ q < n := ⟨n / 10, by omega, rfl, by omega⟩
      have HT : Hid (Lib.decDigits n = Lib.decDigits q ++ [UInt8.ofNat (48 + r)]) := by show _ = _; rw [dec_big h10, hqn, hrn]
      have HE := Lib.hid (digs_at r hr10)
      have HI0 := fun w => ih q hql (by omega) w
      have hDs : (⟨(Lib.decDigits q).toArray⟩ : ByteArray).size ≤ 20 := dec_len q (by omega)
      obtain ⟨D, hD⟩ : ∃ D : ByteArray, D = ⟨(Lib.decDigits q).toArray⟩ := ⟨_, rfl⟩
      simp only [← hD] at HI0 hDs
      have HI := Lib.hid HI0
      have HD := Lib.hid hD
      have hrun : ∀ w, (Op.stringOp .add D (ByteArray.extract ⟨#[48, 49, 50, 51, 52, 53, 54, 55, 56, 57]⟩ r (r + 1))).run Tryz.prog w = .ok (.string (D ++ ByteArray.extract ⟨#[48, 49, 50, 51, 52, 53, 54, 55, 56, 57]⟩ r (r + 1))) w := fun w => run_string_add w _ _ (by omega) (by
        show (((digs.extract r (r + 1)).size : Nat) : Int) ≤ 8388608
        rw [digs_at r hr10]; show ((1 : Nat) : Int) ≤ 8388608; omega)
      clear HI0 hD hDs
      have hw1 : IntKind.i64.wrap (q : Int) = (q : Int) := by rw [IntKind.wrap_i64]; omega
      have hw2 : IntKind.i64.wrap (r : Int) = (r : Int) := by rw [IntKind.wrap_i64]; omega
      have hw3 : IntKind.i64.wrap ((r : Int) + 1) = (r : Int) + 1 := by rw [IntKind.wrap_i64]; omega
      have hw4 : wrap64 (q : Int) = (q : Int) := by unfold wrap64; omega
      have hw5 : wrap64 (r : Int) = (r : Int) := by unfold wrap64; omega
      have hw6 : wrap64 ((r : Int) + 1) = (r : Int) + 1 := by unfold wrap64; omega
      have hqt : (n : Int).tdiv 10 = (q : Int) := by rw [Int.tdiv_eq_ediv_of_nonneg (by omega)]; exact hq
      have hrt : (n : Int).tmod 10 = (r : Int) := by rw [Int.tmod_eq_emod_of_nonneg (by omega)]; exact hr
      have hrI : (r : Int) + 1 ≤ 10 := by omega
      clear ih hrn hqn
      go_enter Tryz.func68, Tryz.ntmps68
      go_wp2_with fail
      refine wp_region_after (by kernel_rfl) (by kernel_rfl) ?_
      repeat (go_big_quiet_step ((go_at_call 68; exact Calls.after (HI.out _))))
      refine wpQuiet_nil ?_
      intro nq
      have hbx := nq.bel
      generalize nq.val = w1 at *
      go_wp2_with fail
      go_ret
      refine ⟨?_, hbx⟩
      rw [HT.out]
      have e : D ++ ByteArray.extract ⟨#[48, 49, 50, 51, 52, 53, 54, 55, 56, 57]⟩ r (r + 1) = ⟨(Lib.decDigits q ++ [UInt8.ofNat (48 + r)]).toArray⟩ := by
        rw [show ByteArray.extract ⟨#[48, 49, 50, 51, 52, 53, 54, 55, 56, 57]⟩ r (r + 1) = ⟨[UInt8.ofNat (48 + r)].toArray⟩ from HE.out, HD.out]
        exact ByteArray.mk_append_mk _ _
      exact congrArg (fun b => Ending.returned (.string b)) e
set_option maxRecDepth 100000 in
theorem numI_any (n : Int) (h0 : -999999 ≤ n) (h1 : n ≤ 999999) (w : World) : Calls Tryz.prog 68 #[.int .i64 n] w fun e w' => e = .returned (.string ⟨(Lib.itoa n).toArray⟩) ∧ Below w.heap.size w w' := by
  by_cases hn : n < 0
  · obtain ⟨k, hk⟩ : ∃ k : Nat, -n = (k : Int) := ⟨(-n).toNat, by omega⟩
    have hkw : IntKind.i64.wrap (-n) = (k : Int) := by rw [IntKind.wrap_i64]; omega
    have hkw2 : IntKind.i64.wrap (k : Int) = (k : Int) := by rw [IntKind.wrap_i64]; omega
    have H0 := num_any k (by omega) w
    have hDs : (⟨(Lib.decDigits k).toArray⟩ : ByteArray).size ≤ 20 := dec_len k (by omega)
    have HT : Hid (Lib.itoa n = 45 :: Lib.decDigits k) := by show _ = _; unfold Lib.itoa; rw [if_pos hn, show n.natAbs = k by omega]
    obtain ⟨D, hD⟩ : ∃ D : ByteArray, D = ⟨(Lib.decDigits k).toArray⟩ := ⟨_, rfl⟩
    simp only [← hD] at H0 hDs
    have HI := Lib.hid H0
    have HD := Lib.hid hD
    have hrun : ∀ w, (Op.stringOp .add ⟨#[45]⟩ D).run Tryz.prog w = .ok (.string (⟨#[45]⟩ ++ D)) w := fun w => run_string_add w _ _ (by show ((1 : Nat) : Int) ≤ 8388608; omega) (by omega)
    clear H0 hD hDs
    go_enter Tryz.func68, Tryz.ntmps68
    go_wp2_with (go_at_call 68; refine HI.out.mono ?_; rintro e w9 ⟨rfl, hb9⟩)
    go_ret
    refine ⟨?_, hb9⟩
    rw [HT.out]
    have e : (⟨#[45]⟩ : ByteArray) ++ D = ⟨(45 :: Lib.decDigits k).toArray⟩ := by
      rw [HD.out]
      exact ByteArray.mk_append_mk [45] (Lib.decDigits k)
    exact congrArg (fun b => Ending.returned (.string b)) e
  · obtain ⟨k, rfl⟩ : ∃ k : Nat, n = (k : Int) := ⟨n.toNat, by omega⟩
    have := num_any k (by omega) w
    rw [show Lib.itoa (k : Int) = Lib.decDigits k by unfold Lib.itoa; rw [if_neg hn]; rfl]
    exact this
end Go.Proofs.YtfpjelpbeicdoaaGreatDoor

