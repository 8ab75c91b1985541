/-
  Functions on lists of ints: whether one rises within bounds, whether it holds a number. Conditions: lengths within Go's range.
-/
import Derived.Test.YtidmdppcamgaoaaIntS
import Derived.Test.YtidmdppcamgaoaaIdxMem
namespace Go.My
open Go.RowKit
def risP (lo hi : Int) (pre : List Int) (x : Int) : Bool := inB x lo hi && lastLt (fun y : Int => y) pre x
def risB (lo hi : Int) (xs : List Int) : Bool := goodPre (risP lo hi) [] xs
end Go.My
namespace Go.Proofs.Ytidmdppcamgaoaa
open Go.RowKit Go.My
set_option maxHeartbeats 400000 in
theorem l1Has_any (A : Option Addr) (c : Nat) (xs : List Int) (i : Int) (w : World) (hn : xs.length ≤ maxLen) (hx : Rd w A (intCells xs)) :
    Calls Try.prog 49 #[.slice A xs.length c, .int .i64 i] w fun e w' => e = .returned (.bool (xs.any fun y => y == i)) ∧ w = w' := by
  unfold maxLen at hn
  have HT : Hid ((xs.take 0).any (fun y : Int => y == i) = false) := rfl
  go_enter Try.func49, Try.ntmps49
  go_wp2
  go_loop [5] (fun q => ∃ k : Nat, k ≤ xs.length ∧ q = .int .i64 k ∧ Hid ((xs.take k).any (fun y : Int => y == i) = false)) (fun q => xs.length - (intOf q).toNat)
  case atStart => exact ⟨0, by omega, rfl, HT⟩
  case round =>
    obtain ⟨k, hk, rfl, H⟩ := hrel
    by_cases hlt : k < xs.length
    · obtain ⟨b, off, rfl, c0⟩ := Rd.ints hx hlt
      have Hn := Lib.hid (any_take_succ (fun y : Int => y == i) xs k hlt)
      generalize xs[k] = s at *
      by_cases hq : (s == i) = true
      · have Hf : Hid (xs.any (fun y : Int => y == i) = true) := by
          have := any_take_mono (p := fun y : Int => y == i) (xs := xs) (show k + 1 ≤ xs.length by omega) (by rw [Hn.out, hq]; simp)
          rwa [List.take_length] at this
        clear Hn H HT
        go_wp2
        go_ret
        exact ⟨by rw [Hf.out]; rfl, rfl⟩
      · have hq' : (s == i) = false := by simpa using hq
        have Hf : Hid ((xs.take (k + 1)).any (fun y : Int => y == i) = false) := Hn.out.trans (by rw [H.out, hq']; rfl)
        clear Hn H hq HT
        go_wp2
        go_round
        case rel => exact ⟨k + 1, by omega, by go_num, Hf⟩
        case measure => simp [intOf]; omega
    · have Hf : Hid (xs.any (fun y : Int => y == i) = false) := by have := H.out; rwa [List.take_of_length_le (by omega)] at this
      clear H HT
      go_wp2
      go_ret
      exact ⟨by rw [Hf.out]; rfl, rfl⟩
set_option maxHeartbeats 400000 in
theorem indexInt_any (A : Option Addr) (c : Nat) (xs : List Int) (i : Int) (w : World) (hn : xs.length ≤ maxLen) (hx : Rd w A (intCells xs)) :
    Calls Try.prog 76 #[.slice A xs.length c, .int .i64 i] w fun e w' => e = .returned (.int .i64 (idxOf (fun y : Int => y == i) xs)) ∧ Below w.heap.size w w' := by
  unfold maxLen at hn
  go_enter Try.func76, Try.ntmps76
  go_wp2
  go_loopw [8] (fun q wr => ∃ k : Nat, k ≤ xs.length ∧ q = .int .i64 k ∧ Hid (idxOf (fun y : Int => y == i) xs = idxFrom (fun y : Int => y == i) k (xs.drop k)) ∧ Below w.heap.size w wr) (fun q _ => xs.length - (intOf q).toNat)
  case atStart => exact ⟨0, by omega, rfl, rfl, Below.refl _ _⟩
  case round =>
    obtain ⟨k, hk, rfl, H, hb⟩ := hrel
    by_cases hlt : k < xs.length
    · obtain ⟨b, off, rfl, c0⟩ := Rd.ints (hx.below hb) hlt
      have Hn := Lib.hid (H.out.trans (idxFrom_at hlt))
      clear H
      have gx := cell_after c0
      have hkI : (k : Int) < (xs.length : Int) := by omega
      generalize xs[k] = s at *
      by_cases hq : (s == i) = true
      · have Hf := Lib.hid (Hn.out.trans (if_pos hq))
        have h9 : s = i := by simpa using hq
        have hq2 : (i == s) = true := by simp [h9]
        clear h9
        clear Hn
        go_wp2
        go_ret
        exact ⟨by rw [Hf.out]; rfl, hb⟩
      · have Hf := Lib.hid (Hn.out.trans (if_neg hq))
        have hq' : (s == i) = false := by simpa using hq
        have h9 : ¬ s = i := by simpa using hq
        have hq2 : (i == s) = false := by simp; omega
        clear h9
        clear Hn hq
        go_wp2
        go_roundw
        case rel => exact ⟨k + 1, by omega, by go_num, Hf, hb⟩
        case measure => simp [intOf]; omega
    · have Hf := Lib.hid (H.out.trans (by rw [List.drop_eq_nil_of_le (by omega)]))
      clear H
      go_wp2
      go_ret
      exact ⟨by rw [Hf.out]; rfl, hb⟩
set_option maxHeartbeats 400000 in
theorem containsInt_any (A : Option Addr) (c : Nat) (xs : List Int) (i : Int) (w : World) (hn : xs.length ≤ maxLen) (hx : Rd w A (intCells xs)) :
    Calls Try.prog 51 #[.slice A xs.length c, .int .i64 i] w fun e w' => e = .returned (.bool (xs.any fun y => y == i)) ∧ Below w.heap.size w w' := by
  have hc := Lib.hid (indexInt_any A c xs i w hn hx)
  have HE := Lib.hid (idxOf_any (fun y : Int => y == i) xs)
  clear hn hx
  generalize idxOf (fun y : Int => y == i) xs = v at *
  generalize (xs.any fun y : Int => y == i) = u at *
  go_enter Try.func51, Try.ntmps51
  go_wp2_with fail
  refine hc.out.mono ?_
  rintro e w1 ⟨rfl, hb1⟩
  go_wp2
  go_ret
  exact ⟨by rw [← HE.out]; rfl, hb1⟩
set_option maxHeartbeats 1000000 in
theorem l1Rising_any (A : Option Addr) (c : Nat) (xs : List Int) (lo hi : Int) (w : World) (hn : xs.length ≤ maxLen) (hx : Rd w A (intCells xs)) :
    Calls Try.prog 72 #[.slice A xs.length c, .int .i64 lo, .int .i64 hi] w fun e w' => e = .returned (.bool (risB lo hi xs)) ∧ Below w.heap.size w w' := by
  unfold maxLen at hn
  unfold risB
  go_enter Try.func72, Try.ntmps72
  go_wp2
  go_loopw [7] (fun q wr => ∃ k : Nat, k ≤ xs.length ∧ q = .int .i64 k ∧ Hid (goodPre (risP lo hi) [] xs = goodPre (risP lo hi) (xs.take k) (xs.drop k)) ∧ Below w.heap.size w wr) (fun q _ => xs.length - (intOf q).toNat)
  case atStart => exact ⟨0, by omega, rfl, rfl, Below.refl _ _⟩
  case round =>
    obtain ⟨k, hk, rfl, H, hb⟩ := hrel
    by_cases hlt : k < xs.length
    · obtain ⟨b, off, rfl, c0⟩ := Rd.ints (hx.below hb) hlt
      have Hn := Lib.hid (H.out.trans (goodPre_at hlt))
      clear H
      have hkI : (k : Int) < (xs.length : Int) := by omega
      have gx := cell_after c0
      obtain ⟨s, hse⟩ : ∃ s, s = xs[k] := ⟨_, rfl⟩
      rw [← hse] at Hn c0 gx
      have HT : Hid (risP lo hi (xs.take k) s = (inB s lo hi && lastLt (fun y : Int => y) (xs.take k) s)) := rfl
      clear hse
      by_cases h1 : inB s lo hi = true
      · by_cases hk0 : k = 0
        · have Hr : Hid (goodPre (risP lo hi) [] xs = goodPre (risP lo hi) (xs.take (k + 1)) (xs.drop (k + 1))) := Hn.out.trans (by rw [HT.out, h1, hk0, lastLt_zero]; simp)
          have hd1 : decide ((0 : Int) < (k : Int)) = false := by simp; omega
          have hd2 : decide (0 < k) = false := by simp; omega
          have hk0N : ¬ 0 < k := by omega
          have hk0I : ¬ (0 : Int) < (k : Int) := by omega
          clear Hn HT hk0
          go_wp2_with fail
          refine wp_region_after (by kernel_rfl) (by kernel_rfl) ?_
          repeat (go_big_quiet_step ((go_at_call 68; exact Calls.after_same (l1In_any _ _ _ _))))
          refine wpQuiet_nil ?_
          intro nq
          go_wp2
          go_roundw
          case rel => exact ⟨k + 1, by omega, by go_num, Hr, btr hb nq.bel⟩
          case measure => simp [intOf]; omega
        · obtain ⟨k1, hke⟩ : ∃ k1, k = k1 + 1 := ⟨k - 1, by omega⟩
          obtain ⟨b1, off1, e1, p0⟩ := Rd.ints (hx.below hb) (show k1 < xs.length by omega)
          have k9 : b1 = b ∧ off1 = off := by simpa using e1.symm
          obtain ⟨rfl, rfl⟩ := k9
          clear e1
          have HL : Hid (lastLt (fun y : Int => y) (xs.take k) s = decide (xs[k1] < s)) := by
            show _ = _
            subst hke
            exact lastLt_succ _ _ _ _ _
          generalize xs[k1] = pv at *
          have gp := cell_after p0
          have hk1 : (k : Int) - 1 = (k1 : Int) := by omega
          have hk1I : (k1 : Int) < (xs.length : Int) := by omega
          have hk0I : (0 : Int) < (k : Int) := by omega
          have hk0N : 0 < k := by omega
          have hd1 : decide ((0 : Int) < (k : Int)) = true := by simp; omega
          have hd2 : decide (0 < k) = true := by simp; omega
          clear hke
          by_cases hp : pv < s
          · have hp1 : ¬ s ≤ pv := by omega
            have hp2 : decide (s ≤ pv) = false := by simp; omega
            have Hr : Hid (goodPre (risP lo hi) [] xs = goodPre (risP lo hi) (xs.take (k + 1)) (xs.drop (k + 1))) := Hn.out.trans (by rw [HT.out, h1, HL.out]; simp [hp])
            clear Hn HT HL hk0
            go_wp2_with fail
            refine wp_region_after (by kernel_rfl) (by kernel_rfl) ?_
            repeat (go_big_quiet_step ((go_at_call 68; exact Calls.after_same (l1In_any _ _ _ _))))
            refine wpQuiet_nil ?_
            intro nq
            go_wp2
            go_roundw
            case rel => exact ⟨k + 1, by omega, by go_num, Hr, btr hb nq.bel⟩
            case measure => simp [intOf]; omega
          · have hp1 : s ≤ pv := by omega
            have hp2 : decide (s ≤ pv) = true := by simp; omega
            have Hr : Hid (goodPre (risP lo hi) [] xs = false) := Hn.out.trans (by rw [HT.out, HL.out]; simp [hp])
            clear Hn HT HL hk0
            go_wp2_with fail
            refine wp_region_after (by kernel_rfl) (by kernel_rfl) ?_
            repeat (go_big_quiet_step ((go_at_call 68; exact Calls.after_same (l1In_any _ _ _ _))))
            refine wpQuiet_nil ?_
            intro nq
            go_wp2
            go_ret
            exact ⟨by rw [Hr.out]; rfl, btr hb nq.bel⟩
      · have h1' : inB s lo hi = false := by simpa using h1
        have Hr : Hid (goodPre (risP lo hi) [] xs = false) := Hn.out.trans (by rw [HT.out, h1']; rfl)
        clear Hn HT h1
        go_wp2_with fail
        refine wp_region_after (by kernel_rfl) (by kernel_rfl) ?_
        repeat (go_big_quiet_step ((go_at_call 68; exact Calls.after_same (l1In_any _ _ _ _))))
        refine wpQuiet_nil ?_
        intro nq
        go_wp2
        go_ret
        exact ⟨by rw [Hr.out]; rfl, btr hb nq.bel⟩
    · have Hr : Hid (goodPre (risP lo hi) [] xs = true) := H.out.trans (by rw [List.drop_eq_nil_of_le (by omega)]; rfl)
      clear H
      go_wp2
      go_ret
      exact ⟨by rw [Hr.out]; rfl, hb⟩
set_option maxHeartbeats 1000000 in
theorem ascending_any (A : Option Addr) (c : Nat) (xs : List Int) (lo hi : Int) (w : World) (hn : xs.length ≤ maxLen) (hx : Rd w A (intCells xs)) :
    Calls Try.prog 73 #[.slice A xs.length c, .int .i64 lo, .int .i64 hi] w fun e w' => e = .returned (.bool (risB lo hi xs)) ∧ Below w.heap.size w w' := by
  unfold maxLen at hn
  unfold risB
  go_enter Try.func73, Try.ntmps73
  go_wp2
  go_loopw [11] (fun q wr => ∃ k : Nat, k ≤ xs.length ∧ q = .int .i64 k ∧ Hid (goodPre (risP lo hi) [] xs = goodPre (risP lo hi) (xs.take k) (xs.drop k)) ∧ Below w.heap.size w wr) (fun q _ => xs.length - (intOf q).toNat)
  case atStart => exact ⟨0, by omega, rfl, rfl, Below.refl _ _⟩
  case round =>
    obtain ⟨k, hk, rfl, H, hb⟩ := hrel
    by_cases hlt : k < xs.length
    · obtain ⟨b, off, rfl, c0⟩ := Rd.ints (hx.below hb) hlt
      have Hn := Lib.hid (H.out.trans (goodPre_at hlt))
      clear H
      have hkI : (k : Int) < (xs.length : Int) := by omega
      have gx := cell_after c0
      obtain ⟨s, hse⟩ : ∃ s, s = xs[k] := ⟨_, rfl⟩
      rw [← hse] at Hn c0 gx
      have HT : Hid (risP lo hi (xs.take k) s = (inB s lo hi && lastLt (fun y : Int => y) (xs.take k) s)) := rfl
      clear hse
      by_cases h1 : inB s lo hi = true
      · by_cases hk0 : k = 0
        · have Hr : Hid (goodPre (risP lo hi) [] xs = goodPre (risP lo hi) (xs.take (k + 1)) (xs.drop (k + 1))) := Hn.out.trans (by rw [HT.out, h1, hk0, lastLt_zero]; simp)
          have hd1 : decide ((0 : Int) < (k : Int)) = false := by simp; omega
          have hd2 : decide (0 < k) = false := by simp; omega
          have hk0N : ¬ 0 < k := by omega
          have hk0I : ¬ (0 : Int) < (k : Int) := by omega
          clear Hn HT hk0
          go_wp2_with (go_at_call 71; refine (inside_any _ _ _ _).mono ?_; rintro en w9 ⟨rfl, rfl⟩)
          go_roundw
          case rel => exact ⟨k + 1, by omega, by go_num, Hr, hb⟩
          case measure => simp [intOf]; omega
        · obtain ⟨k1, hke⟩ : ∃ k1, k = k1 + 1 := ⟨k - 1, by omega⟩
          obtain ⟨b1, off1, e1, p0⟩ := Rd.ints (hx.below hb) (show k1 < xs.length by omega)
          have k9 : b1 = b ∧ off1 = off := by simpa using e1.symm
          obtain ⟨rfl, rfl⟩ := k9
          clear e1
          have HL : Hid (lastLt (fun y : Int => y) (xs.take k) s = decide (xs[k1] < s)) := by
            show _ = _
            subst hke
            exact lastLt_succ _ _ _ _ _
          generalize xs[k1] = pv at *
          have gp := cell_after p0
          have hk1 : (k : Int) - 1 = (k1 : Int) := by omega
          have hk1I : (k1 : Int) < (xs.length : Int) := by omega
          have hk0I : (0 : Int) < (k : Int) := by omega
          have hk0N : 0 < k := by omega
          have hd1 : decide ((0 : Int) < (k : Int)) = true := by simp; omega
          have hd2 : decide (0 < k) = true := by simp; omega
          clear hke
          by_cases hp : pv < s
          · have hp1 : ¬ s ≤ pv := by omega
            have hp2 : decide (s ≤ pv) = false := by simp; omega
            have Hr : Hid (goodPre (risP lo hi) [] xs = goodPre (risP lo hi) (xs.take (k + 1)) (xs.drop (k + 1))) := Hn.out.trans (by rw [HT.out, h1, HL.out]; simp [hp])
            clear Hn HT HL hk0
            go_wp2_with (go_at_call 71; refine (inside_any _ _ _ _).mono ?_; rintro en w9 ⟨rfl, rfl⟩)
            go_roundw
            case rel => exact ⟨k + 1, by omega, by go_num, Hr, hb⟩
            case measure => simp [intOf]; omega
          · have hp1 : s ≤ pv := by omega
            have hp2 : decide (s ≤ pv) = true := by simp; omega
            have Hr : Hid (goodPre (risP lo hi) [] xs = false) := Hn.out.trans (by rw [HT.out, HL.out]; simp [hp])
            clear Hn HT HL hk0
            go_wp2_with (go_at_call 71; refine (inside_any _ _ _ _).mono ?_; rintro en w9 ⟨rfl, rfl⟩)
            go_ret
            exact ⟨by rw [Hr.out]; rfl, hb⟩
      · have h1' : inB s lo hi = false := by simpa using h1
        have Hr : Hid (goodPre (risP lo hi) [] xs = false) := Hn.out.trans (by rw [HT.out, h1']; rfl)
        clear Hn HT h1
        go_wp2_with (go_at_call 71; refine (inside_any _ _ _ _).mono ?_; rintro en w9 ⟨rfl, rfl⟩)
        go_ret
        exact ⟨by rw [Hr.out]; rfl, hb⟩
    · have Hr : Hid (goodPre (risP lo hi) [] xs = true) := H.out.trans (by rw [List.drop_eq_nil_of_le (by omega)]; rfl)
      clear H
      go_wp2
      go_ret
      exact ⟨by rw [Hr.out]; rfl, hb⟩
end Go.Proofs.Ytidmdppcamgaoaa
