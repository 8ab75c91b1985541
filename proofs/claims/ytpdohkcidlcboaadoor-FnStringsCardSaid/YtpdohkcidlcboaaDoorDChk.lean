/-
  AppendChecksum: both texts; the law's walk. Conditions: the library's table of powers of ten is as laid.
-/
import Derived.Test.YtpdohkcidlcboaaDoorDFmt
namespace Go.My
open Go.RowKit
def stB (b : UInt8) (s : ByteArray) : Bool := s.data.toList.any fun c => c == b
theorem any_take1 {α : Type} (p : α → Bool) (xs : List α) (k : Nat) (hk : k < xs.length) : (xs.take (k + 1)).any p = ((xs.take k).any p || p xs[k]) := by
  rw [List.take_succ_eq_append_getElem hk, List.any_append]; simp only [List.any_cons, List.any_nil, Bool.or_false]
theorem any_of_take {α : Type} {p : α → Bool} {xs : List α} {k : Nat} (h : (xs.take k).any p = true) : xs.any p = true := by
  obtain ⟨x, hx, hp⟩ := List.any_eq_true.1 h
  exact List.any_eq_true.2 ⟨x, List.mem_of_mem_take hx, hp⟩
theorem indexByte_any (l : List UInt8) (b : UInt8) : decide (0 ≤ Lib.indexByte l b) = l.any fun c => c == b := by
  induction l with
  | nil => rfl
  | cons c l ih =>
    have hge := Lib.indexByte_ge l b
    rw [List.any_cons, ← ih, show Lib.indexByte (c :: l) b = if c == b then 0 else if Lib.indexByte l b == -1 then -1 else Lib.indexByte l b + 1 from rfl]
    by_cases h : (c == b) = true
    · simp [h]
    · have h' : (c == b) = false := by simpa using h
      rw [h', if_neg (by simp), Bool.false_or]
      split
      · rename_i e
        have e' : Lib.indexByte l b = -1 := by simpa using e
        simp [e']
      · rename_i e
        have e' : ¬ Lib.indexByte l b = -1 := by simpa using e
        rw [decide_eq_decide]; omega
end Go.My
namespace Go.Proofs.YtpdohkcidlcboaaDoor
open Go.RowKit Go.My
def sumF (h : Nat) (l : List UInt8) : Nat := l.foldl (fun h c => (41 * h + c.toNat + 1) % 999979) h
theorem sumF_snoc (l : List UInt8) (c : UInt8) (h : Nat) : sumF h (l ++ [c]) = (41 * sumF h l + c.toNat + 1) % 999979 := by simp [sumF]
theorem sumF_lt (l : List UInt8) : sumF 7 l < 999979 := by
  unfold sumF
  rcases List.eq_nil_or_concat l with rfl | ⟨l', c, rfl⟩
  · decide
  · rw [List.concat_eq_append, List.foldl_append]; exact Nat.mod_lt _ (by decide)
theorem take_snoc (s : ByteArray) (k : Nat) (h : k < s.size) : s.data.toList.take (k + 1) = s.data.toList.take k ++ [s[k]] := by
  rw [List.take_succ_eq_append_getElem (by simpa using h)]; rfl
theorem sum_round (s : ByteArray) (k : Nat) (h : k < s.size) : (sumF 7 (s.data.toList.take (k+1)) : Int) = (41 * (sumF 7 (s.data.toList.take k) : Int) + (s[k].toNat : Int) + 1) % 999979 := by
  rw [take_snoc s k h, sumF_snoc]; simp

set_option maxHeartbeats 400000 in
theorem sum_impl (s : ByteArray) (w : World) (hs : s.size ≤ maxLen) :
    Calls Tryd.prog 28 #[.string s] w fun e w' => e = .returned (.int .i64 (sumF 7 s.data.toList : Nat)) ∧ w = w' := by
  unfold maxLen at hs
  go_enter Tryd.func28, Tryd.ntmps28
  go_wp2
  go_loop [3, 4] (fun h i => ∃ k : Nat, k ≤ s.size ∧ i = .int .i64 k ∧ h = .int .i64 (sumF 7 (s.data.toList.take k) : Nat)) (fun _ i => s.size - (intOf i).toNat)
  case atStart => exact ⟨0, Nat.zero_le _, rfl, rfl⟩
  case round =>
    obtain ⟨k, hk, rfl, rfl⟩ := hrel
    have hb := sumF_lt (s.data.toList.take k)
    by_cases hlt : k < s.size
    · have H := Lib.hid (sum_round s k hlt)
      have hc : s[k].toNat < 256 := s[k].toNat_lt
      go_wp2
      go_round
      case rel => exact ⟨k + 1, by omega, by go_num, by rw [H.out]⟩
      case measure => simp [intOf]; omega
    · go_wp2
      go_ret
      refine ⟨?_, rfl⟩
      rw [List.take_of_length_le (by simp; omega)]
      rfl

set_option maxHeartbeats 400000 in
theorem sum_spec (s : ByteArray) (w : World) (hs : s.size ≤ maxLen) :
    Calls Tryd.prog 39 #[.string s] w fun e w' => e = .returned (.int .i64 (sumF 7 s.data.toList : Nat)) ∧ w = w' := by
  unfold maxLen at hs
  go_enter Tryd.func39, Tryd.ntmps39
  go_wp2
  go_loop [3, 4] (fun h i => ∃ k : Nat, k ≤ s.size ∧ i = .int .i64 k ∧ h = .int .i64 (sumF 7 (s.data.toList.take k) : Nat)) (fun _ i => s.size - (intOf i).toNat)
  case atStart => exact ⟨0, Nat.zero_le _, rfl, rfl⟩
  case round =>
    obtain ⟨k, hk, rfl, rfl⟩ := hrel
    have hb := sumF_lt (s.data.toList.take k)
    by_cases hlt : k < s.size
    · have H := Lib.hid (sum_round s k hlt)
      have hc : s[k].toNat < 256 := s[k].toNat_lt
      go_wp2
      go_round
      case rel => exact ⟨k + 1, by omega, by go_num, by rw [H.out]⟩
      case measure => simp [intOf]; omega
    · go_wp2
      go_ret
      refine ⟨?_, rfl⟩
      rw [List.take_of_length_le (by simp; omega)]
      rfl

set_option maxHeartbeats 400000 in
theorem l1Stands_any (s : ByteArray) (b : UInt8) (w : World) (hs : s.size ≤ maxLen) :
    Calls Tryd.prog 25 #[.string s, .int .u8 b.toNat] w fun e w' => e = .returned (.bool (stB b s)) ∧ w = w' := by
  unfold maxLen at hs
  go_enter Tryd.func25, Tryd.ntmps25
  go_wp2
  go_loop [5] (fun i => ∃ k : Nat, k ≤ s.size ∧ i = .int .i64 k ∧ Hid ((s.data.toList.take k).any (fun c => c == b) = false)) (fun i => s.size - (intOf i).toNat)
  case atStart => exact ⟨0, Nat.zero_le _, rfl, rfl⟩
  case round =>
    obtain ⟨k, hk, rfl, H⟩ := hrel
    by_cases hlt : k < s.size
    · have hc : s[k].toNat < 256 := s[k].toNat_lt
      have Hn := Lib.hid (any_take1 (fun c => c == b) s.data.toList k (by simpa using hlt))
      have HK : Hid (s.data.toList[k]'(by simpa using hlt) = s[k]) := rfl
      by_cases hq : s[k] = b
      · have Hf : Hid (stB b s = true) := by
          refine any_of_take (k := k + 1) ?_
          rw [Hn.out, HK.out, hq]; simp
        have he : (((s[k].toNat : Nat) : Int) == ((b.toNat : Nat) : Int)) = true := by rw [hq]; simp
        clear H Hn hq
        go_wp2
        go_ret
        exact ⟨by rw [Hf.out]; rfl, rfl⟩
      · have Hf : Hid ((s.data.toList.take (k + 1)).any (fun c => c == b) = false) := Hn.out.trans (by rw [H.out, HK.out]; simpa using hq)
        have he : (((s[k].toNat : Nat) : Int) == ((b.toNat : Nat) : Int)) = false := by
          have : s[k].toNat ≠ b.toNat := fun e => hq (UInt8.toNat_inj.1 e)
          simp; omega
        clear H Hn hq
        go_wp2
        go_round
        case rel => exact ⟨k + 1, by omega, by go_num, Hf⟩
        case measure => simp [intOf]; omega
    · have Hf : Hid (stB b s = false) := by
        have := H.out
        rwa [List.take_of_length_le (by simp; omega)] at this
      clear H
      go_wp2
      go_ret
      exact ⟨by rw [Hf.out]; rfl, rfl⟩

def sumD (s : ByteArray) : ByteArray := ⟨(Lib.itoa ((sumF 7 s.data.toList : Nat) : Int)).toArray⟩
def sealB (s : ByteArray) : ByteArray := (s ++ ⟨#[35]⟩) ++ sumD s
def appR (s : ByteArray) : ByteArray × Bool := if (decide (s.size ≤ 4000) && !(stB 35 s) && decide ((sealB s).size ≤ 4000)) = true then (sealB s, true) else (⟨#[]⟩, false)
theorem sumD_le (s : ByteArray) : (sumD s).size ≤ 20 := by
  have h := sumF_lt s.data.toList
  have := dec_len (sumF 7 s.data.toList) (by omega)
  unfold sumD Lib.itoa
  rw [if_neg (by omega)]
  exact this
theorem seal_any (s : ByteArray) (w : World) (hs : s.size ≤ 4000) : Calls Tryd.prog 26 #[.string s] w fun e w' => e = .returned (.string (sealB s)) ∧ Below w.heap.size w w' := by
  have H1 := Lib.hid (sum_spec s w (by unfold maxLen; omega))
  have h := sumF_lt s.data.toList
  have H2 := Lib.hid (numI_any (sumF 7 s.data.toList : Nat) (by omega) (by omega) w)
  have hD := sumD_le s
  have HT : Hid (sealB s = (s ++ ⟨#[35]⟩) ++ sumD s) := rfl
  have H3 : Hid (Calls Tryd.prog 22 #[.int .i64 (sumF 7 s.data.toList : Nat)] w fun e w' => e = .returned (.string (sumD s)) ∧ Below w.heap.size w w') := H2.out
  clear H2
  generalize sumD s = D at *
  generalize sumF 7 s.data.toList = k at *
  have hsz : (s ++ (⟨#[35]⟩ : ByteArray)).size ≤ 4001 := by rw [ByteArray.size_append]; show s.size + 1 ≤ 4001; omega
  have hr1 : ∀ w, (Op.stringOp .add s ⟨#[35]⟩).run Tryd.prog w = .ok (.string (s ++ ⟨#[35]⟩)) w := fun w => run_string_add w _ _ (by omega) (by show ((1 : Nat) : Int) ≤ 8388608; omega)
  have hr2 : ∀ w, (Op.stringOp .add (s ++ ⟨#[35]⟩) D).run Tryd.prog w = .ok (.string ((s ++ ⟨#[35]⟩) ++ D)) w := fun w => run_string_add w _ _ (by omega) (by omega)
  clear hD hsz h hs
  go_enter Tryd.func26, Tryd.ntmps26
  go_wp2_with (first | (go_at_call 39; refine H1.out.mono ?_; rintro e w9 ⟨rfl, rfl⟩) | (go_at_call 22; refine H3.out.mono ?_; rintro e w9 ⟨rfl, hb⟩))
  go_ret
  exact ⟨by rw [HT.out]; rfl, hb⟩
theorem specApp_any (s : ByteArray) (w : World) (hs : s.size ≤ maxLen) : Calls Tryd.prog 10 #[.string s] w fun e w' => e = .returned (.tuple #[.string (appR s).1, .bool (appR s).2]) ∧ Below w.heap.size w w' := by
  by_cases h4 : s.size ≤ 4000
  · have h4I : ¬ (4000 : Int) < (s.size : Int) := by omega
    have H1 : Hid (Calls Tryd.prog 25 #[.string s, .int .u8 35] w fun e w' => e = .returned (.bool (stB 35 s)) ∧ w = w') := l1Stands_any s 35 w hs
    have H2 : Hid (∀ w1, Calls Tryd.prog 26 #[.string s] w1 fun e w' => e = .returned (.string (sealB s)) ∧ Below w1.heap.size w1 w') := fun w1 => seal_any s w1 h4
    have HT : Hid (appR s = if (decide (s.size ≤ 4000) && !(stB 35 s) && decide ((sealB s).size ≤ 4000)) = true then (sealB s, true) else (⟨#[]⟩, false)) := rfl
    generalize appR s = R at *
    generalize sealB s = S at *
    cases hst : stB 35 s with
    | true =>
      have HR : Hid (R = (⟨#[]⟩, false)) := HT.out.trans (if_neg (by rw [hst]; simp))
      rw [HR.out]
      rw [hst] at H1
      clear HT
      go_enter Tryd.func10, Tryd.ntmps10
      go_wp2_with (go_at_call 25; refine H1.out.mono ?_; rintro e w9 ⟨rfl, rfl⟩)
      exact bodyPost_ret (v := .tuple #[.string ⟨#[]⟩, .bool false]) (by simp [results, Tryd.results10, go_sem]) rfl ⟨rfl, Below.refl _ _⟩
    | false =>
      rw [hst] at H1
      by_cases hS : S.size ≤ 4000
      · have HR : Hid (R = (S, true)) := HT.out.trans (if_pos (by rw [hst]; simp [h4, hS]))
        rw [HR.out]
        clear HT
        have hSI : ¬ (4000 : Int) < (S.size : Int) := by omega
        go_enter Tryd.func10, Tryd.ntmps10
        go_wp2_with (first | (go_at_call 25; refine H1.out.mono ?_; rintro e w9 ⟨rfl, rfl⟩))
        refine (H2.out _).mono ?_
        rintro e w1 ⟨rfl, hb1⟩
        go_wp2_with fail
        refine (H2.out _).mono ?_
        rintro e w2 ⟨rfl, hb2⟩
        go_wp2
        exact bodyPost_ret (v := .tuple #[.string S, .bool true]) (by simp [results, Tryd.results10, go_sem]) rfl ⟨rfl, btr hb1 hb2⟩
      · have HR : Hid (R = (⟨#[]⟩, false)) := HT.out.trans (if_neg (by simp [hS]))
        rw [HR.out]
        clear HT
        have hSI : (4000 : Int) < (S.size : Int) := by omega
        go_enter Tryd.func10, Tryd.ntmps10
        go_wp2_with (first | (go_at_call 25; refine H1.out.mono ?_; rintro e w9 ⟨rfl, rfl⟩))
        refine (H2.out _).mono ?_
        rintro e w1 ⟨rfl, hb1⟩
        go_wp2
        exact bodyPost_ret (v := .tuple #[.string ⟨#[]⟩, .bool false]) (by simp [results, Tryd.results10, go_sem]) rfl ⟨rfl, hb1⟩
  · have h4I : (4000 : Int) < (s.size : Int) := by omega
    have HR : appR s = (⟨#[]⟩, false) := if_neg (by simp [h4])
    rw [HR]
    go_enter Tryd.func10, Tryd.ntmps10
    go_wp2
    exact bodyPost_ret (v := .tuple #[.string ⟨#[]⟩, .bool false]) (by simp [results, Tryd.results10, go_sem]) rfl ⟨rfl, Below.refl _ _⟩
theorem implApp_any (s : ByteArray) (w : World) (hs : s.size ≤ maxLen) (htab : Lib.TabIs Tryd.prog w "internal/strconv.uint64pow10" .u64 Lib.pow10Tab) : Calls Tryd.prog 11 #[.string s] w fun e w' => e = .returned (.tuple #[.string (appR s).1, .bool (appR s).2]) ∧ Below w.heap.size w w' := by
  by_cases h4 : s.size ≤ 4000
  · have h4I : ¬ (4000 : Int) < (s.size : Int) := by omega
    have HC0 := Tryd.strings_Contains_one s 35 w
    rw [indexByte_any] at HC0
    have H1 : Hid (Calls Tryd.prog 27 #[.string s, .string ⟨#[35]⟩] w fun e w' => e = .returned (.bool (stB 35 s)) ∧ w = w') := HC0.mono (fun _ _ ⟨a, b⟩ => ⟨a, b.symm⟩)
    have HK := Lib.hid (sum_impl s w hs)
    have hk := sumF_lt s.data.toList
    have HI : Hid (Calls Tryd.prog 24 #[.int .i64 (sumF 7 s.data.toList : Nat)] w fun e w' => e = .returned (.string (sumD s)) ∧ ∃ k os, w' = Go.Sort.grow (w.drewN k) os) := Tryd.strconv_Itoa _ (by omega) (by omega) w htab
    have hD := sumD_le s
    have HT : Hid (appR s = if (decide (s.size ≤ 4000) && !(stB 35 s) && decide ((s ++ ⟨#[35]⟩ ++ sumD s).size ≤ 4000)) = true then (s ++ ⟨#[35]⟩ ++ sumD s, true) else (⟨#[]⟩, false)) := rfl
    clear HC0 htab
    generalize appR s = R at *
    generalize sumD s = D at *
    generalize sumF 7 s.data.toList = k at *
    cases hst : stB 35 s with
    | true =>
      have HR : Hid (R = (⟨#[]⟩, false)) := HT.out.trans (if_neg (by rw [hst]; simp))
      rw [HR.out]
      rw [hst] at H1
      clear HT hD
      go_enter Tryd.func11, Tryd.ntmps11
      go_wp2_with (go_at_call 27; refine H1.out.mono ?_; rintro e w9 ⟨rfl, rfl⟩)
      exact bodyPost_ret (v := .tuple #[.string ⟨#[]⟩, .bool false]) (by simp [results, Tryd.results11, go_sem]) rfl ⟨rfl, Below.refl _ _⟩
    | false =>
      rw [hst] at H1
      have hsz : (s ++ (⟨#[35]⟩ : ByteArray)).size ≤ 4001 := by rw [ByteArray.size_append]; show s.size + 1 ≤ 4001; omega
      have hr1 : ∀ w, (Op.stringOp .add s ⟨#[35]⟩).run Tryd.prog w = .ok (.string (s ++ ⟨#[35]⟩)) w := fun w => run_string_add w _ _ (by omega) (by show ((1 : Nat) : Int) ≤ 8388608; omega)
      have hr2 : ∀ w, (Op.stringOp .add (s ++ ⟨#[35]⟩) D).run Tryd.prog w = .ok (.string ((s ++ ⟨#[35]⟩) ++ D)) w := fun w => run_string_add w _ _ (by omega) (by omega)
      clear hD hsz
      obtain ⟨S, hS⟩ : ∃ S : ByteArray, S = s ++ ⟨#[35]⟩ ++ D := ⟨_, rfl⟩
      rw [← hS] at HT hr2
      clear hS
      by_cases h5 : S.size ≤ 4000
      · have h5I : ¬ (4000 : Int) < (S.size : Int) := by omega
        have HR : Hid (R = (S, true)) := HT.out.trans (if_pos (by rw [hst]; simp [h4, h5]))
        rw [HR.out]
        clear HT
        go_enter Tryd.func11, Tryd.ntmps11
        go_wp2_with (first | (go_at_call 27; refine H1.out.mono ?_; rintro e w9 ⟨rfl, rfl⟩) | (go_at_call 28; refine HK.out.mono ?_; rintro e w9 ⟨rfl, rfl⟩))
        refine HI.out.mono ?_
        rintro e w9 ⟨rfl, kk, os, rfl⟩
        have hbg := below_gr w kk os
        generalize Go.Sort.grow (w.drewN kk) os = W at *
        go_wp2
        exact bodyPost_ret (v := .tuple #[.string S, .bool true]) (by simp [results, Tryd.results11, go_sem]) rfl ⟨rfl, hbg⟩
      · have h5I : (4000 : Int) < (S.size : Int) := by omega
        have HR : Hid (R = (⟨#[]⟩, false)) := HT.out.trans (if_neg (by simp [h5]))
        rw [HR.out]
        clear HT
        go_enter Tryd.func11, Tryd.ntmps11
        go_wp2_with (first | (go_at_call 27; refine H1.out.mono ?_; rintro e w9 ⟨rfl, rfl⟩) | (go_at_call 28; refine HK.out.mono ?_; rintro e w9 ⟨rfl, rfl⟩))
        refine HI.out.mono ?_
        rintro e w9 ⟨rfl, kk, os, rfl⟩
        have hbg := below_gr w kk os
        generalize Go.Sort.grow (w.drewN kk) os = W at *
        go_wp2
        exact bodyPost_ret (v := .tuple #[.string ⟨#[]⟩, .bool false]) (by simp [results, Tryd.results11, go_sem]) rfl ⟨rfl, hbg⟩
  · have h4I : (4000 : Int) < (s.size : Int) := by omega
    have HR : appR s = (⟨#[]⟩, false) := if_neg (by simp [h4])
    rw [HR]
    go_enter Tryd.func11, Tryd.ntmps11
    go_wp2
    exact bodyPost_ret (v := .tuple #[.string ⟨#[]⟩, .bool false]) (by simp [results, Tryd.results11, go_sem]) rfl ⟨rfl, Below.refl _ _⟩
theorem law_AppendChecksum (s : ByteArray) (w : World) (hs : s.size ≤ maxLen) (htab : Lib.TabIs Tryd.prog w "internal/strconv.uint64pow10" .u64 Lib.pow10Tab) : Calls Tryd.prog 4 #[.string s] w fun e w' => e = .returned (.bool true) ∧ Below w.heap.size w w' := by
  by_cases hbig : 1048576 < s.size
  · have hI : (1048576 : Int) < (s.size : Int) := by omega
    go_enter Tryd.func4, Tryd.ntmps4
    go_wp2
    go_ret
    exact ⟨rfl, Below.refl _ _⟩
  · have hI : ¬ (1048576 : Int) < (s.size : Int) := by omega
    have H1 := Lib.hid (specApp_any s w hs)
    have H2 : Hid (∀ w1, Below w.heap.size w w1 → _) := fun w1 hb => implApp_any s w1 hs (tab_below htab hb)
    generalize appR s = R at *
    obtain ⟨D, b⟩ := R
    clear htab
    go_enter Tryd.func4, Tryd.ntmps4
    go_wp2_with fail
    refine H1.out.mono ?_
    rintro e w1 ⟨rfl, hb1⟩
    go_wp2_with fail
    refine (H2.out w1 hb1).mono ?_
    rintro e w2 ⟨rfl, hb2⟩
    have hb := btr hb1 hb2
    go_wp2
    go_ret
    exact ⟨rfl, hb⟩
end Go.Proofs.YtpdohkcidlcboaaDoor

