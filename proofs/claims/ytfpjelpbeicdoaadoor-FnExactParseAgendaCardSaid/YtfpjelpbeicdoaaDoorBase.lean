/-
  Contracts of the small functions that many others call: a number in a range, a word, the text that marks a place. Conditions: none of theirs.
-/
import Derived.Test.YtfpjelpbeicdoaaDoorRows
import Derived.Test.YtfpjelpbeicdoaaDoorMem
namespace Go.My
open Go.RowKit
/-- A number in a range. -/
def inB (n lo hi : Int) : Bool := decide (lo ≤ n ∧ n ≤ hi)
theorem inB_yes {n lo hi : Int} (h : lo ≤ n ∧ n ≤ hi) : inB n lo hi = true := by simp [inB, h]
theorem inB_no {n lo hi : Int} (h : ¬ (lo ≤ n ∧ n ≤ hi)) : inB n lo hi = false := by simp only [inB, h, decide_false]
def letterB (c : UInt8) : Bool := decide (97 ≤ c.toNat ∧ c.toNat ≤ 122)
def wordB (s : ByteArray) : Bool := s.data.toList.all letterB && decide (1 ≤ s.size ∧ s.size ≤ 10)
theorem all_take_succ (s : ByteArray) (k : Nat) (h : k < s.size) (p : UInt8 → Bool) : (s.data.toList.take (k + 1)).all p = ((s.data.toList.take k).all p && p s[k]) := by
  rw [List.take_succ_eq_append_getElem (by simpa using h), List.all_append]
  simp; rfl
theorem wordB_no (s : ByteArray) (k : Nat) (h : k < s.size) (hp : letterB s[k] = false) : wordB s = false := by
  have : s.data.toList.all letterB = false := by
    rw [List.all_eq_false]
    exact ⟨s[k], by rw [show s[k] = s.data.toList[k]'(by simpa using h) from rfl]; exact List.getElem_mem _, by simpa using hp⟩
  simp [wordB, this]
theorem wordB_end (s : ByteArray) (k : Nat) (h : ¬ k < s.size) (hk : k ≤ s.size) (hp : (s.data.toList.take k).all letterB = true) : wordB s = inB (s.size : Int) 1 10 := by
  rw [List.take_of_length_le (by simp; omega)] at hp
  simp only [wordB, inB, hp, Bool.true_and, decide_eq_decide]
  omega
theorem letters_next (s : ByteArray) (k : Nat) (h : k < s.size) (h1 : ¬ s[k].toNat < 97) (h2 : ¬ 122 < s[k].toNat) (H : (s.data.toList.take k).all letterB = true) : (s.data.toList.take (k + 1)).all letterB = true := by
  rw [all_take_succ s k h letterB, H]
  simp [letterB]; omega
/-- The digits of a mark. -/
def mdig : Nat → Nat → List UInt8 → List UInt8
  | 0, _, acc => acc
  | f + 1, k, acc => if k = 0 then acc else mdig f (k / 10) (UInt8.ofNat (48 + k % 10) :: acc)
theorem mdig_zero (f : Nat) (acc : List UInt8) : mdig f 0 acc = acc := by cases f <;> simp [mdig]
theorem mdig_step {f k : Nat} (hf : k < f) (h : 0 < k) (acc : List UInt8) : mdig f k acc = mdig (f - 1) (k / 10) (UInt8.ofNat (48 + k % 10) :: acc) := by
  obtain ⟨f, rfl⟩ : ∃ g, f = g + 1 := ⟨f - 1, by omega⟩
  simp [mdig, show k ≠ 0 by omega]
/-- The text that marks a place. -/
def mtext (k : Int) : ByteArray := if k ≤ 0 then ⟨#[109, 48]⟩ else ⟨(109 :: mdig (k.toNat + 1) k.toNat []).toArray⟩
theorem byte_cons (c : UInt8) (l : List UInt8) : (⟨#[c]⟩ : ByteArray) ++ ⟨l.toArray⟩ = ⟨(c :: l).toArray⟩ := by
  apply ByteArray.ext
  simp [ByteArray.data_append]
theorem digit_byte (k : Nat) : (48 + UInt8.ofNat (k % 10) : UInt8) = UInt8.ofNat (48 + k % 10) := by rw [UInt8.ofNat_add]; rfl
/-- What is left of a bound behind a text. -/
def szStep (left n : Int) : Int := if left - n < 0 then -1 else left - n
end Go.My
namespace Go.Proofs.YtfpjelpbeicdoaaDoor
open Go.RowKit Go.My
theorem inside_yes (n lo hi : Int) (w : World) (h : lo ≤ n ∧ n ≤ hi) :
    Calls Tryd.prog 33 #[.int .i64 n, .int .i64 lo, .int .i64 hi] w fun e w' => e = .returned (.bool true) ∧ w = w' := by
  obtain ⟨h1, h2⟩ := h
  go_enter Tryd.func33, Tryd.ntmps33
  go_wp2
  go_ret
  exact ⟨rfl, rfl⟩
theorem inside_no (n lo hi : Int) (w : World) (h : ¬ (lo ≤ n ∧ n ≤ hi)) :
    Calls Tryd.prog 33 #[.int .i64 n, .int .i64 lo, .int .i64 hi] w fun e w' => e = .returned (.bool false) ∧ w = w' := by
  by_cases h1 : lo ≤ n
  · have h2 : ¬ n ≤ hi := fun h' => h ⟨h1, h'⟩
    clear h
    go_enter Tryd.func33, Tryd.ntmps33
    go_wp2
    go_ret
    exact ⟨rfl, rfl⟩
  · clear h
    go_enter Tryd.func33, Tryd.ntmps33
    go_wp2
    go_ret
    exact ⟨rfl, rfl⟩
theorem inside_any (n lo hi : Int) (w : World) :
    Calls Tryd.prog 33 #[.int .i64 n, .int .i64 lo, .int .i64 hi] w fun e w' => e = .returned (.bool (inB n lo hi)) ∧ w = w' := by
  by_cases h : lo ≤ n ∧ n ≤ hi
  · rw [inB_yes h]; exact inside_yes n lo hi w h
  · rw [inB_no h]; exact inside_no n lo hi w h
theorem l1In_yes (n lo hi : Int) (w : World) (h : lo ≤ n ∧ n ≤ hi) :
    Calls Tryd.prog 29 #[.int .i64 n, .int .i64 lo, .int .i64 hi] w fun e w' => e = .returned (.bool true) ∧ w = w' := by
  obtain ⟨h1, h2⟩ := h
  go_enter Tryd.func29, Tryd.ntmps29
  go_wp2
  go_ret
  exact ⟨rfl, rfl⟩
theorem l1In_no (n lo hi : Int) (w : World) (h : ¬ (lo ≤ n ∧ n ≤ hi)) :
    Calls Tryd.prog 29 #[.int .i64 n, .int .i64 lo, .int .i64 hi] w fun e w' => e = .returned (.bool false) ∧ w = w' := by
  by_cases h1 : lo ≤ n
  · have h2 : ¬ n ≤ hi := fun h' => h ⟨h1, h'⟩
    clear h
    go_enter Tryd.func29, Tryd.ntmps29
    go_wp2
    go_ret
    exact ⟨rfl, rfl⟩
  · clear h
    go_enter Tryd.func29, Tryd.ntmps29
    go_wp2
    go_ret
    exact ⟨rfl, rfl⟩
theorem l1In_any (n lo hi : Int) (w : World) :
    Calls Tryd.prog 29 #[.int .i64 n, .int .i64 lo, .int .i64 hi] w fun e w' => e = .returned (.bool (inB n lo hi)) ∧ w = w' := by
  by_cases h : lo ≤ n ∧ n ≤ hi
  · rw [inB_yes h]; exact l1In_yes n lo hi w h
  · rw [inB_no h]; exact l1In_no n lo hi w h
set_option maxHeartbeats 400000 in
theorem isWord_any (s : ByteArray) (w : World) (hs : s.size ≤ maxLen) :
    Calls Tryd.prog 34 #[.string s] w fun e w' => e = .returned (.bool (wordB s)) ∧ w = w' := by
  unfold maxLen at hs
  go_enter Tryd.func34, Tryd.ntmps34
  go_wp2
  go_loop [3] (fun i => ∃ k : Nat, k ≤ s.size ∧ i = .int .i64 k ∧ Hid ((s.data.toList.take k).all letterB = true)) (fun i => s.size - (intOf i).toNat)
  case atStart => exact ⟨0, Nat.zero_le _, rfl, rfl⟩
  case round =>
    obtain ⟨k, hk, rfl, H⟩ := hrel
    by_cases hlt : k < s.size
    · have hc : s[k].toNat < 256 := s[k].toNat_lt
      by_cases h1 : s[k].toNat < 97
      · have Hf := Lib.hid (wordB_no s k hlt (by simp [letterB]; omega))
        go_wp2
        go_ret
        exact ⟨by rw [Hf.out]; rfl, rfl⟩
      · by_cases h2 : 122 < s[k].toNat
        · have Hf := Lib.hid (wordB_no s k hlt (by simp [letterB]; omega))
          go_wp2
          go_ret
          exact ⟨by rw [Hf.out]; rfl, rfl⟩
        · have Hn := Lib.hid (letters_next s k hlt h1 h2 H.out)
          go_wp2
          go_round
          case rel => exact ⟨k + 1, by omega, by go_num, Hn⟩
          case measure => simp [intOf]; omega
    · have He := Lib.hid (wordB_end s k hlt hk H.out)
      go_wp2_with (go_at_call 33; refine (inside_any _ _ _ _).mono ?_; rintro e w' ⟨rfl, rfl⟩)
      go_ret
      exact ⟨by rw [He.out]; rfl, rfl⟩
set_option maxHeartbeats 400000 in
theorem l2Word_any (s : ByteArray) (w : World) (hs : s.size ≤ maxLen) :
    Calls Tryd.prog 30 #[.string s] w fun e w' => e = .returned (.bool (wordB s)) ∧ w = w' := by
  unfold maxLen at hs
  go_enter Tryd.func30, Tryd.ntmps30
  go_wp2
  go_loop [3] (fun i => ∃ k : Nat, k ≤ s.size ∧ i = .int .i64 k ∧ Hid ((s.data.toList.take k).all letterB = true)) (fun i => s.size - (intOf i).toNat)
  case atStart => exact ⟨0, Nat.zero_le _, rfl, rfl⟩
  case round =>
    obtain ⟨k, hk, rfl, H⟩ := hrel
    by_cases hlt : k < s.size
    · have hc : s[k].toNat < 256 := s[k].toNat_lt
      by_cases h1 : s[k].toNat < 97
      · have Hf := Lib.hid (wordB_no s k hlt (by simp [letterB]; omega))
        go_wp2
        go_ret
        exact ⟨by rw [Hf.out]; rfl, rfl⟩
      · by_cases h2 : 122 < s[k].toNat
        · have Hf := Lib.hid (wordB_no s k hlt (by simp [letterB]; omega))
          go_wp2
          go_ret
          exact ⟨by rw [Hf.out]; rfl, rfl⟩
        · have Hn := Lib.hid (letters_next s k hlt h1 h2 H.out)
          go_wp2
          go_round
          case rel => exact ⟨k + 1, by omega, by go_num, Hn⟩
          case measure => simp [intOf]; omega
    · have He := Lib.hid (wordB_end s k hlt hk H.out)
      go_wp2_with (go_at_call 29; refine (l1In_any _ _ _ _).mono ?_; rintro e w' ⟨rfl, rfl⟩)
      go_ret
      exact ⟨by rw [He.out]; rfl, rfl⟩
set_option maxHeartbeats 400000 in
theorem markText_any (k : Int) (w : World) (hk : k ≤ 1000000000) :
    Calls Tryd.prog 28 #[.int .i64 k] w fun e w' => e = .returned (.string (mtext k)) ∧ Below w.heap.size w w' := by
  by_cases h0 : k ≤ 0
  · rw [show mtext k = ⟨#[109, 48]⟩ by simp [mtext, h0]]
    go_enter Tryd.func28, Tryd.ntmps28
    go_wp2
    go_ret
    exact ⟨rfl, Below.refl _ _⟩
  · obtain ⟨K, rfl⟩ := Int.eq_ofNat_of_zero_le (show 0 ≤ k by omega)
    have hK : 0 < K := by omega
    have HT : Hid (mtext (K : Int) = ⟨(109 :: mdig (K + 1) K []).toArray⟩) := by
      show mtext (K : Int) = _
      simp [mtext, show ¬ K = 0 by omega]
    go_enter Tryd.func28, Tryd.ntmps28
    go_wp2
    go_loopw [0, 3] (fun i o wr => ∃ k f : Nat, ∃ acc : List UInt8, k ≤ K ∧ k < f ∧ acc.length + f ≤ K + 1 ∧ i = .int .i64 k ∧ o = .string ⟨acc.toArray⟩ ∧ Hid (mdig (K + 1) K [] = mdig f k acc) ∧ Below w.heap.size w wr) (fun i _ _ => (intOf i).toNat)
    case atStart => exact ⟨K, K + 1, [], by omega, by omega, by simp, rfl, rfl, rfl, Below.refl _ _⟩
    case round =>
      obtain ⟨k, f, acc, hkK, hf, hacc, rfl, rfl, H, hb⟩ := hrel
      by_cases hp : 0 < k
      · have Hn := Lib.hid (H.out.trans (mdig_step hf hp acc))
        clear H
        have hm : k % 10 < 10 := Nat.mod_lt _ (by decide)
        have kc := conv_byte (P := Tryd.prog) Tryd.underlying60 Tryd.underlying5 Tryd.underlying9 wr (48 + (k : Int) % 10) (by omega) (by omega)
        go_wp2
        go_roundw
        case rel => exact ⟨k / 10, f - 1, _, by omega, by omega, by simp only [List.length_cons]; omega, by go_num, by rw [byte_cons, digit_byte], Hn, hb.alloc hb.size _⟩
        case measure => simp [intOf]; omega
      · have Hn := Lib.hid (H.out.trans (by rw [show k = 0 by omega, mdig_zero]))
        clear H
        go_wp2
        go_ret
        refine ⟨?_, hb⟩
        rw [HT.out, Hn.out, ← byte_cons]
        rfl
end Go.Proofs.YtfpjelpbeicdoaaDoor
