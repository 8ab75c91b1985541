/-
  Contracts of the small functions that many others call: a number in a range, a word, the text that marks a place. Conditions: none of theirs.
-/
import Derived.Test.YtdbcbaahjhaonaaRows
import Derived.Test.YtdbcbaahjhaonaaMem
namespace Go.My
open Go.RowKit
/-- A number in a range. -/
def inB (n lo hi : Int) : Bool := decide (lo ≤ n ∧ n ≤ hi)
theorem inB_yes {n lo hi : Int} (h : lo ≤ n ∧ n ≤ hi) : inB n lo hi = true := by simp [inB, h]
theorem inB_no {n lo hi : Int} (h : ¬ (lo ≤ n ∧ n ≤ hi)) : inB n lo hi = false := by simp only [inB, h, decide_false]
def letterB (c : UInt8) : Bool := decide (97 ≤ c.toNat ∧ c.toNat ≤ 122)
def wordB (s : ByteArray) : Bool := s.data.toList.all letterB && decide (1 ≤ s.size ∧ s.size ≤ 10)
theorem all_take_succ (s : ByteArray) (k : Nat) (h : k < s.size) (p : UInt8 → Bool) : (s.data.toList.take (k + 1)).all p = ((s.data.toList.take k).all p && p s[k]) := by
  rw [List.take_succ_eq_append_getElem (by simpa using h), List.all_append]
  simp; rfl
theorem wordB_no (s : ByteArray) (k : Nat) (h : k < s.size) (hp : letterB s[k] = false) : wordB s = false := by
  have : s.data.toList.all letterB = false := by
    rw [List.all_eq_false]
    exact ⟨s[k], by rw [show s[k] = s.data.toList[k]'(by simpa using h) from rfl]; exact List.getElem_mem _, by simpa using hp⟩
  simp [wordB, this]
theorem wordB_end (s : ByteArray) (k : Nat) (h : ¬ k < s.size) (hk : k ≤ s.size) (hp : (s.data.toList.take k).all letterB = true) : wordB s = inB (s.size : Int) 1 10 := by
  rw [List.take_of_length_le (by simp; omega)] at hp
  simp only [wordB, inB, hp, Bool.true_and, decide_eq_decide]
  omega
theorem letters_next (s : ByteArray) (k : Nat) (h : k < s.size) (h1 : ¬ s[k].toNat < 97) (h2 : ¬ 122 < s[k].toNat) (H : (s.data.toList.take k).all letterB = true) : (s.data.toList.take (k + 1)).all letterB = true := by
  rw [all_take_succ s k h letterB, H]
  simp [letterB]; omega
/-- The digits of a mark. -/
def mdig : Nat → Nat → List UInt8 → List UInt8
  | 0, _, acc => acc
  | f + 1, k, acc => if k = 0 then acc else mdig f (k / 10) (UInt8.ofNat (48 + k % 10) :: acc)
theorem mdig_zero (f : Nat) (acc : List UInt8) : mdig f 0 acc = acc := by cases f <;> simp [mdig]
theorem mdig_step {f k : Nat} (hf : k < f) (h : 0 < k) (acc : List UInt8) : mdig f k acc = mdig (f - 1) (k / 10) (UInt8.ofNat (48 + k % 10) :: acc) := by
  obtain ⟨f, rfl⟩ : ∃ g, f = g + 1 := ⟨f - 1, by omega⟩
  simp [mdig, show k ≠ 0 by omega]
/-- The text that marks a place. -/
def mtext (k : Int) : ByteArray := if k ≤ 0 then ⟨#[109, 48]⟩ else ⟨(109 :: mdig (k.toNat + 1) k.toNat []).toArray⟩
theorem byte_cons (c : UInt8) (l : List UInt8) : (⟨#[c]⟩ : ByteArray) ++ ⟨l.toArray⟩ = ⟨(c :: l).toArray⟩ := by
  apply ByteArray.ext
  simp [ByteArray.data_append]
theorem digit_byte (k : Nat) : (48 + UInt8.ofNat (k % 10) : UInt8) = UInt8.ofNat (48 + k % 10) := by rw [UInt8.ofNat_add]; rfl
/-- What is left of a bound behind a text. -/
def szStep (left n : Int) : Int := if left - n < 0 then -1 else left - n
end Go.My
namespace Go.Proofs.Ytdbcbaahjhaonaa
open Go.RowKit Go.My
theorem inside_yes (n lo hi : Int) (w : World) (h : lo ≤ n ∧ n ≤ hi) :
    Calls Try.prog 54 #[.int .i64 n, .int .i64 lo, .int .i64 hi] w fun e w' => e = .returned (.bool true) ∧ w = w' := by
  obtain ⟨h1, h2⟩ := h
  go_enter Try.func54, Try.ntmps54
  go_wp2
  go_ret
  exact ⟨rfl, rfl⟩
theorem inside_no (n lo hi : Int) (w : World) (h : ¬ (lo ≤ n ∧ n ≤ hi)) :
    Calls Try.prog 54 #[.int .i64 n, .int .i64 lo, .int .i64 hi] w fun e w' => e = .returned (.bool false) ∧ w = w' := by
  by_cases h1 : lo ≤ n
  · have h2 : ¬ n ≤ hi := fun h' => h ⟨h1, h'⟩
    clear h
    go_enter Try.func54, Try.ntmps54
    go_wp2
    go_ret
    exact ⟨rfl, rfl⟩
  · clear h
    go_enter Try.func54, Try.ntmps54
    go_wp2
    go_ret
    exact ⟨rfl, rfl⟩
theorem inside_any (n lo hi : Int) (w : World) :
    Calls Try.prog 54 #[.int .i64 n, .int .i64 lo, .int .i64 hi] w fun e w' => e = .returned (.bool (inB n lo hi)) ∧ w = w' := by
  by_cases h : lo ≤ n ∧ n ≤ hi
  · rw [inB_yes h]; exact inside_yes n lo hi w h
  · rw [inB_no h]; exact inside_no n lo hi w h
theorem l1In_yes (n lo hi : Int) (w : World) (h : lo ≤ n ∧ n ≤ hi) :
    Calls Try.prog 84 #[.int .i64 n, .int .i64 lo, .int .i64 hi] w fun e w' => e = .returned (.bool true) ∧ w = w' := by
  obtain ⟨h1, h2⟩ := h
  go_enter Try.func84, Try.ntmps84
  go_wp2
  go_ret
  exact ⟨rfl, rfl⟩
theorem l1In_no (n lo hi : Int) (w : World) (h : ¬ (lo ≤ n ∧ n ≤ hi)) :
    Calls Try.prog 84 #[.int .i64 n, .int .i64 lo, .int .i64 hi] w fun e w' => e = .returned (.bool false) ∧ w = w' := by
  by_cases h1 : lo ≤ n
  · have h2 : ¬ n ≤ hi := fun h' => h ⟨h1, h'⟩
    clear h
    go_enter Try.func84, Try.ntmps84
    go_wp2
    go_ret
    exact ⟨rfl, rfl⟩
  · clear h
    go_enter Try.func84, Try.ntmps84
    go_wp2
    go_ret
    exact ⟨rfl, rfl⟩
theorem l1In_any (n lo hi : Int) (w : World) :
    Calls Try.prog 84 #[.int .i64 n, .int .i64 lo, .int .i64 hi] w fun e w' => e = .returned (.bool (inB n lo hi)) ∧ w = w' := by
  by_cases h : lo ≤ n ∧ n ≤ hi
  · rw [inB_yes h]; exact l1In_yes n lo hi w h
  · rw [inB_no h]; exact l1In_no n lo hi w h
theorem l1Least_any (a b : Int) (w : World) :
    Calls Try.prog 95 #[.int .i64 a, .int .i64 b] w fun e w' => e = .returned (.int .i64 (min a b)) ∧ w = w' := by
  by_cases h : a < b
  · rw [Int.min_eq_left (by omega)]
    go_enter Try.func95, Try.ntmps95
    go_wp2
    go_ret
    exact ⟨rfl, rfl⟩
  · rw [Int.min_eq_right (by omega)]
    go_enter Try.func95, Try.ntmps95
    go_wp2
    go_ret
    exact ⟨rfl, rfl⟩
theorem l1Most_any (a b : Int) (w : World) :
    Calls Try.prog 73 #[.int .i64 a, .int .i64 b] w fun e w' => e = .returned (.int .i64 (max a b)) ∧ w = w' := by
  by_cases h : a > b
  · rw [Int.max_eq_left (by omega)]
    go_enter Try.func73, Try.ntmps73
    go_wp2
    go_ret
    exact ⟨rfl, rfl⟩
  · rw [Int.max_eq_right (by omega)]
    go_enter Try.func73, Try.ntmps73
    go_wp2
    go_ret
    exact ⟨rfl, rfl⟩
end Go.Proofs.Ytdbcbaahjhaonaa
