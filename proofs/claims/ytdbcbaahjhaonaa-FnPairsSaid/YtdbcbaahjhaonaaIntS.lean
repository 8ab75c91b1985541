/-
  The laws' own helpers on lists of ints: equality, marks; a row of ints that grows. Conditions: none of theirs.
-/
import Derived.Test.YtdbcbaahjhaonaaBase
namespace Go.My
open Go.RowKit
def intCells (xs : List Int) : List Value := xs.map (Value.int .i64)
theorem intCells_len (xs : List Int) : (intCells xs).length = xs.length * 1 := by simp [intCells]
theorem intCells_one (xs : List Int) : ∀ u ∈ intCells xs, u.oneCell' = true := by
  intro u hu
  obtain ⟨s, _, rfl⟩ := List.mem_map.1 hu
  rfl
theorem intCells_append (xs ys : List Int) : intCells (xs ++ ys) = intCells xs ++ intCells ys := by simp [intCells]
theorem Rd.ints {w : World} {A : Option Addr} {xs : List Int} (h : Rd w A (intCells xs)) {k : Nat} (hk : k < xs.length) :
    ∃ b off, A = some ⟨b, off, none⟩ ∧ w.cell? ⟨b, off + k, none⟩ = some (.int .i64 xs[k]) := by
  rcases h with h | ⟨b, off, rfl, hc⟩
  · have : (intCells xs).length = 0 := by rw [h]; rfl
    rw [intCells_len] at this; omega
  · refine ⟨b, off, rfl, ?_⟩
    have := hc k (by rw [intCells_len]; omega)
    rw [this]; simp [intCells]
def intMarks (k : Int) : Nat → List Int
  | 0 => []
  | n + 1 => intMarks k n ++ [k + n]
theorem intMarks_len (k : Int) (n : Nat) : (intMarks k n).length = n := by
  induction n with
  | zero => rfl
  | succ n ih => simp [intMarks, ih]
theorem intMarks_get (k : Int) (n i : Nat) (h : i < (intMarks k n).length) : (intMarks k n)[i] = k + i := by
  induction n with
  | zero => simp [intMarks] at h
  | succ n ih =>
    simp only [intMarks]
    by_cases hi : i < (intMarks k n).length
    · rw [List.getElem_append_left hi, ih hi]
    · have : i = n := by rw [intMarks_len] at h hi; omega
      subst this
      rw [List.getElem_append_right (by omega)]
      simp
theorem intMarks_succ (k : Int) (n : Nat) : intCells (intMarks k (n + 1)) = intCells (intMarks k n) ++ [.int .i64 (k + n)] := by simp [intMarks, intCells]
theorem Rd.intsHeld {w : World} {A : Option Addr} {k : Int} {n j : Nat} (h : Rd w A (intCells (intMarks k n))) (hj : j < n) :
    ∃ b off, A = some ⟨b, off, none⟩ ∧ w.cell? ⟨b, off + j, none⟩ = some (.int .i64 (k + j)) := by
  have hl : j < (intMarks k n).length := by rw [intMarks_len]; exact hj
  obtain ⟨b, off, rfl, c0⟩ := Rd.ints h hl
  rw [intMarks_get] at c0
  exact ⟨b, off, rfl, c0⟩
end Go.My
namespace Go.Proofs.Ytdbcbaahjhaonaa
open Go.RowKit Go.My
theorem el_Int : ElemOk Try.prog 33 3 1 8 := elemOk_mk Try.underlying33 (by kernel_rfl) (z := .int .i64 0) rfl (by decide)
set_option maxHeartbeats 400000 in
theorem eqIntS_same (A A' : Option Addr) (c c' : Nat) (xs : List Int) (w : World) (hn : xs.length ≤ maxLen) (hx : Rd w A (intCells xs)) (hx' : Rd w A' (intCells xs)) :
    Calls Try.prog 23 #[.slice A xs.length c, .slice A' xs.length c'] w fun e w' => e = .returned (.bool true) ∧ Below w.heap.size w w' := by
  unfold maxLen at hn
  go_enter Try.func23, Try.ntmps23
  go_wp2
  go_loopw [5] (fun i wr => ∃ k : Nat, k ≤ xs.length ∧ i = .int .i64 k ∧ Below w.heap.size w wr) (fun i _ => xs.length - (intOf i).toNat)
  case atStart => exact ⟨0, by omega, rfl, Below.refl _ _⟩
  case round =>
    obtain ⟨k, hk, rfl, hb⟩ := hrel
    by_cases hlt : k < xs.length
    · obtain ⟨b, off, rfl, c0⟩ := Rd.ints (hx.below hb) hlt
      obtain ⟨b', off', rfl, d0⟩ := Rd.ints (hx'.below hb) hlt
      have g0 := cell_after c0
      have q0 := cell_after d0
      have hkI : (k : Int) < (xs.length : Int) := by omega
      clear hx hx' c0 d0
      generalize hs : xs[k] = s at *
      clear hs
      go_wp2_with fail
      refine wp_region_after (by kernel_rfl) (by kernel_rfl) ?_
      repeat (go_big_quiet_step (fail))
      refine wpQuiet_nil ?_
      intro nq
      go_wp2
      go_roundw
      case rel => exact ⟨k + 1, by omega, by go_num, btr hb nq.bel⟩
      case measure => simp [intOf]; omega
    · go_wp2
      go_ret
      exact ⟨rfl, hb⟩
set_option maxHeartbeats 1000000 in
theorem markIntS_any (A : Option Addr) (c : Nat) (B n : Nat) (cs : List Value) (k : Int) (w : World) (h0 : 0 ≤ k) (h1 : k ≤ 8000000) (hn : n ≤ 2097152) (hx : w.ownsRow B 3 1 (.slice A n c) n cs) :
    Calls Try.prog 25 #[.slice A n c, .int .i64 k] w fun e w' => e = .returned (.int .i64 (k + n)) ∧ w'.ownsRow B 3 1 (.slice A n c) n (intCells (intMarks k n)) ∧ w.grownBy w' (Value.slice A n c).ownBlock := by
  go_enter Try.func25, Try.ntmps25
  go_wp2
  go_loopw [1, 5] (fun q i wr => ∃ j : Nat, ∃ L : List Value, j ≤ n ∧ i = .int .i64 j ∧ q = .int .i64 (k + j) ∧ Hid (L.length = n * 1) ∧ Hid (L.take j = intCells (intMarks k j)) ∧ wr.ownsRow B 3 1 (.slice A n c) n L ∧ w.grownBy wr (Value.slice A n c).ownBlock) (fun _ i _ => n - (intOf i).toNat)
  case atStart => exact ⟨0, cs, by omega, rfl, by simp, hx.1, by simp [Hid, intMarks, intCells], hx, World.grownBy.refl _ _⟩
  case round =>
    obtain ⟨j, L, hj, rfl, rfl, hL, H, ho, hg⟩ := hrel
    clear hx
    by_cases hlt : j < n
    · obtain ⟨g, rfl, hB, hgs⟩ := own_at ho (by omega)
      obtain ⟨u0, f0⟩ := own_some ho j (by omega)
      have z0 := ho.frozenAt j
      have Hm : Hid ((L.set j (.int .i64 (k + j))).take (j + 1) = intCells (intMarks k (j + 1))) := by
        show _ = _
        rw [take_set_next _ _ _ (by have := hL.out; omega), H.out, intMarks_succ]
      clear H
      go_wp2
      go_roundw
      case rel => exact ⟨j + 1, _, by omega, by go_num, by go_num, by simpa using hL, Hm, own_set ho _ _, grown_set hg _ _⟩
      case measure => simp [intOf]; omega
    · have hL' := hL.out
      have HL : Hid (L = intCells (intMarks k n)) := by
        have := H.out
        rw [List.take_of_length_le (by omega), show j = n by omega] at this
        exact this
      have hjn : j = n := by omega
      have HJ := Lib.hid hjn
      clear H hL hL' hjn
      go_wp2
      go_ret
      exact ⟨by rw [HJ.out]; rfl, HL.out ▸ ho, hg⟩
set_option maxHeartbeats 1000000 in
theorem heldIntS_any (A : Option Addr) (c : Nat) (n : Nat) (k : Int) (w : World) (h0 : 0 ≤ k) (h1 : k ≤ 8000000) (hn : n ≤ 2097152) (hx : Rd w A (intCells (intMarks k n))) :
    Calls Try.prog 26 #[.slice A n c, .int .i64 k] w fun e w' => e = .returned (.int .i64 (k + n)) ∧ Below w.heap.size w w' := by
  go_enter Try.func26, Try.ntmps26
  go_wp2
  go_loopw [1, 5] (fun q i wr => ∃ j : Nat, j ≤ n ∧ i = .int .i64 j ∧ q = .int .i64 (k + j) ∧ Below w.heap.size w wr) (fun _ i _ => n - (intOf i).toNat)
  case atStart => exact ⟨0, by omega, rfl, by simp, Below.refl _ _⟩
  case round =>
    obtain ⟨j, hj, rfl, rfl, hb⟩ := hrel
    by_cases hlt : j < n
    · obtain ⟨b, off, rfl, c0⟩ := Rd.intsHeld (hx.below hb) hlt
      have e0 : ((k + (j : Int)) != (k + (j : Int))) = false := by simp
      have hjI : (j : Int) < (n : Int) := by omega
      clear hx
      go_wp2
      go_roundw
      case rel => exact ⟨j + 1, by omega, by go_num, by go_num, hb⟩
      case measure => simp [intOf]; omega
    · have HJ := Lib.hid (show j = n by omega)
      go_wp2
      go_ret
      exact ⟨by rw [HJ.out]; rfl, hb⟩
end Go.Proofs.Ytdbcbaahjhaonaa
