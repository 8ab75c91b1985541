/-
  The laws' own helpers on lists of strings: the size of an argument, its copy, equality, marks. Conditions: none of theirs.
-/
import Derived.Test.YtpdohkcidlcboaaBase
namespace Go.My
open Go.RowKit
def sCells (xs : List ByteArray) : List Value := xs.map Value.string
theorem sCells_len (xs : List ByteArray) : (sCells xs).length = xs.length * 1 := by simp [sCells]
theorem sCells_one (xs : List ByteArray) : ∀ u ∈ sCells xs, u.oneCell' = true := by
  intro u hu
  obtain ⟨s, _, rfl⟩ := List.mem_map.1 hu
  rfl
theorem sCells_append (xs ys : List ByteArray) : sCells (xs ++ ys) = sCells xs ++ sCells ys := by simp [sCells]
theorem sCells_succ (xs : List ByteArray) (k : Nat) (hk : k < xs.length) : sCells (xs.take (k + 1)) = sCells (xs.take k) ++ [.string xs[k]] := by
  unfold sCells
  rw [List.take_succ_eq_append_getElem hk, List.map_append]
  rfl
theorem Rd.strs {w : World} {A : Option Addr} {xs : List ByteArray} (h : Rd w A (sCells xs)) {k : Nat} (hk : k < xs.length) :
    ∃ b off, A = some ⟨b, off, none⟩ ∧ w.cell? ⟨b, off + k, none⟩ = some (.string xs[k]) := by
  rcases h with h | ⟨b, off, rfl, hc⟩
  · have : (sCells xs).length = 0 := by rw [h]; rfl
    rw [sCells_len] at this; omega
  · refine ⟨b, off, rfl, ?_⟩
    have := hc k (by rw [sCells_len]; omega)
    rw [this]; simp [sCells]
def sMarks (k : Int) : Nat → List ByteArray
  | 0 => []
  | n + 1 => sMarks k n ++ [mtext (k + n)]
theorem sMarks_len (k : Int) (n : Nat) : (sMarks k n).length = n := by
  induction n with
  | zero => rfl
  | succ n ih => simp [sMarks, ih]
theorem sMarks_get (k : Int) (n i : Nat) (h : i < (sMarks k n).length) : (sMarks k n)[i] = mtext (k + i) := by
  induction n with
  | zero => simp [sMarks] at h
  | succ n ih =>
    simp only [sMarks]
    by_cases hi : i < (sMarks k n).length
    · rw [List.getElem_append_left hi, ih hi]
    · have : i = n := by rw [sMarks_len] at h hi; omega
      subst this
      rw [List.getElem_append_right (by omega)]
      simp
theorem sMarks_succ (k : Int) (n : Nat) : sCells (sMarks k (n + 1)) = sCells (sMarks k n) ++ [.string (mtext (k + n))] := by simp [sMarks, sCells]
theorem Rd.strsHeld {w : World} {A : Option Addr} {k : Int} {n j : Nat} (h : Rd w A (sCells (sMarks k n))) (hj : j < n) :
    ∃ b off, A = some ⟨b, off, none⟩ ∧ w.cell? ⟨b, off + j, none⟩ = some (.string (mtext (k + j))) := by
  have hl : j < (sMarks k n).length := by rw [sMarks_len]; exact hj
  obtain ⟨b, off, rfl, c0⟩ := Rd.strs h hl
  rw [sMarks_get] at c0
  exact ⟨b, off, rfl, c0⟩
def sGo (left : Int) : List ByteArray → Int
  | [] => left
  | s :: r => if left - s.size < 0 then -1 else sGo (left - s.size) r
def sSz (left : Int) (xs : List ByteArray) : Int := if left - xs.length < 0 then -1 else sGo (left - xs.length) xs
theorem sGo_at {l : Int} {xs : List ByteArray} {k : Nat} (hk : k < xs.length) : sGo l (xs.drop k) = if l - xs[k].size < 0 then -1 else sGo (l - xs[k].size) (xs.drop (k + 1)) := by
  rw [List.drop_eq_getElem_cons hk]; rfl
theorem sGo_ok {l : Int} {xs : List ByteArray} (h : 0 ≤ sGo l xs) : sGo l xs ≤ l ∧ ∀ s ∈ xs, (s.size : Int) ≤ l := by
  induction xs generalizing l with
  | nil => simp [sGo]
  | cons s r ih =>
    simp only [sGo] at h ⊢
    by_cases h1 : l - (s.size : Int) < 0
    · rw [if_pos h1] at h; omega
    · rw [if_neg h1] at h ⊢
      obtain ⟨h2, h3⟩ := ih h
      refine ⟨by omega, fun x hx => ?_⟩
      rcases List.mem_cons.1 hx with rfl | hx
      · omega
      · have := h3 x hx; omega
theorem sSz_ok {l : Int} {xs : List ByteArray} (h : 0 ≤ sSz l xs) : sSz l xs ≤ l ∧ (xs.length : Int) ≤ l ∧ ∀ s ∈ xs, (s.size : Int) ≤ l := by
  unfold sSz at h ⊢
  by_cases h1 : l - (xs.length : Int) < 0
  · rw [if_pos h1] at h; omega
  · rw [if_neg h1] at h ⊢
    obtain ⟨h2, h3⟩ := sGo_ok h
    exact ⟨by omega, by omega, fun s hs => by have := h3 s hs; omega⟩
end Go.My
namespace Go.Proofs.Ytpdohkcidlcboaa
open Go.RowKit Go.My
theorem el_Str : ElemOk Try.prog 27 9 1 16 := elemOk_mk Try.underlying27 (by kernel_rfl) (z := .string ⟨#[]⟩) rfl (by decide)
set_option maxHeartbeats 400000 in
theorem szStringS_any (A : Option Addr) (c : Nat) (xs : List ByteArray) (l : Int) (w : World) (h0 : 0 ≤ l) (h1 : l ≤ 1048576) (hn : xs.length ≤ maxLen) (hx : Rd w A (sCells xs)) (hs : ∀ s ∈ xs, s.size ≤ maxLen) :
    Calls Try.prog 18 #[.slice A xs.length c, .int .i64 l] w fun e w' => e = .returned (.int .i64 (sSz l xs)) ∧ Below w.heap.size w w' := by
  unfold maxLen at hn
  by_cases h : l - (xs.length : Int) < 0
  · rw [show sSz l xs = -1 by unfold sSz; rw [if_pos h]]
    go_enter Try.func18, Try.ntmps18
    go_wp2
    go_ret
    exact ⟨rfl, Below.refl _ _⟩
  · have HT : Hid (sSz l xs = sGo (l - xs.length) xs) := by
      show sSz l xs = _
      unfold sSz; rw [if_neg h]
    go_enter Try.func18, Try.ntmps18
    go_wp2
    go_loop [1, 5] (fun le i => ∃ k : Nat, ∃ m : Int, k ≤ xs.length ∧ 0 ≤ m ∧ m ≤ 1048576 ∧ i = .int .i64 k ∧ le = .int .i64 m ∧ Hid (sGo (l - xs.length) xs = sGo m (xs.drop k))) (fun _ i => xs.length - (intOf i).toNat)
    case atStart => exact ⟨0, _, by omega, by omega, by omega, rfl, rfl, rfl⟩
    case round =>
      obtain ⟨k, m, hk, hm0, hm1, rfl, rfl, H⟩ := hrel
      by_cases hlt : k < xs.length
      · obtain ⟨b, off, rfl, c0⟩ := Rd.strs hx hlt
        have hsz := hs xs[k] (List.getElem_mem _)
        have Hn := Lib.hid (H.out.trans (sGo_at hlt))
        clear H
        unfold maxLen at hsz
        generalize xs[k] = s at *
        by_cases hz : m - (s.size : Int) < 0
        · have Hf := Lib.hid (Hn.out.trans (if_pos hz))
          clear Hn
          go_wp2
          go_ret
          exact ⟨by rw [HT.out, Hf.out]; rfl, Below.refl _ _⟩
        · have Hf := Lib.hid (Hn.out.trans (if_neg hz))
          clear Hn
          go_wp2
          go_round
          case rel => exact ⟨k + 1, _, by omega, by omega, by omega, by go_num, rfl, Hf⟩
          case measure => simp [intOf]; omega
      · have Hf := Lib.hid (H.out.trans (by rw [List.drop_eq_nil_of_le (by omega)]))
        clear H
        go_wp2
        go_ret
        exact ⟨by rw [HT.out, Hf.out]; rfl, Below.refl _ _⟩
set_option maxHeartbeats 1000000 in
theorem toStringS_any (A : Option Addr) (c : Nat) (xs : List ByteArray) (w : World) (hn : xs.length ≤ 1048576) (hx : Rd w A (sCells xs)) :
    Calls Try.prog 20 #[.slice A xs.length c] w fun e w' => ∃ A' c', e = .returned (.slice A' xs.length c') ∧ w'.ownsRow w.heap.size 9 1 (.slice A' xs.length c') xs.length (sCells xs) ∧ Below w.heap.size w w' := by
  go_enter Try.func20, Try.ntmps20
  go_wp2_with (at_make; refine wpl_make rfl (.tmp 6) (.tmp 6) 27 rfl el_Str rfl rfl rfl rfl (by omega) (by unfold maxLen; omega) (Nat.le_refl _) ?_; intro L0 w1 hL0 ho1 hg1)
  go_loopw [4] (fun i wr => ∃ k : Nat, ∃ L : List Value, k ≤ xs.length ∧ i = .int .i64 k ∧ Hid (L.length = xs.length * 1) ∧ Hid (L.take k = sCells (xs.take k)) ∧ wr.ownsRow w.heap.size 9 1 (.slice (some ⟨w.heap.size, 0, none⟩) xs.length xs.length) xs.length L ∧ Below w.heap.size w wr) (fun i _ => xs.length - (intOf i).toNat)
  case atStart => exact ⟨0, L0, by omega, rfl, hL0, by simp [Hid, sCells], ho1, below_grown hg1 (Nat.le_refl _) (by simp)⟩
  case round =>
    obtain ⟨k, L, hk, rfl, hL, H, ho, hb⟩ := hrel
    clear ho1 hg1 hL0
    by_cases hlt : k < xs.length
    · obtain ⟨b, off, rfl, c0⟩ := Rd.strs (hx.below hb) hlt
      have Hs := Lib.hid (sCells_succ xs k hlt)
      generalize xs[k] = s at *
      obtain ⟨u0, f0⟩ := own_some ho k (by omega)
      have z0 := ho.frozenAt k
      have g0 := cell_after c0
      have Hm : Hid ((L.set k (.string s)).take (k + 1) = sCells (xs.take (k + 1))) := by
        show _ = _
        rw [take_set_next _ _ _ (by have := hL.out; omega), H.out, Hs.out]
      clear H Hs hx
      go_wp2
      go_roundw
      case rel => exact ⟨k + 1, _, by omega, by go_num, by simpa using hL, Hm, own_set ho _ _, hb.setCell (Nat.le_refl _) _⟩
      case measure => simp [intOf]; omega
    · have hL' := hL.out
      have HL : Hid (L = sCells xs) := by
        have := H.out
        rw [List.take_of_length_le (by omega), List.take_of_length_le (by omega)] at this
        exact this
      clear H hL hL'
      go_wp2
      go_ret
      exact ⟨_, _, rfl, HL.out ▸ ho, hb⟩
set_option maxHeartbeats 400000 in
theorem eqStringS_same (A A' : Option Addr) (c c' : Nat) (xs : List ByteArray) (w : World) (hn : xs.length ≤ maxLen) (hx : Rd w A (sCells xs)) (hx' : Rd w A' (sCells xs)) :
    Calls Try.prog 15 #[.slice A xs.length c, .slice A' xs.length c'] w fun e w' => e = .returned (.bool true) ∧ Below w.heap.size w w' := by
  unfold maxLen at hn
  go_enter Try.func15, Try.ntmps15
  go_wp2
  go_loopw [5] (fun i wr => ∃ k : Nat, k ≤ xs.length ∧ i = .int .i64 k ∧ Below w.heap.size w wr) (fun i _ => xs.length - (intOf i).toNat)
  case atStart => exact ⟨0, by omega, rfl, Below.refl _ _⟩
  case round =>
    obtain ⟨k, hk, rfl, hb⟩ := hrel
    by_cases hlt : k < xs.length
    · obtain ⟨b, off, rfl, c0⟩ := Rd.strs (hx.below hb) hlt
      obtain ⟨b', off', rfl, d0⟩ := Rd.strs (hx'.below hb) hlt
      have g0 := cell_after c0
      have q0 := cell_after d0
      have hkI : (k : Int) < (xs.length : Int) := by omega
      clear hx hx' c0 d0
      generalize hs : xs[k] = s at *
      clear hs
      go_wp2_with fail
      refine wp_region_after (by kernel_rfl) (by kernel_rfl) ?_
      repeat (go_big_quiet_step (fail))
      refine wpQuiet_nil ?_
      intro nq
      go_wp2
      go_roundw
      case rel => exact ⟨k + 1, by omega, by go_num, btr hb nq.bel⟩
      case measure => simp [intOf]; omega
    · go_wp2
      go_ret
      exact ⟨rfl, hb⟩
set_option maxHeartbeats 1000000 in
theorem markStringS_any (A : Option Addr) (c : Nat) (B n : Nat) (cs : List Value) (k : Int) (w : World) (h0 : 0 ≤ k) (h1 : k ≤ 8000000) (hn : n ≤ 2097152) (hx : w.ownsRow B 9 1 (.slice A n c) n cs) :
    Calls Try.prog 16 #[.slice A n c, .int .i64 k] w fun e w' => e = .returned (.int .i64 (k + n)) ∧ w'.ownsRow B 9 1 (.slice A n c) n (sCells (sMarks k n)) ∧ w.grownBy w' (Value.slice A n c).ownBlock := by
  go_enter Try.func16, Try.ntmps16
  go_wp2
  go_loopw [1, 5] (fun q i wr => ∃ j : Nat, ∃ L : List Value, j ≤ n ∧ i = .int .i64 j ∧ q = .int .i64 (k + j) ∧ Hid (L.length = n * 1) ∧ Hid (L.take j = sCells (sMarks k j)) ∧ wr.ownsRow B 9 1 (.slice A n c) n L ∧ w.grownBy wr (Value.slice A n c).ownBlock) (fun _ i _ => n - (intOf i).toNat)
  case atStart => exact ⟨0, cs, by omega, rfl, by simp, hx.1, by simp [Hid, sMarks, sCells], hx, World.grownBy.refl _ _⟩
  case round =>
    obtain ⟨j, L, hj, rfl, rfl, hL, H, ho, hg⟩ := hrel
    clear hx
    by_cases hlt : j < n
    · obtain ⟨g, rfl, hB, hgs⟩ := own_at ho (by omega)
      go_wp2_with fail
      refine (markText_any _ _ (by omega)).mono ?_
      rintro e w2 ⟨rfl, hb2⟩
      have ho2 := own_below ho hb2
      obtain ⟨u0, f0⟩ := own_some ho2 j (by omega)
      have z0 := ho2.frozenAt j
      have Hm : Hid ((L.set j (.string (mtext (k + j)))).take (j + 1) = sCells (sMarks k (j + 1))) := by
        show _ = _
        rw [take_set_next _ _ _ (by have := hL.out; omega), H.out, sMarks_succ]
      clear H
      generalize mtext (k + j) = t at *
      go_wp2
      go_roundw
      case rel => exact ⟨j + 1, _, by omega, by go_num, by go_num, by simpa using hL, Hm, own_set ho2 _ _, grown_set (grown_below hg hb2) _ _⟩
      case measure => simp [intOf]; omega
    · have hL' := hL.out
      have HL : Hid (L = sCells (sMarks k n)) := by
        have := H.out
        rw [List.take_of_length_le (by omega), show j = n by omega] at this
        exact this
      have hjn : j = n := by omega
      have HJ := Lib.hid hjn
      clear H hL hL' hjn
      go_wp2
      go_ret
      exact ⟨by rw [HJ.out]; rfl, HL.out ▸ ho, hg⟩
set_option maxHeartbeats 1000000 in
theorem heldStringS_any (A : Option Addr) (c : Nat) (n : Nat) (k : Int) (w : World) (h0 : 0 ≤ k) (h1 : k ≤ 8000000) (hn : n ≤ 2097152) (hx : Rd w A (sCells (sMarks k n))) :
    Calls Try.prog 17 #[.slice A n c, .int .i64 k] w fun e w' => e = .returned (.int .i64 (k + n)) ∧ Below w.heap.size w w' := by
  go_enter Try.func17, Try.ntmps17
  go_wp2
  go_loopw [1, 5] (fun q i wr => ∃ j : Nat, j ≤ n ∧ i = .int .i64 j ∧ q = .int .i64 (k + j) ∧ Below w.heap.size w wr) (fun _ i _ => n - (intOf i).toNat)
  case atStart => exact ⟨0, by omega, rfl, by simp, Below.refl _ _⟩
  case round =>
    obtain ⟨j, hj, rfl, rfl, hb⟩ := hrel
    by_cases hlt : j < n
    · obtain ⟨b, off, rfl, c0⟩ := Rd.strsHeld (hx.below hb) hlt
      have g0 := cell_after c0
      have hjI : (j : Int) < (n : Int) := by omega
      clear hx c0
      go_wp2_with fail
      refine wp_region_after (by kernel_rfl) (by kernel_rfl) ?_
      repeat (go_big_quiet_step ((go_at_call 29; exact Calls.after (markText_any _ _ (by omega)))))
      refine wpQuiet_nil ?_
      intro nq
      generalize mtext (k + j) = t at *
      go_wp2
      go_roundw
      case rel => exact ⟨j + 1, by omega, by go_num, by go_num, btr hb nq.bel⟩
      case measure => simp [intOf]; omega
    · have HJ := Lib.hid (show j = n by omega)
      go_wp2
      go_ret
      exact ⟨by rw [HJ.out]; rfl, hb⟩
end Go.Proofs.Ytpdohkcidlcboaa
