/-
  The laws' own helpers on sections: the size of an argument, its copy, equality, marks. Conditions: none of theirs.
-/
import Derived.Test.YteeelkiapccdoaaDoorBase
namespace Go.My
open Go.RowKit
structure Sec where
  d : Int
  t : ByteArray
def Sec.cells (s : Sec) : List Value := [.int .i64 s.d, .string s.t]
def secCells (xs : List Sec) : List Value := xs.flatMap Sec.cells
theorem secCells_len (xs : List Sec) : (secCells xs).length = xs.length * 2 := flat_length _ 2 (fun _ => rfl) xs
theorem secCells_one (xs : List Sec) : ∀ u ∈ secCells xs, u.oneCell' = true := by
  intro u hu
  obtain ⟨s, _, hs⟩ := List.mem_flatMap.1 hu
  simp only [Sec.cells, List.mem_cons, List.not_mem_nil, or_false] at hs
  rcases hs with rfl | rfl <;> rfl
theorem secCells_succ (xs : List Sec) (k : Nat) (hk : k < xs.length) : secCells (xs.take (k + 1)) = secCells (xs.take k) ++ [.int .i64 xs[k].d, .string xs[k].t] := by
  unfold secCells
  rw [List.take_succ_eq_append_getElem hk, List.flatMap_append]
  rfl
theorem Rd.sec {w : World} {A : Option Addr} {xs : List Sec} (h : Rd w A (secCells xs)) {k : Nat} (hk : k < xs.length) :
    ∃ b off, A = some ⟨b, off, none⟩ ∧ w.cell? ⟨b, off + k * 2, none⟩ = some (.int .i64 xs[k].d) ∧ w.cell? ⟨b, off + k * 2 + 1, none⟩ = some (.string xs[k].t) := by
  obtain ⟨b, off, rfl, hc⟩ := Rd.at_ Sec.cells 2 (fun _ => rfl) h hk (by decide)
  exact ⟨b, off, rfl, hc 0 _ rfl, hc 1 _ rfl⟩
/-- The sections that the marks from k on make. -/
def secMarks (k : Int) : Nat → List Sec
  | 0 => []
  | n + 1 => secMarks k n ++ [⟨k + 2 * n, mtext (k + 2 * n + 1)⟩]
theorem secMarks_len (k : Int) (n : Nat) : (secMarks k n).length = n := by
  induction n with
  | zero => rfl
  | succ n ih => simp [secMarks, ih]
theorem secMarks_get (k : Int) (n i : Nat) (h : i < (secMarks k n).length) : (secMarks k n)[i] = ⟨k + 2 * i, mtext (k + 2 * i + 1)⟩ := by
  induction n with
  | zero => simp [secMarks] at h
  | succ n ih =>
    simp only [secMarks]
    by_cases hi : i < (secMarks k n).length
    · rw [List.getElem_append_left hi, ih hi]
    · have : i = n := by rw [secMarks_len] at h hi; omega
      subst this
      rw [List.getElem_append_right (by omega)]
      simp
def szGo (left : Int) : List Sec → Int
  | [] => left
  | s :: r => if szStep left s.t.size < 0 then -1 else szGo (szStep left s.t.size) r
def szSecs (left : Int) (xs : List Sec) : Int := if left - xs.length < 0 then -1 else szGo (left - xs.length) xs
theorem szGo_at {l : Int} {xs : List Sec} {k : Nat} (hk : k < xs.length) : szGo l (xs.drop k) = if szStep l xs[k].t.size < 0 then -1 else szGo (szStep l xs[k].t.size) (xs.drop (k + 1)) := by
  rw [List.drop_eq_getElem_cons hk]; rfl
theorem szGo_ok {l : Int} {xs : List Sec} (h : 0 ≤ szGo l xs) : szGo l xs ≤ l ∧ ∀ s ∈ xs, (s.t.size : Int) ≤ l := by
  induction xs generalizing l with
  | nil => simp [szGo]
  | cons s r ih =>
    simp only [szGo] at h ⊢
    by_cases h1 : szStep l s.t.size < 0
    · rw [if_pos h1] at h; omega
    · rw [if_neg h1] at h ⊢
      obtain ⟨h2, h3⟩ := ih h
      have h4 : szStep l s.t.size = l - s.t.size := by
        unfold szStep at h1 ⊢
        by_cases h5 : l - (s.t.size : Int) < 0
        · rw [if_pos h5] at h1; omega
        · rw [if_neg h5]
      rw [h4] at h1 h2 h3 ⊢
      refine ⟨by omega, fun x hx => ?_⟩
      rcases List.mem_cons.1 hx with rfl | hx
      · omega
      · have := h3 x hx; omega
theorem szSecs_ok {l : Int} {xs : List Sec} (h : 0 ≤ szSecs l xs) : szSecs l xs ≤ l ∧ (xs.length : Int) ≤ l ∧ ∀ s ∈ xs, (s.t.size : Int) ≤ l := by
  unfold szSecs at h ⊢
  by_cases h1 : l - (xs.length : Int) < 0
  · rw [if_pos h1] at h; omega
  · rw [if_neg h1] at h ⊢
    obtain ⟨h2, h3⟩ := szGo_ok h
    exact ⟨by omega, by omega, fun s hs => by have := h3 s hs; omega⟩
end Go.My
namespace Go.Proofs.YteeelkiapccdoaaDoor
open Go.RowKit Go.My
theorem el_Sec : ElemOk Tryd.prog 26 35 2 24 := elemOk_mk Tryd.underlying26 (by kernel_rfl) (z := .agg #[.int .i64 0, .string ⟨#[]⟩]) rfl (by decide)

set_option maxHeartbeats 400000 in
theorem szSection_any (s : Sec) (l : Int) (w : World) (h0 : 0 ≤ l) (h1 : l ≤ 1048576) (hs : s.t.size ≤ maxLen) :
    Calls Tryd.prog 9 #[.agg #[.int .i64 s.d, .string s.t], .int .i64 l] w fun e w' => e = .returned (.int .i64 (szStep l s.t.size)) ∧ Below w.heap.size w w' := by
  unfold maxLen at hs
  by_cases h : l - (s.t.size : Int) < 0
  · rw [show szStep l s.t.size = -1 by unfold szStep; rw [if_pos h]]
    go_enter Tryd.func9, Tryd.ntmps9
    go_wp2
    go_ret
    exact ⟨rfl, (Below.refl _ _).alloc (Nat.le_refl _) _⟩
  · rw [show szStep l s.t.size = l - s.t.size by unfold szStep; rw [if_neg h]]
    go_enter Tryd.func9, Tryd.ntmps9
    go_wp2
    go_ret
    exact ⟨rfl, (Below.refl _ _).alloc (Nat.le_refl _) _⟩
set_option maxHeartbeats 400000 in
theorem szSectionS_any (A : Option Addr) (c : Nat) (xs : List Sec) (l : Int) (w : World) (h0 : 0 ≤ l) (h1 : l ≤ 1048576) (hn : xs.length ≤ maxLen) (hx : Rd w A (secCells xs)) (hs : ∀ s ∈ xs, s.t.size ≤ maxLen) :
    Calls Tryd.prog 4 #[.slice A xs.length c, .int .i64 l] w fun e w' => e = .returned (.int .i64 (szSecs l xs)) ∧ Below w.heap.size w w' := by
  unfold maxLen at hn
  by_cases h : l - (xs.length : Int) < 0
  · rw [show szSecs l xs = -1 by unfold szSecs; rw [if_pos h]]
    go_enter Tryd.func4, Tryd.ntmps4
    go_wp2
    go_ret
    exact ⟨rfl, Below.refl _ _⟩
  · have HT : Hid (szSecs l xs = szGo (l - xs.length) xs) := by
      show szSecs l xs = _
      unfold szSecs; rw [if_neg h]
    go_enter Tryd.func4, Tryd.ntmps4
    go_wp2
    go_loopw [1, 5] (fun le i wr => ∃ k : Nat, ∃ m : Int, k ≤ xs.length ∧ 0 ≤ m ∧ m ≤ 1048576 ∧ i = .int .i64 k ∧ le = .int .i64 m ∧ Hid (szGo (l - xs.length) xs = szGo m (xs.drop k)) ∧ Below w.heap.size w wr) (fun _ i _ => xs.length - (intOf i).toNat)
    case atStart => exact ⟨0, _, by omega, by omega, by omega, rfl, rfl, rfl, Below.refl _ _⟩
    case round =>
      obtain ⟨k, m, hk, hm0, hm1, rfl, rfl, H, hb⟩ := hrel
      by_cases hlt : k < xs.length
      · obtain ⟨b, off, rfl, c1, c2⟩ := Rd.sec (hx.below hb) hlt
        have hsz := hs xs[k] (List.getElem_mem _)
        have Hn := Lib.hid (H.out.trans (szGo_at hlt))
        clear H
        have Hz : Hid (0 ≤ szStep m xs[k].t.size → szStep m xs[k].t.size ≤ m) := by
          intro hz
          unfold szStep at hz ⊢
          split <;> omega
        generalize hd : xs[k].d = d at *
        generalize ht : xs[k].t = t at *
        clear hd ht
        by_cases hz : szStep m t.size < 0
        · have Hf := Lib.hid (Hn.out.trans (if_pos hz))
          clear Hn
          go_wp2_with (go_at_call 9; refine (szSection_any ⟨d, t⟩ _ _ hm0 hm1 hsz).mono ?_; rintro e w1 ⟨rfl, hb1⟩; dsimp only)
          go_ret
          exact ⟨by rw [HT.out, Hf.out]; rfl, btr hb hb1⟩
        · have Hf := Lib.hid (Hn.out.trans (if_neg hz))
          have hle := Hz.out (by omega)
          clear Hn Hz
          go_wp2_with (go_at_call 9; refine (szSection_any ⟨d, t⟩ _ _ hm0 hm1 hsz).mono ?_; rintro e w1 ⟨rfl, hb1⟩; dsimp only)
          go_roundw
          case rel => exact ⟨k + 1, _, by omega, by omega, by omega, by go_num, rfl, Hf, hb.trans (hb1.mono hb.size)⟩
          case measure => simp [intOf]; omega
      · have Hf := Lib.hid (H.out.trans (by rw [List.drop_eq_nil_of_le (by omega)]))
        clear H
        go_wp2
        go_ret
        exact ⟨by rw [HT.out, Hf.out]; rfl, hb⟩
set_option maxHeartbeats 400000 in
theorem toSection_any (s : Sec) (w : World) :
    Calls Tryd.prog 12 #[.agg #[.int .i64 s.d, .string s.t]] w fun e w' => e = .returned (.agg #[.int .i64 s.d, .string s.t]) ∧ Below w.heap.size w w' := by
  go_enter Tryd.func12, Tryd.ntmps12
  go_wp2
  exact bodyPost_ret (v := .agg #[.int .i64 s.d, .string s.t]) (by simp [results, Tryd.results12, go_sem]) rfl ⟨rfl, bnew (bnew (bnew (Below.refl _ _) _) _) _⟩
set_option maxHeartbeats 400000 in
theorem toSectionS_any (A : Option Addr) (c : Nat) (xs : List Sec) (w : World) (hn : xs.length ≤ 1048576) (hx : Rd w A (secCells xs)) :
    Calls Tryd.prog 6 #[.slice A xs.length c] w fun e w' => ∃ A' c', e = .returned (.slice A' xs.length c') ∧ w'.ownsRow w.heap.size 35 2 (.slice A' xs.length c') xs.length (secCells xs) ∧ Below w.heap.size w w' := by
  go_enter Tryd.func6, Tryd.ntmps6
  go_wp2_with (at_make; refine wpl_make rfl (.tmp 6) (.tmp 6) 26 rfl el_Sec rfl rfl rfl rfl (by omega) (by unfold maxLen; omega) (Nat.le_refl _) ?_; intro L0 w1 hL0 ho1 hg1)
  go_loopw [4] (fun i wr => ∃ k : Nat, ∃ L : List Value, k ≤ xs.length ∧ i = .int .i64 k ∧ Hid (L.length = xs.length * 2) ∧ Hid (L.take (k * 2) = secCells (xs.take k)) ∧ wr.ownsRow w.heap.size 35 2 (.slice (some ⟨w.heap.size, 0, none⟩) xs.length xs.length) xs.length L ∧ Below w.heap.size w wr) (fun i _ => xs.length - (intOf i).toNat)
  case atStart => exact ⟨0, L0, by omega, rfl, hL0, by simp [Hid, secCells], ho1, below_grown hg1 (Nat.le_refl _) (by simp)⟩
  case round =>
    obtain ⟨k, L, hk, rfl, hL, H, ho, hb⟩ := hrel
    clear ho1 hg1 hL0
    by_cases hlt : k < xs.length
    · obtain ⟨b, off, rfl, c1, c2⟩ := Rd.sec (hx.below hb) hlt
      have Hs := Lib.hid (secCells_succ xs k hlt)
      generalize xs[k] = s at *
      have hlL := hL.out
      go_wp2_with fail
      refine (toSection_any s _).mono ?_
      rintro e w2 ⟨rfl, hb2⟩
      have ho2 := own_below ho hb2
      obtain ⟨u1, f1⟩ := own_some ho2 (k * 2) (by omega)
      obtain ⟨u2, f2⟩ := own_some ho2 (k * 2 + 1) (by omega)
      have z1 := ho2.frozenAt (k * 2)
      have z2 := ho2.frozenAt (k * 2 + 1)
      have Hn : Hid (((L.set (k * 2) (.int .i64 s.d)).set (k * 2 + 1) (.string s.t)).take ((k + 1) * 2) = secCells (xs.take (k + 1))) := by
        show _ = _
        rw [Hs.out, show (k + 1) * 2 = k * 2 + 1 + 1 by omega, take_set_next _ _ _ (by simp; omega), take_set_next _ _ _ (by omega), H.out]
        simp
      clear H Hs hlL
      go_wp2
      go_roundw
      case rel => exact ⟨k + 1, _, by omega, by go_num, by simpa using hL, Hn, own_set (own_set ho2 _ _) _ _, ((btr hb hb2).setCell (Nat.le_refl _) _).setCell (Nat.le_refl _) _⟩
      case measure => simp [intOf]; omega
    · have hL' := hL.out
      have HL : Hid (L = secCells xs) := by
        have := H.out
        rw [List.take_of_length_le (by omega), List.take_of_length_le (by omega)] at this
        exact this
      clear H hL hL'
      go_wp2
      go_ret
      exact ⟨_, _, rfl, HL.out ▸ ho, hb⟩
set_option maxHeartbeats 400000 in
theorem eqSection_same (s : Sec) (w : World) :
    Calls Tryd.prog 15 #[.agg #[.int .i64 s.d, .string s.t], .agg #[.int .i64 s.d, .string s.t]] w fun e w' => e = .returned (.bool true) ∧ Below w.heap.size w w' := by
  go_enter Tryd.func15, Tryd.ntmps15
  go_wp2
  go_ret
  exact ⟨rfl, ((Below.refl _ _).alloc (Nat.le_refl _) _).alloc (by simp) _⟩
set_option maxHeartbeats 400000 in
theorem eqSectionS_same (A A' : Option Addr) (c c' : Nat) (xs : List Sec) (w : World) (hn : xs.length ≤ maxLen) (hx : Rd w A (secCells xs)) (hx' : Rd w A' (secCells xs)) :
    Calls Tryd.prog 8 #[.slice A xs.length c, .slice A' xs.length c'] w fun e w' => e = .returned (.bool true) ∧ Below w.heap.size w w' := by
  unfold maxLen at hn
  go_enter Tryd.func8, Tryd.ntmps8
  go_wp2
  go_loopw [5] (fun i wr => ∃ k : Nat, k ≤ xs.length ∧ i = .int .i64 k ∧ Below w.heap.size w wr) (fun i _ => xs.length - (intOf i).toNat)
  case atStart => exact ⟨0, by omega, rfl, Below.refl _ _⟩
  case round =>
    obtain ⟨k, hk, rfl, hb⟩ := hrel
    by_cases hlt : k < xs.length
    · obtain ⟨b, off, rfl, c1, c2⟩ := Rd.sec (hx.below hb) hlt
      obtain ⟨b', off', rfl, c1', c2'⟩ := Rd.sec (hx'.below hb) hlt
      have g1 := cell_after c1
      have g2 := cell_after c2
      have g1' := cell_after c1'
      have g2' := cell_after c2'
      have hkI : (k : Int) < (xs.length : Int) := by omega
      clear hx hx'
      generalize hs : xs[k] = s at *
      clear hs
      go_wp2_with fail
      refine wp_region_after (by kernel_rfl) (by kernel_rfl) ?_
      repeat (go_big_quiet_step ((go_at_call 15; exact Calls.after (eqSection_same s _))))
      refine wpQuiet_nil ?_
      intro nq
      go_wp2
      go_roundw
      case rel => exact ⟨k + 1, by omega, by go_num, hb.trans (nq.bel.mono hb.size)⟩
      case measure => simp [intOf]; omega
    · go_wp2
      go_ret
      exact ⟨rfl, hb⟩
end Go.Proofs.YteeelkiapccdoaaDoor
