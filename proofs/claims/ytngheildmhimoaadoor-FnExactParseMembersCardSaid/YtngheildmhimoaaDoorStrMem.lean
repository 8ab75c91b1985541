/-
  The laws' own helpers on Member: the size of an argument, its copy, equality, marks. Conditions: none of theirs.
-/
import Derived.Test.YtngheildmhimoaaDoorBase
namespace Go.My
open Go.RowKit
structure Mem where
  num : Int
  name : ByteArray
  off : Int
def Mem.cells (s : Mem) : List Value := [.int .i64 s.num, .string s.name, .int .i64 s.off]
def memCells (xs : List Mem) : List Value := xs.flatMap Mem.cells
theorem memCells_len (xs : List Mem) : (memCells xs).length = xs.length * 3 := flat_length _ 3 (fun _ => rfl) xs
theorem Mem.cells_one (s : Mem) : ∀ u ∈ s.cells, u.oneCell' = true := by simp [Mem.cells, Value.oneCell']
theorem memCells_one (xs : List Mem) : ∀ u ∈ memCells xs, u.oneCell' = true := by
  intro u hu
  obtain ⟨s, _, hs⟩ := List.mem_flatMap.1 hu
  exact s.cells_one u hs
theorem memCells_succ (xs : List Mem) (k : Nat) (hk : k < xs.length) : memCells (xs.take (k + 1)) = memCells (xs.take k) ++ [.int .i64 xs[k].num, .string xs[k].name, .int .i64 xs[k].off] := by
  unfold memCells
  rw [List.take_succ_eq_append_getElem hk, List.flatMap_append]
  rfl
theorem Rd.mem {w : World} {A : Option Addr} {xs : List Mem} (h : Rd w A (memCells xs)) {k : Nat} (hk : k < xs.length) :
    ∃ b off, A = some ⟨b, off, none⟩ ∧ w.cell? ⟨b, off + k * 3, none⟩ = some (.int .i64 xs[k].num) ∧ w.cell? ⟨b, off + k * 3 + 1, none⟩ = some (.string xs[k].name) ∧ w.cell? ⟨b, off + k * 3 + 2, none⟩ = some (.int .i64 xs[k].off) := by
  obtain ⟨b, off, rfl, hc⟩ := Rd.at_ Mem.cells 3 (fun _ => rfl) h hk (by decide)
  exact ⟨b, off, rfl, hc 0 _ rfl, hc 1 _ rfl, hc 2 _ rfl⟩
/-- What the marks from k on make of one element. -/
def Mem.mark (k : Int) : Mem := ⟨(k), (mtext (k + 1)), (k + 2)⟩
def memMarks (k : Int) : Nat → List Mem
  | 0 => []
  | n + 1 => memMarks k n ++ [Mem.mark (k + 3 * n)]
theorem memMarks_len (k : Int) (n : Nat) : (memMarks k n).length = n := by
  induction n with
  | zero => rfl
  | succ n ih => simp [memMarks, ih]
theorem memMarks_get (k : Int) (n i : Nat) (h : i < (memMarks k n).length) : (memMarks k n)[i] = Mem.mark (k + 3 * i) := by
  induction n with
  | zero => simp [memMarks] at h
  | succ n ih =>
    simp only [memMarks]
    by_cases hi : i < (memMarks k n).length
    · rw [List.getElem_append_left hi, ih hi]
    · have : i = n := by rw [memMarks_len] at h hi; omega
      subst this
      rw [List.getElem_append_right (by omega)]
      simp
theorem memMarks_succ (k : Int) (n : Nat) : memCells (memMarks k (n + 1)) = memCells (memMarks k n) ++ (Mem.mark (k + 3 * n)).cells := by
  simp [memMarks, memCells]
theorem mem_sets (L : List Value) (p : Nat) (v0 v1 v2 : Value) (h : p + 3 ≤ L.length) : (((L.set (p) v0).set (p + 1) v1).set (p + 2) v2).take (p + 3) = L.take p ++ [v0, v1, v2] := by
  rw [show p + 3 = p + 2 + 1 from rfl, take_set_next _ _ _ (by simp only [List.length_set]; omega), show p + 2 = p + 1 + 1 from rfl, take_set_next _ _ _ (by simp only [List.length_set]; omega), take_set_next _ _ _ (by omega)]
  simp
def memGo (left : Int) : List Mem → Int
  | [] => left
  | s :: r => if szStep left s.name.size < 0 then -1 else memGo (szStep left s.name.size) r
def memSz (left : Int) (xs : List Mem) : Int := if left - xs.length < 0 then -1 else memGo (left - xs.length) xs
theorem memGo_at {l : Int} {xs : List Mem} {k : Nat} (hk : k < xs.length) : memGo l (xs.drop k) = if szStep l xs[k].name.size < 0 then -1 else memGo (szStep l xs[k].name.size) (xs.drop (k + 1)) := by
  rw [List.drop_eq_getElem_cons hk]; rfl
theorem memGo_ok {l : Int} {xs : List Mem} (h : 0 ≤ memGo l xs) : memGo l xs ≤ l ∧ ∀ s ∈ xs, (s.name.size : Int) ≤ l := by
  induction xs generalizing l with
  | nil => simp [memGo]
  | cons s r ih =>
    simp only [memGo] at h ⊢
    by_cases h1 : szStep l s.name.size < 0
    · rw [if_pos h1] at h; omega
    · rw [if_neg h1] at h ⊢
      obtain ⟨h2, h3⟩ := ih h
      have h4 : szStep l s.name.size = l - s.name.size := by
        unfold szStep at h1 ⊢
        by_cases h5 : l - (s.name.size : Int) < 0
        · rw [if_pos h5] at h1; omega
        · rw [if_neg h5]
      rw [h4] at h1 h2 h3 ⊢
      refine ⟨by omega, fun x hx => ?_⟩
      rcases List.mem_cons.1 hx with rfl | hx
      · omega
      · have := h3 x hx; omega
theorem memSz_ok {l : Int} {xs : List Mem} (h : 0 ≤ memSz l xs) : memSz l xs ≤ l ∧ (xs.length : Int) ≤ l ∧ ∀ s ∈ xs, (s.name.size : Int) ≤ l := by
  unfold memSz at h ⊢
  by_cases h1 : l - (xs.length : Int) < 0
  · rw [if_pos h1] at h; omega
  · rw [if_neg h1] at h ⊢
    obtain ⟨h2, h3⟩ := memGo_ok h
    exact ⟨by omega, by omega, fun s hs => by have := h3 s hs; omega⟩
theorem szStep_ok {l n : Int} (h : 0 ≤ szStep l n) : szStep l n ≤ l - n ∧ n ≤ l := by
  unfold szStep at h ⊢
  split at h <;> split <;> omega
end Go.My
namespace Go.Proofs.YtngheildmhimoaaDoor
open Go.RowKit Go.My
theorem el_Mem : ElemOk Tryd.prog 26 39 3 32 := elemOk_mk Tryd.underlying26 (by kernel_rfl) (z := .agg #[.int .i64 0, .string ⟨#[]⟩, .int .i64 0]) rfl (by decide)
set_option maxHeartbeats 400000 in
theorem szMember_any (s : Mem) (l : Int) (w : World) (h0 : 0 ≤ l) (h1 : l ≤ 1048576) (hs : s.name.size ≤ maxLen) :
    Calls Tryd.prog 14 #[.agg #[.int .i64 s.num, .string s.name, .int .i64 s.off], .int .i64 l] w fun e w' => e = .returned (.int .i64 (szStep l s.name.size)) ∧ Below w.heap.size w w' := by
  unfold maxLen at hs
  by_cases h : l - (s.name.size : Int) < 0
  · rw [show szStep l s.name.size = -1 by unfold szStep; rw [if_pos h]]
    go_enter Tryd.func14, Tryd.ntmps14
    go_wp2
    go_ret
    exact ⟨rfl, (Below.refl _ _).alloc (Nat.le_refl _) _⟩
  · rw [show szStep l s.name.size = l - s.name.size by unfold szStep; rw [if_neg h]]
    go_enter Tryd.func14, Tryd.ntmps14
    go_wp2
    go_ret
    exact ⟨rfl, (Below.refl _ _).alloc (Nat.le_refl _) _⟩
set_option maxHeartbeats 400000 in
theorem szMemberS_any (A : Option Addr) (c : Nat) (xs : List Mem) (l : Int) (w : World) (h0 : 0 ≤ l) (h1 : l ≤ 1048576) (hn : xs.length ≤ maxLen) (hx : Rd w A (memCells xs)) (hs : ∀ s ∈ xs, s.name.size ≤ maxLen) :
    Calls Tryd.prog 5 #[.slice A xs.length c, .int .i64 l] w fun e w' => e = .returned (.int .i64 (memSz l xs)) ∧ Below w.heap.size w w' := by
  unfold maxLen at hn
  by_cases h : l - (xs.length : Int) < 0
  · rw [show memSz l xs = -1 by unfold memSz; rw [if_pos h]]
    go_enter Tryd.func5, Tryd.ntmps5
    go_wp2
    go_ret
    exact ⟨rfl, Below.refl _ _⟩
  · have HT : Hid (memSz l xs = memGo (l - xs.length) xs) := by
      show memSz l xs = _
      unfold memSz; rw [if_neg h]
    go_enter Tryd.func5, Tryd.ntmps5
    go_wp2
    go_loopw [1, 5] (fun le i wr => ∃ k : Nat, ∃ m : Int, k ≤ xs.length ∧ 0 ≤ m ∧ m ≤ 1048576 ∧ i = .int .i64 k ∧ le = .int .i64 m ∧ Hid (memGo (l - xs.length) xs = memGo m (xs.drop k)) ∧ Below w.heap.size w wr) (fun _ i _ => xs.length - (intOf i).toNat)
    case atStart => exact ⟨0, _, by omega, by omega, by omega, rfl, rfl, rfl, Below.refl _ _⟩
    case round =>
      obtain ⟨k, m, hk, hm0, hm1, rfl, rfl, H, hb⟩ := hrel
      by_cases hlt : k < xs.length
      · obtain ⟨b, off, rfl, c0, c1, c2⟩ := Rd.mem (hx.below hb) hlt
        have hsz := hs xs[k] (List.getElem_mem _)
        have Hn := Lib.hid (H.out.trans (memGo_at hlt))
        clear H
        have Hz : Hid (0 ≤ szStep m xs[k].name.size → szStep m xs[k].name.size ≤ m) := fun hz => by have := szStep_ok hz; omega
        generalize xs[k] = s at *
        by_cases hz : szStep m s.name.size < 0
        · have Hf := Lib.hid (Hn.out.trans (if_pos hz))
          clear Hn
          go_wp2_with (go_at_call 14; refine (szMember_any s _ _ hm0 hm1 hsz).mono ?_; rintro e w1 ⟨rfl, hb1⟩)
          go_ret
          exact ⟨by rw [HT.out, Hf.out]; rfl, btr hb hb1⟩
        · have Hf := Lib.hid (Hn.out.trans (if_neg hz))
          have hle := Hz.out (by omega)
          clear Hn Hz
          go_wp2_with (go_at_call 14; refine (szMember_any s _ _ hm0 hm1 hsz).mono ?_; rintro e w1 ⟨rfl, hb1⟩)
          go_roundw
          case rel => exact ⟨k + 1, _, by omega, by omega, by omega, by go_num, rfl, Hf, hb.trans (hb1.mono hb.size)⟩
          case measure => simp [intOf]; omega
      · have Hf := Lib.hid (H.out.trans (by rw [List.drop_eq_nil_of_le (by omega)]))
        clear H
        go_wp2
        go_ret
        exact ⟨by rw [HT.out, Hf.out]; rfl, hb⟩
set_option maxHeartbeats 400000 in
theorem toMember_any (s : Mem) (w : World) :
    Calls Tryd.prog 17 #[.agg #[.int .i64 s.num, .string s.name, .int .i64 s.off]] w fun e w' => e = .returned (.agg #[.int .i64 s.num, .string s.name, .int .i64 s.off]) ∧ Below w.heap.size w w' := by
  go_enter Tryd.func17, Tryd.ntmps17
  go_wp2
  exact bodyPost_ret (v := .agg #[.int .i64 s.num, .string s.name, .int .i64 s.off]) (by simp [results, Tryd.results17, go_sem]) rfl ⟨rfl, bnew (bnew (bnew (Below.refl _ _) _) _) _⟩
set_option maxHeartbeats 1000000 in
theorem toMemberS_any (A : Option Addr) (c : Nat) (xs : List Mem) (w : World) (hn : xs.length ≤ 1048576) (hx : Rd w A (memCells xs)) :
    Calls Tryd.prog 7 #[.slice A xs.length c] w fun e w' => ∃ A' c', e = .returned (.slice A' xs.length c') ∧ w'.ownsRow w.heap.size 39 3 (.slice A' xs.length c') xs.length (memCells xs) ∧ Below w.heap.size w w' := by
  go_enter Tryd.func7, Tryd.ntmps7
  go_wp2_with (at_make; refine wpl_make rfl (.tmp 6) (.tmp 6) 26 rfl el_Mem rfl rfl rfl rfl (by omega) (by unfold maxLen; omega) (Nat.le_refl _) ?_; intro L0 w1 hL0 ho1 hg1)
  go_loopw [4] (fun i wr => ∃ k : Nat, ∃ L : List Value, k ≤ xs.length ∧ i = .int .i64 k ∧ Hid (L.length = xs.length * 3) ∧ Hid (L.take (k * 3) = memCells (xs.take k)) ∧ wr.ownsRow w.heap.size 39 3 (.slice (some ⟨w.heap.size, 0, none⟩) xs.length xs.length) xs.length L ∧ Below w.heap.size w wr) (fun i _ => xs.length - (intOf i).toNat)
  case atStart => exact ⟨0, L0, by omega, rfl, hL0, by simp [Hid, memCells], ho1, below_grown hg1 (Nat.le_refl _) (by simp)⟩
  case round =>
    obtain ⟨k, L, hk, rfl, hL, H, ho, hb⟩ := hrel
    clear ho1 hg1 hL0
    by_cases hlt : k < xs.length
    · obtain ⟨b, off, rfl, c0, c1, c2⟩ := Rd.mem (hx.below hb) hlt
      have Hs := Lib.hid (memCells_succ xs k hlt)
      generalize xs[k] = s at *
      have hlL := hL.out
      go_wp2_with fail
      refine (toMember_any s _).mono ?_
      rintro e w2 ⟨rfl, hb2⟩
      have ho2 := own_below ho hb2
      obtain ⟨u0, f0⟩ := own_some ho2 (k * 3) (by omega)
      have z0 := ho2.frozenAt (k * 3)
      obtain ⟨u1, f1⟩ := own_some ho2 (k * 3 + 1) (by omega)
      have z1 := ho2.frozenAt (k * 3 + 1)
      obtain ⟨u2, f2⟩ := own_some ho2 (k * 3 + 2) (by omega)
      have z2 := ho2.frozenAt (k * 3 + 2)
      have Hn := Lib.hid (mem_sets L (k * 3) (.int .i64 s.num) (.string s.name) (.int .i64 s.off) (by omega))
      have Hm : Hid (∀ M : List Value, M.take (k * 3 + 3) = L.take (k * 3) ++ [.int .i64 s.num, .string s.name, .int .i64 s.off] → M.take ((k + 1) * 3) = memCells (xs.take (k + 1))) := by
        intro M hM
        rw [show (k + 1) * 3 = k * 3 + 3 by omega, hM, Hs.out, H.out]
      clear H Hs hlL
      go_wp2
      go_roundw
      case rel => exact ⟨k + 1, _, by omega, by go_num, by simpa using hL, Hm.out _ Hn.out, own_set (own_set (own_set ho2 _ _) _ _) _ _, (((btr hb hb2).setCell (Nat.le_refl _) _).setCell (Nat.le_refl _) _).setCell (Nat.le_refl _) _⟩
      case measure => simp [intOf]; omega
    · have hL' := hL.out
      have HL : Hid (L = memCells xs) := by
        have := H.out
        rw [List.take_of_length_le (by omega), List.take_of_length_le (by omega)] at this
        exact this
      clear H hL hL'
      go_wp2
      go_ret
      exact ⟨_, _, rfl, HL.out ▸ ho, hb⟩
set_option maxHeartbeats 400000 in
theorem eqMember_same (s : Mem) (w : World) :
    Calls Tryd.prog 20 #[.agg #[.int .i64 s.num, .string s.name, .int .i64 s.off], .agg #[.int .i64 s.num, .string s.name, .int .i64 s.off]] w fun e w' => e = .returned (.bool true) ∧ Below w.heap.size w w' := by
  go_enter Tryd.func20, Tryd.ntmps20
  go_wp2
  go_ret
  exact ⟨rfl, ((Below.refl _ _).alloc (Nat.le_refl _) _).alloc (by simp) _⟩
set_option maxHeartbeats 400000 in
theorem eqMemberS_same (A A' : Option Addr) (c c' : Nat) (xs : List Mem) (w : World) (hn : xs.length ≤ maxLen) (hx : Rd w A (memCells xs)) (hx' : Rd w A' (memCells xs)) :
    Calls Tryd.prog 9 #[.slice A xs.length c, .slice A' xs.length c'] w fun e w' => e = .returned (.bool true) ∧ Below w.heap.size w w' := by
  unfold maxLen at hn
  go_enter Tryd.func9, Tryd.ntmps9
  go_wp2
  go_loopw [5] (fun i wr => ∃ k : Nat, k ≤ xs.length ∧ i = .int .i64 k ∧ Below w.heap.size w wr) (fun i _ => xs.length - (intOf i).toNat)
  case atStart => exact ⟨0, by omega, rfl, Below.refl _ _⟩
  case round =>
    obtain ⟨k, hk, rfl, hb⟩ := hrel
    by_cases hlt : k < xs.length
    · obtain ⟨b, off, rfl, c0, c1, c2⟩ := Rd.mem (hx.below hb) hlt
      obtain ⟨b', off', rfl, d0, d1, d2⟩ := Rd.mem (hx'.below hb) hlt
      have g0 := cell_after c0
      have q0 := cell_after d0
      have g1 := cell_after c1
      have q1 := cell_after d1
      have g2 := cell_after c2
      have q2 := cell_after d2
      have hkI : (k : Int) < (xs.length : Int) := by omega
      clear hx hx' c0 d0 c1 d1 c2 d2
      generalize hs : xs[k] = s at *
      clear hs
      go_wp2_with fail
      refine wp_region_after (by kernel_rfl) (by kernel_rfl) ?_
      repeat (go_big_quiet_step ((go_at_call 20; exact Calls.after (eqMember_same s _))))
      refine wpQuiet_nil ?_
      intro nq
      go_wp2
      go_roundw
      case rel => exact ⟨k + 1, by omega, by go_num, hb.trans (nq.bel.mono hb.size)⟩
      case measure => simp [intOf]; omega
    · go_wp2
      go_ret
      exact ⟨rfl, hb⟩
set_option maxHeartbeats 1000000 in
theorem markMemberS_any (A : Option Addr) (c : Nat) (B n : Nat) (cs : List Value) (k : Int) (w : World) (h0 : 0 ≤ k) (h1 : k ≤ 1048576) (hn : n ≤ 2097152) (hx : w.ownsRow B 39 3 (.slice A n c) n cs) :
    Calls Tryd.prog 12 #[.slice A n c, .int .i64 k] w fun e w' => e = .returned (.int .i64 (k + 3 * n)) ∧ w'.ownsRow B 39 3 (.slice A n c) n (memCells (memMarks k n)) ∧ w.grownBy w' (Value.slice A n c).ownBlock := by
  go_enter Tryd.func12, Tryd.ntmps12
  go_wp2
  go_loopw [1, 5] (fun q i wr => ∃ j : Nat, ∃ L : List Value, j ≤ n ∧ i = .int .i64 j ∧ q = .int .i64 (k + 3 * j) ∧ Hid (L.length = n * 3) ∧ Hid (L.take (j * 3) = memCells (memMarks k j)) ∧ wr.ownsRow B 39 3 (.slice A n c) n L ∧ w.grownBy wr (Value.slice A n c).ownBlock) (fun _ i _ => n - (intOf i).toNat)
  case atStart => exact ⟨0, cs, by omega, rfl, by simp, hx.1, by simp [Hid, memMarks, memCells], hx, World.grownBy.refl _ _⟩
  case round =>
    obtain ⟨j, L, hj, rfl, rfl, hL, H, ho, hg⟩ := hrel
    clear hx
    by_cases hlt : j < n
    · obtain ⟨g, rfl, hB, hgs⟩ := own_at ho (by omega)
      obtain ⟨u0, f0⟩ := own_some ho (j * 3) (by omega)
      have z0 := ho.frozenAt (j * 3)
      go_wp2_with fail
      refine (markText_any _ _ (by omega)).mono ?_
      rintro e w2 ⟨rfl, hb2⟩
      have ho2 := own_below (own_set ho (j * 3) (.int .i64 (k + 3 * j))) hb2
      obtain ⟨u1, f1⟩ := own_some ho2 (j * 3 + 1) (by omega)
      have z1 := ho2.frozenAt (j * 3 + 1)
      obtain ⟨u2, f2⟩ := own_some ho2 (j * 3 + 2) (by omega)
      have z2 := ho2.frozenAt (j * 3 + 2)
      have Hm : Hid (∀ (v2 : Value) (_ : [v2] = ((Mem.mark (k + 3 * j)).cells).drop 2), (((L.set (j * 3) (.int .i64 (k + 3 * j))).set (j * 3 + 1) (.string (mtext (k + 3 * j + 1)))).set (j * 3 + 2) v2).take ((j + 1) * 3) = memCells (memMarks k (j + 1))) := by
        intro v2 hv
        rw [memMarks_succ, show (j + 1) * 3 = j * 3 + 3 by omega, mem_sets L (j * 3) _ _ _ (by have := hL.out; omega), H.out, show (Mem.mark (k + 3 * j)).cells = .int .i64 (k + 3 * j) :: .string (mtext (k + 3 * j + 1)) :: ((Mem.mark (k + 3 * j)).cells).drop 2 from rfl, ← hv]
      clear H
      generalize mtext (k + 3 * j + 1) = t at *
      go_wp2
      go_roundw
      case rel => exact ⟨j + 1, _, by omega, by go_num, by go_num, by simpa using hL, Hm.out _ (by simp [Mem.mark, Mem.cells]; try omega), own_set (own_set ho2 _ _) _ _, grown_set (grown_set (grown_below (grown_set hg _ _) hb2) _ _) _ _⟩
      case measure => simp [intOf]; omega
    · have hL' := hL.out
      have HL : Hid (L = memCells (memMarks k n)) := by
        have := H.out
        rw [List.take_of_length_le (by omega), show j = n by omega] at this
        exact this
      have hjn : j = n := by omega
      have HJ := Lib.hid hjn
      clear H hL hL' hjn
      go_wp2
      go_ret
      exact ⟨by rw [HJ.out]; rfl, HL.out ▸ ho, hg⟩
theorem Rd.memHeld {w : World} {A : Option Addr} {k : Int} {n j : Nat} (h : Rd w A (memCells (memMarks k n))) (hj : j < n) :
    ∃ b off, A = some ⟨b, off, none⟩ ∧ w.cell? ⟨b, off + j * 3, none⟩ = some (.int .i64 (k + 3 * j)) ∧ w.cell? ⟨b, off + j * 3 + 1, none⟩ = some (.string (mtext (k + 3 * j + 1))) ∧ w.cell? ⟨b, off + j * 3 + 2, none⟩ = some (.int .i64 (k + 3 * j + 2)) := by
  have hl : j < (memMarks k n).length := by rw [memMarks_len]; exact hj
  obtain ⟨b, off, rfl, c0, c1, c2⟩ := Rd.mem h hl
  rw [memMarks_get] at c0 c1 c2
  exact ⟨b, off, rfl, c0, c1, c2⟩
set_option maxHeartbeats 2000000 in
set_option maxRecDepth 100000 in
theorem heldMemberS_any (A : Option Addr) (c : Nat) (n : Nat) (k : Int) (w : World) (h0 : 0 ≤ k) (h1 : k ≤ 1048576) (hn : n ≤ 2097152) (hx : Rd w A (memCells (memMarks k n))) :
    Calls Tryd.prog 13 #[.slice A n c, .int .i64 k] w fun e w' => e = .returned (.int .i64 (k + 3 * n)) ∧ Below w.heap.size w w' := by
  go_enter Tryd.func13, Tryd.ntmps13
  go_wp2
  go_loopw [1, 5] (fun q i wr => ∃ j : Nat, j ≤ n ∧ i = .int .i64 j ∧ q = .int .i64 (k + 3 * j) ∧ Below w.heap.size w wr) (fun _ i _ => n - (intOf i).toNat)
  case atStart => exact ⟨0, by omega, rfl, by simp, Below.refl _ _⟩
  case round =>
    obtain ⟨j, hj, rfl, rfl, hb⟩ := hrel
    by_cases hlt : j < n
    · obtain ⟨b, off, rfl, c0, c1, c2⟩ := Rd.memHeld (hx.below hb) hlt
      have g1 := cell_after c1
      have g2 := cell_after c2
      have e0 : ((k + 3 * (j : Int)) != (k + 3 * (j : Int))) = false := by simp
      have e2 : ((k + 3 * (j : Int) + 2) != (k + 3 * (j : Int) + 2)) = false := by simp
      have hjI : (j : Int) < (n : Int) := by omega
      clear hx c1 c2
      go_wp2_with fail
      refine wp_region_after (by kernel_rfl) (by kernel_rfl) ?_
      repeat (go_big_quiet_step ((go_at_call 30; exact Calls.after (markText_any _ _ (by omega)))))
      refine wpQuiet_nil ?_
      intro nq
      generalize mtext (k + 3 * j + 1) = t at *
      go_wp2
      go_roundw
      case rel => exact ⟨j + 1, by omega, by go_num, by go_num, btr hb nq.bel⟩
      case measure => simp [intOf]; omega
    · have HJ := Lib.hid (show j = n by omega)
      go_wp2
      go_ret
      exact ⟨by rw [HJ.out]; rfl, hb⟩
end Go.Proofs.YtngheildmhimoaaDoor

