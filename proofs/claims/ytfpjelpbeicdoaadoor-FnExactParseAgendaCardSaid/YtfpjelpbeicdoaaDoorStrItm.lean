/-
  The laws' own helpers on AgendaItem: the size of an argument, its copy, equality, marks. Conditions: none of theirs.
-/
import Derived.Test.YtfpjelpbeicdoaaDoorBase
namespace Go.My
open Go.RowKit
structure Itm where
  id : Int
  title : ByteArray
  mins : Int
  time : Int
def Itm.cells (s : Itm) : List Value := [.int .i64 s.id, .string s.title, .int .i64 s.mins, .int .i64 s.time]
def itmCells (xs : List Itm) : List Value := xs.flatMap Itm.cells
theorem itmCells_len (xs : List Itm) : (itmCells xs).length = xs.length * 4 := flat_length _ 4 (fun _ => rfl) xs
theorem Itm.cells_one (s : Itm) : ∀ u ∈ s.cells, u.oneCell' = true := by simp [Itm.cells, Value.oneCell']
theorem itmCells_one (xs : List Itm) : ∀ u ∈ itmCells xs, u.oneCell' = true := by
  intro u hu
  obtain ⟨s, _, hs⟩ := List.mem_flatMap.1 hu
  exact s.cells_one u hs
theorem itmCells_succ (xs : List Itm) (k : Nat) (hk : k < xs.length) : itmCells (xs.take (k + 1)) = itmCells (xs.take k) ++ [.int .i64 xs[k].id, .string xs[k].title, .int .i64 xs[k].mins, .int .i64 xs[k].time] := by
  unfold itmCells
  rw [List.take_succ_eq_append_getElem hk, List.flatMap_append]
  rfl
theorem Rd.itm {w : World} {A : Option Addr} {xs : List Itm} (h : Rd w A (itmCells xs)) {k : Nat} (hk : k < xs.length) :
    ∃ b off, A = some ⟨b, off, none⟩ ∧ w.cell? ⟨b, off + k * 4, none⟩ = some (.int .i64 xs[k].id) ∧ w.cell? ⟨b, off + k * 4 + 1, none⟩ = some (.string xs[k].title) ∧ w.cell? ⟨b, off + k * 4 + 2, none⟩ = some (.int .i64 xs[k].mins) ∧ w.cell? ⟨b, off + k * 4 + 3, none⟩ = some (.int .i64 xs[k].time) := by
  obtain ⟨b, off, rfl, hc⟩ := Rd.at_ Itm.cells 4 (fun _ => rfl) h hk (by decide)
  exact ⟨b, off, rfl, hc 0 _ rfl, hc 1 _ rfl, hc 2 _ rfl, hc 3 _ rfl⟩
/-- What the marks from k on make of one element. -/
def Itm.mark (k : Int) : Itm := ⟨(k), (mtext (k + 1)), (k + 2), (k + 3)⟩
def itmMarks (k : Int) : Nat → List Itm
  | 0 => []
  | n + 1 => itmMarks k n ++ [Itm.mark (k + 4 * n)]
theorem itmMarks_len (k : Int) (n : Nat) : (itmMarks k n).length = n := by
  induction n with
  | zero => rfl
  | succ n ih => simp [itmMarks, ih]
theorem itmMarks_get (k : Int) (n i : Nat) (h : i < (itmMarks k n).length) : (itmMarks k n)[i] = Itm.mark (k + 4 * i) := by
  induction n with
  | zero => simp [itmMarks] at h
  | succ n ih =>
    simp only [itmMarks]
    by_cases hi : i < (itmMarks k n).length
    · rw [List.getElem_append_left hi, ih hi]
    · have : i = n := by rw [itmMarks_len] at h hi; omega
      subst this
      rw [List.getElem_append_right (by omega)]
      simp
theorem itmMarks_succ (k : Int) (n : Nat) : itmCells (itmMarks k (n + 1)) = itmCells (itmMarks k n) ++ (Itm.mark (k + 4 * n)).cells := by
  simp [itmMarks, itmCells]
theorem itm_sets (L : List Value) (p : Nat) (v0 v1 v2 v3 : Value) (h : p + 4 ≤ L.length) : ((((L.set (p) v0).set (p + 1) v1).set (p + 2) v2).set (p + 3) v3).take (p + 4) = L.take p ++ [v0, v1, v2, v3] := by
  rw [show p + 4 = p + 3 + 1 from rfl, take_set_next _ _ _ (by simp only [List.length_set]; omega), show p + 3 = p + 2 + 1 from rfl, take_set_next _ _ _ (by simp only [List.length_set]; omega), show p + 2 = p + 1 + 1 from rfl, take_set_next _ _ _ (by simp only [List.length_set]; omega), take_set_next _ _ _ (by omega)]
  simp
def itmGo (left : Int) : List Itm → Int
  | [] => left
  | s :: r => if szStep left s.title.size < 0 then -1 else itmGo (szStep left s.title.size) r
def itmSz (left : Int) (xs : List Itm) : Int := if left - xs.length < 0 then -1 else itmGo (left - xs.length) xs
theorem itmGo_at {l : Int} {xs : List Itm} {k : Nat} (hk : k < xs.length) : itmGo l (xs.drop k) = if szStep l xs[k].title.size < 0 then -1 else itmGo (szStep l xs[k].title.size) (xs.drop (k + 1)) := by
  rw [List.drop_eq_getElem_cons hk]; rfl
theorem itmGo_ok {l : Int} {xs : List Itm} (h : 0 ≤ itmGo l xs) : itmGo l xs ≤ l ∧ ∀ s ∈ xs, (s.title.size : Int) ≤ l := by
  induction xs generalizing l with
  | nil => simp [itmGo]
  | cons s r ih =>
    simp only [itmGo] at h ⊢
    by_cases h1 : szStep l s.title.size < 0
    · rw [if_pos h1] at h; omega
    · rw [if_neg h1] at h ⊢
      obtain ⟨h2, h3⟩ := ih h
      have h4 : szStep l s.title.size = l - s.title.size := by
        unfold szStep at h1 ⊢
        by_cases h5 : l - (s.title.size : Int) < 0
        · rw [if_pos h5] at h1; omega
        · rw [if_neg h5]
      rw [h4] at h1 h2 h3 ⊢
      refine ⟨by omega, fun x hx => ?_⟩
      rcases List.mem_cons.1 hx with rfl | hx
      · omega
      · have := h3 x hx; omega
theorem itmSz_ok {l : Int} {xs : List Itm} (h : 0 ≤ itmSz l xs) : itmSz l xs ≤ l ∧ (xs.length : Int) ≤ l ∧ ∀ s ∈ xs, (s.title.size : Int) ≤ l := by
  unfold itmSz at h ⊢
  by_cases h1 : l - (xs.length : Int) < 0
  · rw [if_pos h1] at h; omega
  · rw [if_neg h1] at h ⊢
    obtain ⟨h2, h3⟩ := itmGo_ok h
    exact ⟨by omega, by omega, fun s hs => by have := h3 s hs; omega⟩
theorem szStep_ok {l n : Int} (h : 0 ≤ szStep l n) : szStep l n ≤ l - n ∧ n ≤ l := by
  unfold szStep at h ⊢
  split at h <;> split <;> omega
end Go.My
namespace Go.Proofs.YtfpjelpbeicdoaaDoor
open Go.RowKit Go.My
theorem el_Itm : ElemOk Tryd.prog 26 39 4 40 := elemOk_mk Tryd.underlying26 (by kernel_rfl) (z := .agg #[.int .i64 0, .string ⟨#[]⟩, .int .i64 0, .int .i64 0]) rfl (by decide)
set_option maxHeartbeats 400000 in
theorem szAgendaItem_any (s : Itm) (l : Int) (w : World) (h0 : 0 ≤ l) (h1 : l ≤ 1048576) (hs : s.title.size ≤ maxLen) :
    Calls Tryd.prog 14 #[.agg #[.int .i64 s.id, .string s.title, .int .i64 s.mins, .int .i64 s.time], .int .i64 l] w fun e w' => e = .returned (.int .i64 (szStep l s.title.size)) ∧ Below w.heap.size w w' := by
  unfold maxLen at hs
  by_cases h : l - (s.title.size : Int) < 0
  · rw [show szStep l s.title.size = -1 by unfold szStep; rw [if_pos h]]
    go_enter Tryd.func14, Tryd.ntmps14
    go_wp2
    go_ret
    exact ⟨rfl, (Below.refl _ _).alloc (Nat.le_refl _) _⟩
  · rw [show szStep l s.title.size = l - s.title.size by unfold szStep; rw [if_neg h]]
    go_enter Tryd.func14, Tryd.ntmps14
    go_wp2
    go_ret
    exact ⟨rfl, (Below.refl _ _).alloc (Nat.le_refl _) _⟩
set_option maxHeartbeats 400000 in
theorem szAgendaItemS_any (A : Option Addr) (c : Nat) (xs : List Itm) (l : Int) (w : World) (h0 : 0 ≤ l) (h1 : l ≤ 1048576) (hn : xs.length ≤ maxLen) (hx : Rd w A (itmCells xs)) (hs : ∀ s ∈ xs, s.title.size ≤ maxLen) :
    Calls Tryd.prog 5 #[.slice A xs.length c, .int .i64 l] w fun e w' => e = .returned (.int .i64 (itmSz l xs)) ∧ Below w.heap.size w w' := by
  unfold maxLen at hn
  by_cases h : l - (xs.length : Int) < 0
  · rw [show itmSz l xs = -1 by unfold itmSz; rw [if_pos h]]
    go_enter Tryd.func5, Tryd.ntmps5
    go_wp2
    go_ret
    exact ⟨rfl, Below.refl _ _⟩
  · have HT : Hid (itmSz l xs = itmGo (l - xs.length) xs) := by
      show itmSz l xs = _
      unfold itmSz; rw [if_neg h]
    go_enter Tryd.func5, Tryd.ntmps5
    go_wp2
    go_loopw [1, 5] (fun le i wr => ∃ k : Nat, ∃ m : Int, k ≤ xs.length ∧ 0 ≤ m ∧ m ≤ 1048576 ∧ i = .int .i64 k ∧ le = .int .i64 m ∧ Hid (itmGo (l - xs.length) xs = itmGo m (xs.drop k)) ∧ Below w.heap.size w wr) (fun _ i _ => xs.length - (intOf i).toNat)
    case atStart => exact ⟨0, _, by omega, by omega, by omega, rfl, rfl, rfl, Below.refl _ _⟩
    case round =>
      obtain ⟨k, m, hk, hm0, hm1, rfl, rfl, H, hb⟩ := hrel
      by_cases hlt : k < xs.length
      · obtain ⟨b, off, rfl, c0, c1, c2, c3⟩ := Rd.itm (hx.below hb) hlt
        have hsz := hs xs[k] (List.getElem_mem _)
        have Hn := Lib.hid (H.out.trans (itmGo_at hlt))
        clear H
        have Hz : Hid (0 ≤ szStep m xs[k].title.size → szStep m xs[k].title.size ≤ m) := fun hz => by have := szStep_ok hz; omega
        generalize xs[k] = s at *
        by_cases hz : szStep m s.title.size < 0
        · have Hf := Lib.hid (Hn.out.trans (if_pos hz))
          clear Hn
          go_wp2_with (go_at_call 14; refine (szAgendaItem_any s _ _ hm0 hm1 hsz).mono ?_; rintro e w1 ⟨rfl, hb1⟩)
          go_ret
          exact ⟨by rw [HT.out, Hf.out]; rfl, btr hb hb1⟩
        · have Hf := Lib.hid (Hn.out.trans (if_neg hz))
          have hle := Hz.out (by omega)
          clear Hn Hz
          go_wp2_with (go_at_call 14; refine (szAgendaItem_any s _ _ hm0 hm1 hsz).mono ?_; rintro e w1 ⟨rfl, hb1⟩)
          go_roundw
          case rel => exact ⟨k + 1, _, by omega, by omega, by omega, by go_num, rfl, Hf, hb.trans (hb1.mono hb.size)⟩
          case measure => simp [intOf]; omega
      · have Hf := Lib.hid (H.out.trans (by rw [List.drop_eq_nil_of_le (by omega)]))
        clear H
        go_wp2
        go_ret
        exact ⟨by rw [HT.out, Hf.out]; rfl, hb⟩
set_option maxHeartbeats 400000 in
theorem toAgendaItem_any (s : Itm) (w : World) :
    Calls Tryd.prog 17 #[.agg #[.int .i64 s.id, .string s.title, .int .i64 s.mins, .int .i64 s.time]] w fun e w' => e = .returned (.agg #[.int .i64 s.id, .string s.title, .int .i64 s.mins, .int .i64 s.time]) ∧ Below w.heap.size w w' := by
  go_enter Tryd.func17, Tryd.ntmps17
  go_wp2
  exact bodyPost_ret (v := .agg #[.int .i64 s.id, .string s.title, .int .i64 s.mins, .int .i64 s.time]) (by simp [results, Tryd.results17, go_sem]) rfl ⟨rfl, bnew (bnew (bnew (Below.refl _ _) _) _) _⟩
set_option maxHeartbeats 1000000 in
theorem toAgendaItemS_any (A : Option Addr) (c : Nat) (xs : List Itm) (w : World) (hn : xs.length ≤ 1048576) (hx : Rd w A (itmCells xs)) :
    Calls Tryd.prog 7 #[.slice A xs.length c] w fun e w' => ∃ A' c', e = .returned (.slice A' xs.length c') ∧ w'.ownsRow w.heap.size 39 4 (.slice A' xs.length c') xs.length (itmCells xs) ∧ Below w.heap.size w w' := by
  go_enter Tryd.func7, Tryd.ntmps7
  go_wp2_with (at_make; refine wpl_make rfl (.tmp 6) (.tmp 6) 26 rfl el_Itm rfl rfl rfl rfl (by omega) (by unfold maxLen; omega) (Nat.le_refl _) ?_; intro L0 w1 hL0 ho1 hg1)
  go_loopw [4] (fun i wr => ∃ k : Nat, ∃ L : List Value, k ≤ xs.length ∧ i = .int .i64 k ∧ Hid (L.length = xs.length * 4) ∧ Hid (L.take (k * 4) = itmCells (xs.take k)) ∧ wr.ownsRow w.heap.size 39 4 (.slice (some ⟨w.heap.size, 0, none⟩) xs.length xs.length) xs.length L ∧ Below w.heap.size w wr) (fun i _ => xs.length - (intOf i).toNat)
  case atStart => exact ⟨0, L0, by omega, rfl, hL0, by simp [Hid, itmCells], ho1, below_grown hg1 (Nat.le_refl _) (by simp)⟩
  case round =>
    obtain ⟨k, L, hk, rfl, hL, H, ho, hb⟩ := hrel
    clear ho1 hg1 hL0
    by_cases hlt : k < xs.length
    · obtain ⟨b, off, rfl, c0, c1, c2, c3⟩ := Rd.itm (hx.below hb) hlt
      have Hs := Lib.hid (itmCells_succ xs k hlt)
      generalize xs[k] = s at *
      have hlL := hL.out
      go_wp2_with fail
      refine (toAgendaItem_any s _).mono ?_
      rintro e w2 ⟨rfl, hb2⟩
      have ho2 := own_below ho hb2
      obtain ⟨u0, f0⟩ := own_some ho2 (k * 4) (by omega)
      have z0 := ho2.frozenAt (k * 4)
      obtain ⟨u1, f1⟩ := own_some ho2 (k * 4 + 1) (by omega)
      have z1 := ho2.frozenAt (k * 4 + 1)
      obtain ⟨u2, f2⟩ := own_some ho2 (k * 4 + 2) (by omega)
      have z2 := ho2.frozenAt (k * 4 + 2)
      obtain ⟨u3, f3⟩ := own_some ho2 (k * 4 + 3) (by omega)
      have z3 := ho2.frozenAt (k * 4 + 3)
      have Hn := Lib.hid (itm_sets L (k * 4) (.int .i64 s.id) (.string s.title) (.int .i64 s.mins) (.int .i64 s.time) (by omega))
      have Hm : Hid (∀ M : List Value, M.take (k * 4 + 4) = L.take (k * 4) ++ [.int .i64 s.id, .string s.title, .int .i64 s.mins, .int .i64 s.time] → M.take ((k + 1) * 4) = itmCells (xs.take (k + 1))) := by
        intro M hM
        rw [show (k + 1) * 4 = k * 4 + 4 by omega, hM, Hs.out, H.out]
      clear H Hs hlL
      go_wp2
      go_roundw
      case rel => exact ⟨k + 1, _, by omega, by go_num, by simpa using hL, Hm.out _ Hn.out, own_set (own_set (own_set (own_set ho2 _ _) _ _) _ _) _ _, ((((btr hb hb2).setCell (Nat.le_refl _) _).setCell (Nat.le_refl _) _).setCell (Nat.le_refl _) _).setCell (Nat.le_refl _) _⟩
      case measure => simp [intOf]; omega
    · have hL' := hL.out
      have HL : Hid (L = itmCells xs) := by
        have := H.out
        rw [List.take_of_length_le (by omega), List.take_of_length_le (by omega)] at this
        exact this
      clear H hL hL'
      go_wp2
      go_ret
      exact ⟨_, _, rfl, HL.out ▸ ho, hb⟩
set_option maxHeartbeats 400000 in
theorem eqAgendaItem_same (s : Itm) (w : World) :
    Calls Tryd.prog 20 #[.agg #[.int .i64 s.id, .string s.title, .int .i64 s.mins, .int .i64 s.time], .agg #[.int .i64 s.id, .string s.title, .int .i64 s.mins, .int .i64 s.time]] w fun e w' => e = .returned (.bool true) ∧ Below w.heap.size w w' := by
  go_enter Tryd.func20, Tryd.ntmps20
  go_wp2
  go_ret
  exact ⟨rfl, ((Below.refl _ _).alloc (Nat.le_refl _) _).alloc (by simp) _⟩
set_option maxHeartbeats 400000 in
theorem eqAgendaItemS_same (A A' : Option Addr) (c c' : Nat) (xs : List Itm) (w : World) (hn : xs.length ≤ maxLen) (hx : Rd w A (itmCells xs)) (hx' : Rd w A' (itmCells xs)) :
    Calls Tryd.prog 9 #[.slice A xs.length c, .slice A' xs.length c'] w fun e w' => e = .returned (.bool true) ∧ Below w.heap.size w w' := by
  unfold maxLen at hn
  go_enter Tryd.func9, Tryd.ntmps9
  go_wp2
  go_loopw [5] (fun i wr => ∃ k : Nat, k ≤ xs.length ∧ i = .int .i64 k ∧ Below w.heap.size w wr) (fun i _ => xs.length - (intOf i).toNat)
  case atStart => exact ⟨0, by omega, rfl, Below.refl _ _⟩
  case round =>
    obtain ⟨k, hk, rfl, hb⟩ := hrel
    by_cases hlt : k < xs.length
    · obtain ⟨b, off, rfl, c0, c1, c2, c3⟩ := Rd.itm (hx.below hb) hlt
      obtain ⟨b', off', rfl, d0, d1, d2, d3⟩ := Rd.itm (hx'.below hb) hlt
      have g0 := cell_after c0
      have q0 := cell_after d0
      have g1 := cell_after c1
      have q1 := cell_after d1
      have g2 := cell_after c2
      have q2 := cell_after d2
      have g3 := cell_after c3
      have q3 := cell_after d3
      have hkI : (k : Int) < (xs.length : Int) := by omega
      clear hx hx' c0 d0 c1 d1 c2 d2 c3 d3
      generalize hs : xs[k] = s at *
      clear hs
      go_wp2_with fail
      refine wp_region_after (by kernel_rfl) (by kernel_rfl) ?_
      repeat (go_big_quiet_step ((go_at_call 20; exact Calls.after (eqAgendaItem_same s _))))
      refine wpQuiet_nil ?_
      intro nq
      go_wp2
      go_roundw
      case rel => exact ⟨k + 1, by omega, by go_num, hb.trans (nq.bel.mono hb.size)⟩
      case measure => simp [intOf]; omega
    · go_wp2
      go_ret
      exact ⟨rfl, hb⟩
set_option maxHeartbeats 1000000 in
theorem markAgendaItemS_any (A : Option Addr) (c : Nat) (B n : Nat) (cs : List Value) (k : Int) (w : World) (h0 : 0 ≤ k) (h1 : k ≤ 1048576) (hn : n ≤ 2097152) (hx : w.ownsRow B 39 4 (.slice A n c) n cs) :
    Calls Tryd.prog 12 #[.slice A n c, .int .i64 k] w fun e w' => e = .returned (.int .i64 (k + 4 * n)) ∧ w'.ownsRow B 39 4 (.slice A n c) n (itmCells (itmMarks k n)) ∧ w.grownBy w' (Value.slice A n c).ownBlock := by
  go_enter Tryd.func12, Tryd.ntmps12
  go_wp2
  go_loopw [1, 5] (fun q i wr => ∃ j : Nat, ∃ L : List Value, j ≤ n ∧ i = .int .i64 j ∧ q = .int .i64 (k + 4 * j) ∧ Hid (L.length = n * 4) ∧ Hid (L.take (j * 4) = itmCells (itmMarks k j)) ∧ wr.ownsRow B 39 4 (.slice A n c) n L ∧ w.grownBy wr (Value.slice A n c).ownBlock) (fun _ i _ => n - (intOf i).toNat)
  case atStart => exact ⟨0, cs, by omega, rfl, by simp, hx.1, by simp [Hid, itmMarks, itmCells], hx, World.grownBy.refl _ _⟩
  case round =>
    obtain ⟨j, L, hj, rfl, rfl, hL, H, ho, hg⟩ := hrel
    clear hx
    by_cases hlt : j < n
    · obtain ⟨g, rfl, hB, hgs⟩ := own_at ho (by omega)
      obtain ⟨u0, f0⟩ := own_some ho (j * 4) (by omega)
      have z0 := ho.frozenAt (j * 4)
      go_wp2_with fail
      refine (markText_any _ _ (by omega)).mono ?_
      rintro e w2 ⟨rfl, hb2⟩
      have ho2 := own_below (own_set ho (j * 4) (.int .i64 (k + 4 * j))) hb2
      obtain ⟨u1, f1⟩ := own_some ho2 (j * 4 + 1) (by omega)
      have z1 := ho2.frozenAt (j * 4 + 1)
      obtain ⟨u2, f2⟩ := own_some ho2 (j * 4 + 2) (by omega)
      have z2 := ho2.frozenAt (j * 4 + 2)
      obtain ⟨u3, f3⟩ := own_some ho2 (j * 4 + 3) (by omega)
      have z3 := ho2.frozenAt (j * 4 + 3)
      have Hm : Hid (∀ (v2 v3 : Value) (_ : [v2, v3] = ((Itm.mark (k + 4 * j)).cells).drop 2), ((((L.set (j * 4) (.int .i64 (k + 4 * j))).set (j * 4 + 1) (.string (mtext (k + 4 * j + 1)))).set (j * 4 + 2) v2).set (j * 4 + 3) v3).take ((j + 1) * 4) = itmCells (itmMarks k (j + 1))) := by
        intro v2 v3 hv
        rw [itmMarks_succ, show (j + 1) * 4 = j * 4 + 4 by omega, itm_sets L (j * 4) _ _ _ _ (by have := hL.out; omega), H.out, show (Itm.mark (k + 4 * j)).cells = .int .i64 (k + 4 * j) :: .string (mtext (k + 4 * j + 1)) :: ((Itm.mark (k + 4 * j)).cells).drop 2 from rfl, ← hv]
      clear H
      generalize mtext (k + 4 * j + 1) = t at *
      go_wp2
      go_roundw
      case rel => exact ⟨j + 1, _, by omega, by go_num, by go_num, by simpa using hL, Hm.out _ _ (by simp [Itm.mark, Itm.cells]; try omega), own_set (own_set (own_set ho2 _ _) _ _) _ _, grown_set (grown_set (grown_set (grown_below (grown_set hg _ _) hb2) _ _) _ _) _ _⟩
      case measure => simp [intOf]; omega
    · have hL' := hL.out
      have HL : Hid (L = itmCells (itmMarks k n)) := by
        have := H.out
        rw [List.take_of_length_le (by omega), show j = n by omega] at this
        exact this
      have hjn : j = n := by omega
      have HJ := Lib.hid hjn
      clear H hL hL' hjn
      go_wp2
      go_ret
      exact ⟨by rw [HJ.out]; rfl, HL.out ▸ ho, hg⟩
theorem Rd.itmHeld {w : World} {A : Option Addr} {k : Int} {n j : Nat} (h : Rd w A (itmCells (itmMarks k n))) (hj : j < n) :
    ∃ b off, A = some ⟨b, off, none⟩ ∧ w.cell? ⟨b, off + j * 4, none⟩ = some (.int .i64 (k + 4 * j)) ∧ w.cell? ⟨b, off + j * 4 + 1, none⟩ = some (.string (mtext (k + 4 * j + 1))) ∧ w.cell? ⟨b, off + j * 4 + 2, none⟩ = some (.int .i64 (k + 4 * j + 2)) ∧ w.cell? ⟨b, off + j * 4 + 3, none⟩ = some (.int .i64 (k + 4 * j + 3)) := by
  have hl : j < (itmMarks k n).length := by rw [itmMarks_len]; exact hj
  obtain ⟨b, off, rfl, c0, c1, c2, c3⟩ := Rd.itm h hl
  rw [itmMarks_get] at c0 c1 c2 c3
  exact ⟨b, off, rfl, c0, c1, c2, c3⟩
set_option maxHeartbeats 2000000 in
set_option maxRecDepth 100000 in
theorem heldAgendaItemS_any (A : Option Addr) (c : Nat) (n : Nat) (k : Int) (w : World) (h0 : 0 ≤ k) (h1 : k ≤ 1048576) (hn : n ≤ 2097152) (hx : Rd w A (itmCells (itmMarks k n))) :
    Calls Tryd.prog 13 #[.slice A n c, .int .i64 k] w fun e w' => e = .returned (.int .i64 (k + 4 * n)) ∧ Below w.heap.size w w' := by
  go_enter Tryd.func13, Tryd.ntmps13
  go_wp2
  go_loopw [1, 5] (fun q i wr => ∃ j : Nat, j ≤ n ∧ i = .int .i64 j ∧ q = .int .i64 (k + 4 * j) ∧ Below w.heap.size w wr) (fun _ i _ => n - (intOf i).toNat)
  case atStart => exact ⟨0, by omega, rfl, by simp, Below.refl _ _⟩
  case round =>
    obtain ⟨j, hj, rfl, rfl, hb⟩ := hrel
    by_cases hlt : j < n
    · obtain ⟨b, off, rfl, c0, c1, c2, c3⟩ := Rd.itmHeld (hx.below hb) hlt
      have g1 := cell_after c1
      have g2 := cell_after c2
      have g3 := cell_after c3
      have e0 : ((k + 4 * (j : Int)) != (k + 4 * (j : Int))) = false := by simp
      have e2 : ((k + 4 * (j : Int) + 2) != (k + 4 * (j : Int) + 2)) = false := by simp
      have e3 : ((k + 4 * (j : Int) + 3) != (k + 4 * (j : Int) + 3)) = false := by simp
      have hjI : (j : Int) < (n : Int) := by omega
      clear hx c1 c2 c3
      go_wp2_with fail
      refine wp_region_after (by kernel_rfl) (by kernel_rfl) ?_
      repeat (go_big_quiet_step ((go_at_call 28; exact Calls.after (markText_any _ _ (by omega)))))
      refine wpQuiet_nil ?_
      intro nq
      generalize mtext (k + 4 * j + 1) = t at *
      go_wp2
      go_roundw
      case rel => exact ⟨j + 1, by omega, by go_num, by go_num, btr hb nq.bel⟩
      case measure => simp [intOf]; omega
    · have HJ := Lib.hid (show j = n by omega)
      go_wp2
      go_ret
      exact ⟨by rw [HJ.out]; rfl, hb⟩
end Go.Proofs.YtfpjelpbeicdoaaDoor

