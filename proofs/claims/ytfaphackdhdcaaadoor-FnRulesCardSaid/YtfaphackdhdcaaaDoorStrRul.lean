/-
  The laws' own helpers on Rule: the size of an argument, its copy, equality, marks. Conditions: none of theirs.
-/
import Derived.Test.YtfaphackdhdcaaaDoorBase
namespace Go.My
open Go.RowKit
structure Rul where
  id : Int
  name : ByteArray
  rank : Int
  sec : Bool
  deb : Bool
  am : Bool
  need : Int
def Rul.cells (s : Rul) : List Value := [.int .i64 s.id, .string s.name, .int .i64 s.rank, .bool s.sec, .bool s.deb, .bool s.am, .int .i64 s.need]
def rulCells (xs : List Rul) : List Value := xs.flatMap Rul.cells
theorem rulCells_len (xs : List Rul) : (rulCells xs).length = xs.length * 7 := flat_length _ 7 (fun _ => rfl) xs
theorem Rul.cells_one (s : Rul) : ∀ u ∈ s.cells, u.oneCell' = true := by simp [Rul.cells, Value.oneCell']
theorem rulCells_one (xs : List Rul) : ∀ u ∈ rulCells xs, u.oneCell' = true := by
  intro u hu
  obtain ⟨s, _, hs⟩ := List.mem_flatMap.1 hu
  exact s.cells_one u hs
theorem rulCells_succ (xs : List Rul) (k : Nat) (hk : k < xs.length) : rulCells (xs.take (k + 1)) = rulCells (xs.take k) ++ [.int .i64 xs[k].id, .string xs[k].name, .int .i64 xs[k].rank, .bool xs[k].sec, .bool xs[k].deb, .bool xs[k].am, .int .i64 xs[k].need] := by
  unfold rulCells
  rw [List.take_succ_eq_append_getElem hk, List.flatMap_append]
  rfl
theorem Rd.rul {w : World} {A : Option Addr} {xs : List Rul} (h : Rd w A (rulCells xs)) {k : Nat} (hk : k < xs.length) :
    ∃ b off, A = some ⟨b, off, none⟩ ∧ w.cell? ⟨b, off + k * 7, none⟩ = some (.int .i64 xs[k].id) ∧ w.cell? ⟨b, off + k * 7 + 1, none⟩ = some (.string xs[k].name) ∧ w.cell? ⟨b, off + k * 7 + 2, none⟩ = some (.int .i64 xs[k].rank) ∧ w.cell? ⟨b, off + k * 7 + 3, none⟩ = some (.bool xs[k].sec) ∧ w.cell? ⟨b, off + k * 7 + 4, none⟩ = some (.bool xs[k].deb) ∧ w.cell? ⟨b, off + k * 7 + 5, none⟩ = some (.bool xs[k].am) ∧ w.cell? ⟨b, off + k * 7 + 6, none⟩ = some (.int .i64 xs[k].need) := by
  obtain ⟨b, off, rfl, hc⟩ := Rd.at_ Rul.cells 7 (fun _ => rfl) h hk (by decide)
  exact ⟨b, off, rfl, hc 0 _ rfl, hc 1 _ rfl, hc 2 _ rfl, hc 3 _ rfl, hc 4 _ rfl, hc 5 _ rfl, hc 6 _ rfl⟩
/-- What the marks from k on make of one element. -/
def Rul.mark (k : Int) : Rul := ⟨(k), (mtext (k + 1)), (k + 2), ((k + 3) % 3 == 0), ((k + 4) % 3 == 0), ((k + 5) % 3 == 0), (k + 6)⟩
def rulMarks (k : Int) : Nat → List Rul
  | 0 => []
  | n + 1 => rulMarks k n ++ [Rul.mark (k + 7 * n)]
theorem rulMarks_len (k : Int) (n : Nat) : (rulMarks k n).length = n := by
  induction n with
  | zero => rfl
  | succ n ih => simp [rulMarks, ih]
theorem rulMarks_get (k : Int) (n i : Nat) (h : i < (rulMarks k n).length) : (rulMarks k n)[i] = Rul.mark (k + 7 * i) := by
  induction n with
  | zero => simp [rulMarks] at h
  | succ n ih =>
    simp only [rulMarks]
    by_cases hi : i < (rulMarks k n).length
    · rw [List.getElem_append_left hi, ih hi]
    · have : i = n := by rw [rulMarks_len] at h hi; omega
      subst this
      rw [List.getElem_append_right (by omega)]
      simp
theorem rulMarks_succ (k : Int) (n : Nat) : rulCells (rulMarks k (n + 1)) = rulCells (rulMarks k n) ++ (Rul.mark (k + 7 * n)).cells := by
  simp [rulMarks, rulCells]
theorem rul_sets (L : List Value) (p : Nat) (v0 v1 v2 v3 v4 v5 v6 : Value) (h : p + 7 ≤ L.length) : (((((((L.set (p) v0).set (p + 1) v1).set (p + 2) v2).set (p + 3) v3).set (p + 4) v4).set (p + 5) v5).set (p + 6) v6).take (p + 7) = L.take p ++ [v0, v1, v2, v3, v4, v5, v6] := by
  rw [show p + 7 = p + 6 + 1 from rfl, take_set_next _ _ _ (by simp only [List.length_set]; omega), show p + 6 = p + 5 + 1 from rfl, take_set_next _ _ _ (by simp only [List.length_set]; omega), show p + 5 = p + 4 + 1 from rfl, take_set_next _ _ _ (by simp only [List.length_set]; omega), show p + 4 = p + 3 + 1 from rfl, take_set_next _ _ _ (by simp only [List.length_set]; omega), show p + 3 = p + 2 + 1 from rfl, take_set_next _ _ _ (by simp only [List.length_set]; omega), show p + 2 = p + 1 + 1 from rfl, take_set_next _ _ _ (by simp only [List.length_set]; omega), take_set_next _ _ _ (by omega)]
  simp
def rulGo (left : Int) : List Rul → Int
  | [] => left
  | s :: r => if szStep left s.name.size < 0 then -1 else rulGo (szStep left s.name.size) r
def rulSz (left : Int) (xs : List Rul) : Int := if left - xs.length < 0 then -1 else rulGo (left - xs.length) xs
theorem rulGo_at {l : Int} {xs : List Rul} {k : Nat} (hk : k < xs.length) : rulGo l (xs.drop k) = if szStep l xs[k].name.size < 0 then -1 else rulGo (szStep l xs[k].name.size) (xs.drop (k + 1)) := by
  rw [List.drop_eq_getElem_cons hk]; rfl
theorem rulGo_ok {l : Int} {xs : List Rul} (h : 0 ≤ rulGo l xs) : rulGo l xs ≤ l ∧ ∀ s ∈ xs, (s.name.size : Int) ≤ l := by
  induction xs generalizing l with
  | nil => simp [rulGo]
  | cons s r ih =>
    simp only [rulGo] at h ⊢
    by_cases h1 : szStep l s.name.size < 0
    · rw [if_pos h1] at h; omega
    · rw [if_neg h1] at h ⊢
      obtain ⟨h2, h3⟩ := ih h
      have h4 : szStep l s.name.size = l - s.name.size := by
        unfold szStep at h1 ⊢
        by_cases h5 : l - (s.name.size : Int) < 0
        · rw [if_pos h5] at h1; omega
        · rw [if_neg h5]
      rw [h4] at h1 h2 h3 ⊢
      refine ⟨by omega, fun x hx => ?_⟩
      rcases List.mem_cons.1 hx with rfl | hx
      · omega
      · have := h3 x hx; omega
theorem rulSz_ok {l : Int} {xs : List Rul} (h : 0 ≤ rulSz l xs) : rulSz l xs ≤ l ∧ (xs.length : Int) ≤ l ∧ ∀ s ∈ xs, (s.name.size : Int) ≤ l := by
  unfold rulSz at h ⊢
  by_cases h1 : l - (xs.length : Int) < 0
  · rw [if_pos h1] at h; omega
  · rw [if_neg h1] at h ⊢
    obtain ⟨h2, h3⟩ := rulGo_ok h
    exact ⟨by omega, by omega, fun s hs => by have := h3 s hs; omega⟩
theorem szStep_ok {l n : Int} (h : 0 ≤ szStep l n) : szStep l n ≤ l - n ∧ n ≤ l := by
  unfold szStep at h ⊢
  split at h <;> split <;> omega
end Go.My
namespace Go.Proofs.YtfaphackdhdcaaaDoor
open Go.RowKit Go.My
theorem el_Rul : ElemOk Tryd.prog 33 27 7 48 := elemOk_mk Tryd.underlying33 (by kernel_rfl) (z := .agg #[.int .i64 0, .string ⟨#[]⟩, .int .i64 0, .bool false, .bool false, .bool false, .int .i64 0]) rfl (by decide)
set_option maxHeartbeats 400000 in
theorem szRule_any (s : Rul) (l : Int) (w : World) (h0 : 0 ≤ l) (h1 : l ≤ 1048576) (hs : s.name.size ≤ maxLen) :
    Calls Tryd.prog 8 #[.agg #[.int .i64 s.id, .string s.name, .int .i64 s.rank, .bool s.sec, .bool s.deb, .bool s.am, .int .i64 s.need], .int .i64 l] w fun e w' => e = .returned (.int .i64 (szStep l s.name.size)) ∧ Below w.heap.size w w' := by
  unfold maxLen at hs
  by_cases h : l - (s.name.size : Int) < 0
  · rw [show szStep l s.name.size = -1 by unfold szStep; rw [if_pos h]]
    go_enter Tryd.func8, Tryd.ntmps8
    go_wp2
    go_ret
    exact ⟨rfl, (Below.refl _ _).alloc (Nat.le_refl _) _⟩
  · rw [show szStep l s.name.size = l - s.name.size by unfold szStep; rw [if_neg h]]
    go_enter Tryd.func8, Tryd.ntmps8
    go_wp2
    go_ret
    exact ⟨rfl, (Below.refl _ _).alloc (Nat.le_refl _) _⟩
set_option maxHeartbeats 400000 in
theorem szRuleS_any (A : Option Addr) (c : Nat) (xs : List Rul) (l : Int) (w : World) (h0 : 0 ≤ l) (h1 : l ≤ 1048576) (hn : xs.length ≤ maxLen) (hx : Rd w A (rulCells xs)) (hs : ∀ s ∈ xs, s.name.size ≤ maxLen) :
    Calls Tryd.prog 12 #[.slice A xs.length c, .int .i64 l] w fun e w' => e = .returned (.int .i64 (rulSz l xs)) ∧ Below w.heap.size w w' := by
  unfold maxLen at hn
  by_cases h : l - (xs.length : Int) < 0
  · rw [show rulSz l xs = -1 by unfold rulSz; rw [if_pos h]]
    go_enter Tryd.func12, Tryd.ntmps12
    go_wp2
    go_ret
    exact ⟨rfl, Below.refl _ _⟩
  · have HT : Hid (rulSz l xs = rulGo (l - xs.length) xs) := by
      show rulSz l xs = _
      unfold rulSz; rw [if_neg h]
    go_enter Tryd.func12, Tryd.ntmps12
    go_wp2
    go_loopw [1, 5] (fun le i wr => ∃ k : Nat, ∃ m : Int, k ≤ xs.length ∧ 0 ≤ m ∧ m ≤ 1048576 ∧ i = .int .i64 k ∧ le = .int .i64 m ∧ Hid (rulGo (l - xs.length) xs = rulGo m (xs.drop k)) ∧ Below w.heap.size w wr) (fun _ i _ => xs.length - (intOf i).toNat)
    case atStart => exact ⟨0, _, by omega, by omega, by omega, rfl, rfl, rfl, Below.refl _ _⟩
    case round =>
      obtain ⟨k, m, hk, hm0, hm1, rfl, rfl, H, hb⟩ := hrel
      by_cases hlt : k < xs.length
      · obtain ⟨b, off, rfl, c0, c1, c2, c3, c4, c5, c6⟩ := Rd.rul (hx.below hb) hlt
        have hsz := hs xs[k] (List.getElem_mem _)
        have Hn := Lib.hid (H.out.trans (rulGo_at hlt))
        clear H
        have Hz : Hid (0 ≤ szStep m xs[k].name.size → szStep m xs[k].name.size ≤ m) := fun hz => by have := szStep_ok hz; omega
        generalize xs[k] = s at *
        by_cases hz : szStep m s.name.size < 0
        · have Hf := Lib.hid (Hn.out.trans (if_pos hz))
          clear Hn
          go_wp2_with (go_at_call 8; refine (szRule_any s _ _ hm0 hm1 hsz).mono ?_; rintro e w1 ⟨rfl, hb1⟩)
          go_ret
          exact ⟨by rw [HT.out, Hf.out]; rfl, btr hb hb1⟩
        · have Hf := Lib.hid (Hn.out.trans (if_neg hz))
          have hle := Hz.out (by omega)
          clear Hn Hz
          go_wp2_with (go_at_call 8; refine (szRule_any s _ _ hm0 hm1 hsz).mono ?_; rintro e w1 ⟨rfl, hb1⟩)
          go_roundw
          case rel => exact ⟨k + 1, _, by omega, by omega, by omega, by go_num, rfl, Hf, hb.trans (hb1.mono hb.size)⟩
          case measure => simp [intOf]; omega
      · have Hf := Lib.hid (H.out.trans (by rw [List.drop_eq_nil_of_le (by omega)]))
        clear H
        go_wp2
        go_ret
        exact ⟨by rw [HT.out, Hf.out]; rfl, hb⟩
set_option maxHeartbeats 400000 in
theorem toRule_any (s : Rul) (w : World) :
    Calls Tryd.prog 10 #[.agg #[.int .i64 s.id, .string s.name, .int .i64 s.rank, .bool s.sec, .bool s.deb, .bool s.am, .int .i64 s.need]] w fun e w' => e = .returned (.agg #[.int .i64 s.id, .string s.name, .int .i64 s.rank, .bool s.sec, .bool s.deb, .bool s.am, .int .i64 s.need]) ∧ Below w.heap.size w w' := by
  go_enter Tryd.func10, Tryd.ntmps10
  go_wp2
  exact bodyPost_ret (v := .agg #[.int .i64 s.id, .string s.name, .int .i64 s.rank, .bool s.sec, .bool s.deb, .bool s.am, .int .i64 s.need]) (by simp [results, Tryd.results10, go_sem]) rfl ⟨rfl, bnew (bnew (bnew (Below.refl _ _) _) _) _⟩
set_option maxHeartbeats 1000000 in
theorem toRuleS_any (A : Option Addr) (c : Nat) (xs : List Rul) (w : World) (hn : xs.length ≤ 1048576) (hx : Rd w A (rulCells xs)) :
    Calls Tryd.prog 14 #[.slice A xs.length c] w fun e w' => ∃ A' c', e = .returned (.slice A' xs.length c') ∧ w'.ownsRow w.heap.size 27 7 (.slice A' xs.length c') xs.length (rulCells xs) ∧ Below w.heap.size w w' := by
  go_enter Tryd.func14, Tryd.ntmps14
  go_wp2_with (at_make; refine wpl_make rfl (.tmp 6) (.tmp 6) 33 rfl el_Rul rfl rfl rfl rfl (by omega) (by unfold maxLen; omega) (Nat.le_refl _) ?_; intro L0 w1 hL0 ho1 hg1)
  go_loopw [4] (fun i wr => ∃ k : Nat, ∃ L : List Value, k ≤ xs.length ∧ i = .int .i64 k ∧ Hid (L.length = xs.length * 7) ∧ Hid (L.take (k * 7) = rulCells (xs.take k)) ∧ wr.ownsRow w.heap.size 27 7 (.slice (some ⟨w.heap.size, 0, none⟩) xs.length xs.length) xs.length L ∧ Below w.heap.size w wr) (fun i _ => xs.length - (intOf i).toNat)
  case atStart => exact ⟨0, L0, by omega, rfl, hL0, by simp [Hid, rulCells], ho1, below_grown hg1 (Nat.le_refl _) (by simp)⟩
  case round =>
    obtain ⟨k, L, hk, rfl, hL, H, ho, hb⟩ := hrel
    clear ho1 hg1 hL0
    by_cases hlt : k < xs.length
    · obtain ⟨b, off, rfl, c0, c1, c2, c3, c4, c5, c6⟩ := Rd.rul (hx.below hb) hlt
      have Hs := Lib.hid (rulCells_succ xs k hlt)
      generalize xs[k] = s at *
      have hlL := hL.out
      go_wp2_with fail
      refine (toRule_any s _).mono ?_
      rintro e w2 ⟨rfl, hb2⟩
      have ho2 := own_below ho hb2
      obtain ⟨u0, f0⟩ := own_some ho2 (k * 7) (by omega)
      have z0 := ho2.frozenAt (k * 7)
      obtain ⟨u1, f1⟩ := own_some ho2 (k * 7 + 1) (by omega)
      have z1 := ho2.frozenAt (k * 7 + 1)
      obtain ⟨u2, f2⟩ := own_some ho2 (k * 7 + 2) (by omega)
      have z2 := ho2.frozenAt (k * 7 + 2)
      obtain ⟨u3, f3⟩ := own_some ho2 (k * 7 + 3) (by omega)
      have z3 := ho2.frozenAt (k * 7 + 3)
      obtain ⟨u4, f4⟩ := own_some ho2 (k * 7 + 4) (by omega)
      have z4 := ho2.frozenAt (k * 7 + 4)
      obtain ⟨u5, f5⟩ := own_some ho2 (k * 7 + 5) (by omega)
      have z5 := ho2.frozenAt (k * 7 + 5)
      obtain ⟨u6, f6⟩ := own_some ho2 (k * 7 + 6) (by omega)
      have z6 := ho2.frozenAt (k * 7 + 6)
      have Hn := Lib.hid (rul_sets L (k * 7) (.int .i64 s.id) (.string s.name) (.int .i64 s.rank) (.bool s.sec) (.bool s.deb) (.bool s.am) (.int .i64 s.need) (by omega))
      have Hm : Hid (∀ M : List Value, M.take (k * 7 + 7) = L.take (k * 7) ++ [.int .i64 s.id, .string s.name, .int .i64 s.rank, .bool s.sec, .bool s.deb, .bool s.am, .int .i64 s.need] → M.take ((k + 1) * 7) = rulCells (xs.take (k + 1))) := by
        intro M hM
        rw [show (k + 1) * 7 = k * 7 + 7 by omega, hM, Hs.out, H.out]
      clear H Hs hlL
      go_wp2
      go_roundw
      case rel => exact ⟨k + 1, _, by omega, by go_num, by simpa using hL, Hm.out _ Hn.out, own_set (own_set (own_set (own_set (own_set (own_set (own_set ho2 _ _) _ _) _ _) _ _) _ _) _ _) _ _, (((((((btr hb hb2).setCell (Nat.le_refl _) _).setCell (Nat.le_refl _) _).setCell (Nat.le_refl _) _).setCell (Nat.le_refl _) _).setCell (Nat.le_refl _) _).setCell (Nat.le_refl _) _).setCell (Nat.le_refl _) _⟩
      case measure => simp [intOf]; omega
    · have hL' := hL.out
      have HL : Hid (L = rulCells xs) := by
        have := H.out
        rw [List.take_of_length_le (by omega), List.take_of_length_le (by omega)] at this
        exact this
      clear H hL hL'
      go_wp2
      go_ret
      exact ⟨_, _, rfl, HL.out ▸ ho, hb⟩
set_option maxHeartbeats 400000 in
theorem eqRule_same (s : Rul) (w : World) :
    Calls Tryd.prog 19 #[.agg #[.int .i64 s.id, .string s.name, .int .i64 s.rank, .bool s.sec, .bool s.deb, .bool s.am, .int .i64 s.need], .agg #[.int .i64 s.id, .string s.name, .int .i64 s.rank, .bool s.sec, .bool s.deb, .bool s.am, .int .i64 s.need]] w fun e w' => e = .returned (.bool true) ∧ Below w.heap.size w w' := by
  go_enter Tryd.func19, Tryd.ntmps19
  go_wp2
  go_ret
  exact ⟨rfl, ((Below.refl _ _).alloc (Nat.le_refl _) _).alloc (by simp) _⟩
set_option maxHeartbeats 400000 in
theorem eqRuleS_same (A A' : Option Addr) (c c' : Nat) (xs : List Rul) (w : World) (hn : xs.length ≤ maxLen) (hx : Rd w A (rulCells xs)) (hx' : Rd w A' (rulCells xs)) :
    Calls Tryd.prog 16 #[.slice A xs.length c, .slice A' xs.length c'] w fun e w' => e = .returned (.bool true) ∧ Below w.heap.size w w' := by
  unfold maxLen at hn
  go_enter Tryd.func16, Tryd.ntmps16
  go_wp2
  go_loopw [5] (fun i wr => ∃ k : Nat, k ≤ xs.length ∧ i = .int .i64 k ∧ Below w.heap.size w wr) (fun i _ => xs.length - (intOf i).toNat)
  case atStart => exact ⟨0, by omega, rfl, Below.refl _ _⟩
  case round =>
    obtain ⟨k, hk, rfl, hb⟩ := hrel
    by_cases hlt : k < xs.length
    · obtain ⟨b, off, rfl, c0, c1, c2, c3, c4, c5, c6⟩ := Rd.rul (hx.below hb) hlt
      obtain ⟨b', off', rfl, d0, d1, d2, d3, d4, d5, d6⟩ := Rd.rul (hx'.below hb) hlt
      have g0 := cell_after c0
      have q0 := cell_after d0
      have g1 := cell_after c1
      have q1 := cell_after d1
      have g2 := cell_after c2
      have q2 := cell_after d2
      have g3 := cell_after c3
      have q3 := cell_after d3
      have g4 := cell_after c4
      have q4 := cell_after d4
      have g5 := cell_after c5
      have q5 := cell_after d5
      have g6 := cell_after c6
      have q6 := cell_after d6
      have hkI : (k : Int) < (xs.length : Int) := by omega
      clear hx hx' c0 d0 c1 d1 c2 d2 c3 d3 c4 d4 c5 d5 c6 d6
      generalize hs : xs[k] = s at *
      clear hs
      go_wp2_with fail
      refine wp_region_after (by kernel_rfl) (by kernel_rfl) ?_
      repeat (go_big_quiet_step ((go_at_call 19; exact Calls.after (eqRule_same s _))))
      refine wpQuiet_nil ?_
      intro nq
      go_wp2
      go_roundw
      case rel => exact ⟨k + 1, by omega, by go_num, hb.trans (nq.bel.mono hb.size)⟩
      case measure => simp [intOf]; omega
    · go_wp2
      go_ret
      exact ⟨rfl, hb⟩
set_option maxHeartbeats 1000000 in
theorem markRuleS_any (A : Option Addr) (c : Nat) (B n : Nat) (cs : List Value) (k : Int) (w : World) (h0 : 0 ≤ k) (h1 : k ≤ 1048576) (hn : n ≤ 2097152) (hx : w.ownsRow B 27 7 (.slice A n c) n cs) :
    Calls Tryd.prog 22 #[.slice A n c, .int .i64 k] w fun e w' => e = .returned (.int .i64 (k + 7 * n)) ∧ w'.ownsRow B 27 7 (.slice A n c) n (rulCells (rulMarks k n)) ∧ w.grownBy w' (Value.slice A n c).ownBlock := by
  go_enter Tryd.func22, Tryd.ntmps22
  go_wp2
  go_loopw [1, 5] (fun q i wr => ∃ j : Nat, ∃ L : List Value, j ≤ n ∧ i = .int .i64 j ∧ q = .int .i64 (k + 7 * j) ∧ Hid (L.length = n * 7) ∧ Hid (L.take (j * 7) = rulCells (rulMarks k j)) ∧ wr.ownsRow B 27 7 (.slice A n c) n L ∧ w.grownBy wr (Value.slice A n c).ownBlock) (fun _ i _ => n - (intOf i).toNat)
  case atStart => exact ⟨0, cs, by omega, rfl, by simp, hx.1, by simp [Hid, rulMarks, rulCells], hx, World.grownBy.refl _ _⟩
  case round =>
    obtain ⟨j, L, hj, rfl, rfl, hL, H, ho, hg⟩ := hrel
    clear hx
    by_cases hlt : j < n
    · obtain ⟨g, rfl, hB, hgs⟩ := own_at ho (by omega)
      obtain ⟨u0, f0⟩ := own_some ho (j * 7) (by omega)
      have z0 := ho.frozenAt (j * 7)
      go_wp2_with fail
      refine (markText_any _ _ (by omega)).mono ?_
      rintro e w2 ⟨rfl, hb2⟩
      have ho2 := own_below (own_set ho (j * 7) (.int .i64 (k + 7 * j))) hb2
      obtain ⟨u1, f1⟩ := own_some ho2 (j * 7 + 1) (by omega)
      have z1 := ho2.frozenAt (j * 7 + 1)
      obtain ⟨u2, f2⟩ := own_some ho2 (j * 7 + 2) (by omega)
      have z2 := ho2.frozenAt (j * 7 + 2)
      obtain ⟨u3, f3⟩ := own_some ho2 (j * 7 + 3) (by omega)
      have z3 := ho2.frozenAt (j * 7 + 3)
      obtain ⟨u4, f4⟩ := own_some ho2 (j * 7 + 4) (by omega)
      have z4 := ho2.frozenAt (j * 7 + 4)
      obtain ⟨u5, f5⟩ := own_some ho2 (j * 7 + 5) (by omega)
      have z5 := ho2.frozenAt (j * 7 + 5)
      obtain ⟨u6, f6⟩ := own_some ho2 (j * 7 + 6) (by omega)
      have z6 := ho2.frozenAt (j * 7 + 6)
      have Hm : Hid (∀ (v2 v3 v4 v5 v6 : Value) (_ : [v2, v3, v4, v5, v6] = ((Rul.mark (k + 7 * j)).cells).drop 2), (((((((L.set (j * 7) (.int .i64 (k + 7 * j))).set (j * 7 + 1) (.string (mtext (k + 7 * j + 1)))).set (j * 7 + 2) v2).set (j * 7 + 3) v3).set (j * 7 + 4) v4).set (j * 7 + 5) v5).set (j * 7 + 6) v6).take ((j + 1) * 7) = rulCells (rulMarks k (j + 1))) := by
        intro v2 v3 v4 v5 v6 hv
        rw [rulMarks_succ, show (j + 1) * 7 = j * 7 + 7 by omega, rul_sets L (j * 7) _ _ _ _ _ _ _ (by have := hL.out; omega), H.out, show (Rul.mark (k + 7 * j)).cells = .int .i64 (k + 7 * j) :: .string (mtext (k + 7 * j + 1)) :: ((Rul.mark (k + 7 * j)).cells).drop 2 from rfl, ← hv]
      clear H
      generalize mtext (k + 7 * j + 1) = t at *
      go_wp2
      go_roundw
      case rel => exact ⟨j + 1, _, by omega, by go_num, by go_num, by simpa using hL, Hm.out _ _ _ _ _ (by simp [Rul.mark, Rul.cells]; exact ⟨by omega, congrArg (· == 0) (by omega), congrArg (· == 0) (by omega), congrArg (· == 0) (by omega), by omega⟩), own_set (own_set (own_set (own_set (own_set (own_set ho2 _ _) _ _) _ _) _ _) _ _) _ _, grown_set (grown_set (grown_set (grown_set (grown_set (grown_set (grown_below (grown_set hg _ _) hb2) _ _) _ _) _ _) _ _) _ _) _ _⟩
      case measure => simp [intOf]; omega
    · have hL' := hL.out
      have HL : Hid (L = rulCells (rulMarks k n)) := by
        have := H.out
        rw [List.take_of_length_le (by omega), show j = n by omega] at this
        exact this
      have hjn : j = n := by omega
      have HJ := Lib.hid hjn
      clear H hL hL' hjn
      go_wp2
      go_ret
      exact ⟨by rw [HJ.out]; rfl, HL.out ▸ ho, hg⟩
theorem Rd.rulHeld {w : World} {A : Option Addr} {k : Int} {n j : Nat} (h : Rd w A (rulCells (rulMarks k n))) (hj : j < n) :
    ∃ b off, A = some ⟨b, off, none⟩ ∧ w.cell? ⟨b, off + j * 7, none⟩ = some (.int .i64 (k + 7 * j)) ∧ w.cell? ⟨b, off + j * 7 + 1, none⟩ = some (.string (mtext (k + 7 * j + 1))) ∧ w.cell? ⟨b, off + j * 7 + 2, none⟩ = some (.int .i64 (k + 7 * j + 1 + 1)) ∧ w.cell? ⟨b, off + j * 7 + 3, none⟩ = some (.bool ((k + 7 * j + 1 + 1 + 1) % 3 == 0)) ∧ w.cell? ⟨b, off + j * 7 + 4, none⟩ = some (.bool ((k + 7 * j + 1 + 1 + 1 + 1) % 3 == 0)) ∧ w.cell? ⟨b, off + j * 7 + 5, none⟩ = some (.bool ((k + 7 * j + 1 + 1 + 1 + 1 + 1) % 3 == 0)) ∧ w.cell? ⟨b, off + j * 7 + 6, none⟩ = some (.int .i64 (k + 7 * j + 1 + 1 + 1 + 1 + 1 + 1)) := by
  have hl : j < (rulMarks k n).length := by rw [rulMarks_len]; exact hj
  obtain ⟨b, off, rfl, c0, c1, c2, c3, c4, c5, c6⟩ := Rd.rul h hl
  rw [rulMarks_get] at c0 c1 c2 c3 c4 c5 c6
  exact ⟨b, off, rfl, c0, c1, c2.trans (congrArg (fun x : Int => some (Value.int .i64 x)) (show k + 7 * (j : Int) + 2 = k + 7 * (j : Int) + 1 + 1 by omega)), c3.trans (congrArg (fun x : Int => some (Value.bool (x % 3 == 0))) (show k + 7 * (j : Int) + 3 = k + 7 * (j : Int) + 1 + 1 + 1 by omega)), c4.trans (congrArg (fun x : Int => some (Value.bool (x % 3 == 0))) (show k + 7 * (j : Int) + 4 = k + 7 * (j : Int) + 1 + 1 + 1 + 1 by omega)), c5.trans (congrArg (fun x : Int => some (Value.bool (x % 3 == 0))) (show k + 7 * (j : Int) + 5 = k + 7 * (j : Int) + 1 + 1 + 1 + 1 + 1 by omega)), c6.trans (congrArg (fun x : Int => some (Value.int .i64 x)) (show k + 7 * (j : Int) + 6 = k + 7 * (j : Int) + 1 + 1 + 1 + 1 + 1 + 1 by omega))⟩
set_option maxHeartbeats 2000000 in
set_option maxRecDepth 100000 in
theorem heldRuleS_any (A : Option Addr) (c : Nat) (n : Nat) (k : Int) (w : World) (h0 : 0 ≤ k) (h1 : k ≤ 1048576) (hn : n ≤ 2097152) (hx : Rd w A (rulCells (rulMarks k n))) :
    Calls Tryd.prog 23 #[.slice A n c, .int .i64 k] w fun e w' => e = .returned (.int .i64 (k + 7 * n)) ∧ Below w.heap.size w w' := by
  go_enter Tryd.func23, Tryd.ntmps23
  go_wp2
  go_loopw [1, 5] (fun q i wr => ∃ j : Nat, j ≤ n ∧ i = .int .i64 j ∧ q = .int .i64 (k + 7 * j) ∧ Below w.heap.size w wr) (fun _ i _ => n - (intOf i).toNat)
  case atStart => exact ⟨0, by omega, rfl, by simp, Below.refl _ _⟩
  case round =>
    obtain ⟨j, hj, rfl, rfl, hb⟩ := hrel
    by_cases hlt : j < n
    · obtain ⟨b, off, rfl, c0, c1, c2, c3, c4, c5, c6⟩ := Rd.rulHeld (hx.below hb) hlt
      have g1 := cell_after c1
      have g2 := cell_after c2
      have g3 := cell_after c3
      have g4 := cell_after c4
      have g5 := cell_after c5
      have g6 := cell_after c6
      have e0 : ((k + 7 * (j : Int)) != (k + 7 * (j : Int))) = false := by simp
      have e2 : ((k + 7 * (j : Int) + 1 + 1) != (k + 7 * (j : Int) + 1 + 1)) = false := by simp
      have e6 : ((k + 7 * (j : Int) + 1 + 1 + 1 + 1 + 1 + 1) != (k + 7 * (j : Int) + 1 + 1 + 1 + 1 + 1 + 1)) = false := by simp
      have hjI : (j : Int) < (n : Int) := by omega
      clear hx c1 c2 c3 c4 c5 c6
      go_wp2_with fail
      refine wp_region_after (by kernel_rfl) (by kernel_rfl) ?_
      repeat (go_big_quiet_step ((go_at_call 44; exact Calls.after (markText_any _ _ (by omega)))))
      refine wpQuiet_nil ?_
      intro nq
      generalize mtext (k + 7 * j + 1) = t at *
      go_wp2
      go_roundw
      case rel => exact ⟨j + 1, by omega, by go_num, by go_num, btr hb nq.bel⟩
      case measure => simp [intOf]; omega
    · have HJ := Lib.hid (show j = n by omega)
      go_wp2
      go_ret
      exact ⟨by rw [HJ.out]; rfl, hb⟩
end Go.Proofs.YtfaphackdhdcaaaDoor

