/-
  Contracts of the functions on rules: whether one is valid, whether a list is. Conditions: lengths within Go's range.
-/
import Derived.Test.YtfaphackdhdcaaaDoorIdxRul
namespace Go.My
open Go.RowKit
def rulOk (s : Rul) : Bool := inB s.id 1 20 && wordB s.name && inB s.rank 0 9 && inB s.need 1 3
def rulFits (pre : List Rul) (s : Rul) : Bool := rulOk s && lastLt Rul.id pre s && !(pre.any fun y => y.name.toList == s.name.toList)
def goodRul (xs : List Rul) : Bool := goodPre rulFits [] xs && decide (xs.length ≤ 8)
end Go.My
namespace Go.Proofs.YtfaphackdhdcaaaDoor
open Go.RowKit Go.My
theorem isNeed_any (n : Int) (w : World) : Calls Tryd.prog 47 #[.int .i64 n] w fun e w' => e = .returned (.bool (inB n 1 3)) ∧ w = w' := by
  go_enter Tryd.func47, Tryd.ntmps47
  go_wp2_with (go_at_call 40; refine (inside_any _ _ _ _).mono ?_; rintro e w' ⟨rfl, rfl⟩)
  go_ret
  exact ⟨rfl, rfl⟩
set_option maxHeartbeats 400000 in
theorem isRule_any (s : Rul) (w : World) (hs : s.name.size ≤ maxLen) :
    Calls Tryd.prog 26 #[.agg #[.int .i64 s.id, .string s.name, .int .i64 s.rank, .bool s.sec, .bool s.deb, .bool s.am, .int .i64 s.need]] w fun e w' => e = .returned (.bool (rulOk s)) ∧ Below w.heap.size w w' := by
  have HE : Hid (rulOk s = (inB s.id 1 20 && wordB s.name && inB s.rank 0 9 && inB s.need 1 3)) := rfl
  by_cases h1 : inB s.id 1 20 = true
  · by_cases h2 : wordB s.name = true
    · by_cases h3 : inB s.rank 0 9 = true
      · have HT : Hid (rulOk s = inB s.need 1 3) := HE.out.trans (by simp [h1, h2, h3])
        go_enter Tryd.func26, Tryd.ntmps26
        go_wp2_with (first | (go_at_call 40; refine (inside_any _ _ _ _).mono ?_; rintro e w' ⟨rfl, rfl⟩) | (go_at_call 46; refine (isWord_any _ _ hs).mono ?_; rintro e w' ⟨rfl, rfl⟩) | (go_at_call 47; refine (isNeed_any _ _).mono ?_; rintro e w' ⟨rfl, rfl⟩))
        go_ret
        exact ⟨by rw [HT.out]; rfl, bnew (Below.refl _ _) _⟩
      · have h3' : inB s.rank 0 9 = false := by simpa using h3
        clear h3
        have HT : Hid (rulOk s = false) := HE.out.trans (by simp [h3'])
        go_enter Tryd.func26, Tryd.ntmps26
        go_wp2_with (first | (go_at_call 40; refine (inside_any _ _ _ _).mono ?_; rintro e w' ⟨rfl, rfl⟩) | (go_at_call 46; refine (isWord_any _ _ hs).mono ?_; rintro e w' ⟨rfl, rfl⟩))
        go_ret
        exact ⟨by rw [HT.out]; rfl, bnew (Below.refl _ _) _⟩
    · have h2' : wordB s.name = false := by simpa using h2
      clear h2
      have HT : Hid (rulOk s = false) := HE.out.trans (by simp [h2'])
      go_enter Tryd.func26, Tryd.ntmps26
      go_wp2_with (first | (go_at_call 40; refine (inside_any _ _ _ _).mono ?_; rintro e w' ⟨rfl, rfl⟩) | (go_at_call 46; refine (isWord_any _ _ hs).mono ?_; rintro e w' ⟨rfl, rfl⟩))
      go_ret
      exact ⟨by rw [HT.out]; rfl, bnew (Below.refl _ _) _⟩
  · have h1' : inB s.id 1 20 = false := by simpa using h1
    clear h1
    have HT : Hid (rulOk s = false) := HE.out.trans (by simp [h1'])
    go_enter Tryd.func26, Tryd.ntmps26
    go_wp2_with (first | (go_at_call 40; refine (inside_any _ _ _ _).mono ?_; rintro e w' ⟨rfl, rfl⟩))
    go_ret
    exact ⟨by rw [HT.out]; rfl, bnew (Below.refl _ _) _⟩
set_option maxHeartbeats 400000 in
theorem l2Single_any (s : Rul) (w : World) (hs : s.name.size ≤ maxLen) :
    Calls Tryd.prog 32 #[.agg #[.int .i64 s.id, .string s.name, .int .i64 s.rank, .bool s.sec, .bool s.deb, .bool s.am, .int .i64 s.need]] w fun e w' => e = .returned (.bool (rulOk s)) ∧ Below w.heap.size w w' := by
  have HE : Hid (rulOk s = (inB s.id 1 20 && wordB s.name && inB s.rank 0 9 && inB s.need 1 3)) := rfl
  by_cases h1 : inB s.id 1 20 = true
  · by_cases h2 : wordB s.name = true
    · by_cases h3 : inB s.rank 0 9 = true
      · have HT : Hid (rulOk s = inB s.need 1 3) := HE.out.trans (by simp [h1, h2, h3])
        go_enter Tryd.func32, Tryd.ntmps32
        go_wp2_with (first | (go_at_call 55; refine (l1In_any _ _ _ _).mono ?_; rintro e w' ⟨rfl, rfl⟩) | (go_at_call 56; refine (l2Word_any _ _ hs).mono ?_; rintro e w' ⟨rfl, rfl⟩))
        go_ret
        exact ⟨by rw [HT.out]; rfl, bnew (Below.refl _ _) _⟩
      · have h3' : inB s.rank 0 9 = false := by simpa using h3
        clear h3
        have HT : Hid (rulOk s = false) := HE.out.trans (by simp [h3'])
        go_enter Tryd.func32, Tryd.ntmps32
        go_wp2_with (first | (go_at_call 55; refine (l1In_any _ _ _ _).mono ?_; rintro e w' ⟨rfl, rfl⟩) | (go_at_call 56; refine (l2Word_any _ _ hs).mono ?_; rintro e w' ⟨rfl, rfl⟩))
        go_ret
        exact ⟨by rw [HT.out]; rfl, bnew (Below.refl _ _) _⟩
    · have h2' : wordB s.name = false := by simpa using h2
      clear h2
      have HT : Hid (rulOk s = false) := HE.out.trans (by simp [h2'])
      go_enter Tryd.func32, Tryd.ntmps32
      go_wp2_with (first | (go_at_call 55; refine (l1In_any _ _ _ _).mono ?_; rintro e w' ⟨rfl, rfl⟩) | (go_at_call 56; refine (l2Word_any _ _ hs).mono ?_; rintro e w' ⟨rfl, rfl⟩))
      go_ret
      exact ⟨by rw [HT.out]; rfl, bnew (Below.refl _ _) _⟩
  · have h1' : inB s.id 1 20 = false := by simpa using h1
    clear h1
    have HT : Hid (rulOk s = false) := HE.out.trans (by simp [h1'])
    go_enter Tryd.func32, Tryd.ntmps32
    go_wp2_with (first | (go_at_call 55; refine (l1In_any _ _ _ _).mono ?_; rintro e w' ⟨rfl, rfl⟩))
    go_ret
    exact ⟨by rw [HT.out]; rfl, bnew (Below.refl _ _) _⟩
theorem closV_any (s : Rul) (q : Nat) (t : ByteArray) (w : World) (hq : w.cell? ⟨q, 1, none⟩ = some (.string t)) :
    Calls Tryd.prog 53 #[.agg #[.int .i64 s.id, .string s.name, .int .i64 s.rank, .bool s.sec, .bool s.deb, .bool s.am, .int .i64 s.need], .pointer (some ⟨q, 0, none⟩)] w fun e w' => e = .returned (.bool (s.name.toList == t.toList)) ∧ Below w.heap.size w w' := by
  have hc := cell_after hq
  have hq2 : (w.alloc (.cells #[.int .i64 s.id, .string s.name, .int .i64 s.rank, .bool s.sec, .bool s.deb, .bool s.am, .int .i64 s.need] 27)).cell? ⟨q, 1, none⟩ = some (.string t) := (World.cell?_alloc_past _ _ _ (World.block_lt_of_cell? w _ hq)).trans hq
  clear hc
  go_enter Tryd.func53, Tryd.ntmps53
  go_wp2
  go_ret
  exact ⟨rfl, bnew (Below.refl _ _) _⟩
set_option maxHeartbeats 1000000 in
theorem isRules_any (A : Option Addr) (c : Nat) (xs : List Rul) (w : World) (hn : xs.length ≤ maxLen) (hlc : xs.length ≤ c) (hx : Rd w A (rulCells xs)) (hs : ∀ s ∈ xs, s.name.size ≤ maxLen) :
    Calls Tryd.prog 29 #[.slice A xs.length c] w fun e w' => e = .returned (.bool (goodRul xs)) ∧ Below w.heap.size w w' := by
  unfold maxLen at hn
  go_enter Tryd.func29, Tryd.ntmps29
  go_wp2
  go_loopw [7] (fun i wr => ∃ k : Nat, k ≤ xs.length ∧ i = .int .i64 k ∧ Hid (goodPre rulFits [] xs = goodPre rulFits (xs.take k) (xs.drop k)) ∧ Below w.heap.size w wr) (fun i _ => xs.length - (intOf i).toNat)
  case atStart => exact ⟨0, by omega, rfl, rfl, Below.refl _ _⟩
  case round =>
    obtain ⟨k, hk, rfl, H, hb⟩ := hrel
    by_cases hlt : k < xs.length
    · obtain ⟨b, off, rfl, c0, c1, c2, c3, c4, c5, c6⟩ := Rd.rul (hx.below hb) hlt
      have hsz := hs xs[k] (List.getElem_mem _)
      have Hn := Lib.hid (H.out.trans (goodPre_at hlt))
      clear H
      have Hcl : Hid (∀ (w1 : World) (t : ByteArray), Rd w1 (some ⟨b, off, none⟩) (rulCells xs) → w1.cell? ⟨wr.heap.size, 1, none⟩ = some (.string t) →
          Calls Tryd.prog 52 #[.slice (some ⟨b, off, none⟩) k c, .func (.func 53) #[] #[.pointer (some ⟨wr.heap.size, 0, none⟩)]] w1 fun e w' => e = .returned (.bool ((xs.take k).any fun y => y.name.toList == t.toList)) ∧ Below w1.heap.size w1 w') := by
        intro w1 t hx1 hq1
        have := containsRulV_any ⟨wr.heap.size, 0, none⟩ (fun y => y.name.toList == t.toList) (some ⟨b, off, none⟩) c (xs.take k) w1 (by rw [List.length_take]; unfold maxLen; omega) (by have := hx1.take (k * 7); rwa [show (rulCells xs).take (k * 7) = rulCells (xs.take k) from flat_take Rul.cells 7 (fun _ => rfl) xs k (by omega)] at this)
          (fun w2 hb2 y _ => closV_any y wr.heap.size t w2 ((hb2.cell (World.block_lt_of_cell? w1 _ hq1)).trans hq1))
        rwa [List.length_take, Nat.min_eq_left (by omega)] at this
      obtain ⟨s, hse⟩ : ∃ s, s = xs[k] := ⟨_, rfl⟩
      rw [← hse] at Hn c0 c1 c2 c3 c4 c5 c6 hsz
      have Hf : Hid (rulFits (xs.take k) s = false → goodRul xs = false) := by
        intro h
        unfold goodRul
        rw [Hn.out, h]; simp
      have HT : Hid (rulFits (xs.take k) s = (rulOk s && lastLt Rul.id (xs.take k) s && !((xs.take k).any fun y => y.name.toList == s.name.toList))) := rfl
      clear hse
      go_wp2_with fail
      have hbw := bnew (Below.refl wr.heap.size wr) (.cells #[.int .i64 s.id, .string s.name, .int .i64 s.rank, .bool s.sec, .bool s.deb, .bool s.am, .int .i64 s.need] 27)
      have hx2 := (hx.below hb).below hbw
      have hNew : ∀ (j : Nat) u, (#[.int .i64 s.id, .string s.name, .int .i64 s.rank, .bool s.sec, .bool s.deb, .bool s.am, .int .i64 s.need] : Array Value)[j]? = some u → (wr.alloc (.cells #[.int .i64 s.id, .string s.name, .int .i64 s.rank, .bool s.sec, .bool s.deb, .bool s.am, .int .i64 s.need] 27)).cell? ⟨wr.heap.size, j, none⟩ = some u := fun j u h => (World.cell?_alloc_at _ _ _ _ rfl).trans h
      generalize wr.alloc (.cells #[.int .i64 s.id, .string s.name, .int .i64 s.rank, .bool s.sec, .bool s.deb, .bool s.am, .int .i64 s.need] 27) = w2 at *
      have g0 := cell_after (hNew 0 _ rfl)
      have g1 := cell_after (hNew 1 _ rfl)
      have g2 := cell_after (hNew 2 _ rfl)
      have g3 := cell_after (hNew 3 _ rfl)
      have g4 := cell_after (hNew 4 _ rfl)
      have g5 := cell_after (hNew 5 _ rfl)
      have g6 := cell_after (hNew 6 _ rfl)
      clear hNew c0 c1 c2 c3 c4 c5 c6
      have hkI : (k : Int) < (xs.length : Int) := by omega
      by_cases hok : rulOk s = true
      · by_cases hk0 : k = 0
        · subst hk0
          have Hr : Hid (goodPre rulFits [] xs = goodPre rulFits (xs.take (0 + 1)) (xs.drop (0 + 1))) := Hn.out.trans (by rw [HT.out, hok, lastLt_zero]; simp)
          clear Hn HT Hf
          have ha : ((xs.take 0).any fun y => y.name.toList == s.name.toList) = false := rfl
          refine wp_region_after (by kernel_rfl) (by kernel_rfl) ?_
          repeat (go_big_quiet_step ((first | (go_at_call 26; exact Calls.after (isRule_any s _ hsz)) | (go_at_call 52; exact Calls.after (Hcl.out _ _ (hx2.below (After.bel _)) (g1 _))))))
          refine wpQuiet_nil ?_
          intro nq
          go_wp2
          go_roundw
          case rel => exact ⟨0 + 1, by omega, by go_num, Hr, btr hb (btr hbw nq.bel)⟩
          case measure => simp [intOf]; omega
        · obtain ⟨k1, hke⟩ : ∃ k1, k = k1 + 1 := ⟨k - 1, by omega⟩
          have hk1l : k1 < xs.length := by omega
          obtain ⟨b', off', e', p0, -⟩ := Rd.rul hx2 (show k1 < xs.length by omega)
          have k2 : b' = b ∧ off' = off := by simpa using e'.symm
          obtain ⟨rfl, rfl⟩ := k2
          clear e'
          have HL : Hid (lastLt Rul.id (xs.take k) s = decide (xs[k1].id < s.id)) := by rw [hke]; exact lastLt_succ Rul.id xs k1 (by omega) s
          generalize xs[k1].id = pid at *
          have gp := cell_after p0
          clear p0
          have hk1 : (k : Int) - 1 = (k1 : Int) := by omega
          have hk0I : (0 : Int) < (k : Int) := by omega
          have hk0N : 0 < k := by omega
          have hd1 : decide ((0 : Int) < (k : Int)) = true := by simp; omega
          have hd2 : decide (0 < k) = true := by simp; omega
          clear hke
          have hkc : k ≤ c := by omega
          have hkcI : (k : Int) ≤ (c : Int) := by omega
          by_cases hp : pid < s.id
          · have hp1 : ¬ s.id ≤ pid := by omega
            have hp2 : decide (s.id ≤ pid) = false := by simp; omega
            by_cases hq : ((xs.take k).any fun y => y.name.toList == s.name.toList) = true
            · have Hr := Lib.hid (Hf.out (by rw [HT.out, hq]; simp))
              clear Hf HT Hn HL
              refine wp_region_after (by kernel_rfl) (by kernel_rfl) ?_
              repeat (go_big_quiet_step ((first | (go_at_call 26; exact Calls.after (isRule_any s _ hsz)) | (go_at_call 52; exact Calls.after (Hcl.out _ _ (hx2.below (After.bel _)) (g1 _))))))
              refine wpQuiet_nil ?_
              intro nq
              go_wp2
              go_ret
              exact ⟨by rw [Hr.out]; rfl, btr hb (btr hbw nq.bel)⟩
            · have hq' : ((xs.take k).any fun y => y.name.toList == s.name.toList) = false := by simpa using hq
              have Hr : Hid (goodPre rulFits [] xs = goodPre rulFits (xs.take (k + 1)) (xs.drop (k + 1))) := Hn.out.trans (by rw [HT.out, hok, HL.out, hq']; simp [hp])
              clear hq Hf HT Hn HL
              refine wp_region_after (by kernel_rfl) (by kernel_rfl) ?_
              repeat (go_big_quiet_step ((first | (go_at_call 26; exact Calls.after (isRule_any s _ hsz)) | (go_at_call 52; exact Calls.after (Hcl.out _ _ (hx2.below (After.bel _)) (g1 _))))))
              refine wpQuiet_nil ?_
              intro nq
              go_wp2
              go_roundw
              case rel => exact ⟨k + 1, by omega, by go_num, Hr, btr hb (btr hbw nq.bel)⟩
              case measure => simp [intOf]; omega
          · have hp1 : s.id ≤ pid := by omega
            have hp2 : decide (s.id ≤ pid) = true := by simp; omega
            have Hr := Lib.hid (Hf.out (by rw [HT.out, HL.out]; simp [hp]))
            clear Hf HT Hn HL
            refine wp_region_after (by kernel_rfl) (by kernel_rfl) ?_
            repeat (go_big_quiet_step ((first | (go_at_call 26; exact Calls.after (isRule_any s _ hsz)) | (go_at_call 52; exact Calls.after (Hcl.out _ _ (hx2.below (After.bel _)) (g1 _))))))
            refine wpQuiet_nil ?_
            intro nq
            go_wp2
            go_ret
            exact ⟨by rw [Hr.out]; rfl, btr hb (btr hbw nq.bel)⟩
      · have hok' : rulOk s = false := by simpa using hok
        have Hr := Lib.hid (Hf.out (by rw [HT.out, hok']; rfl))
        clear Hf HT Hn hok Hcl
        refine wp_region_after (by kernel_rfl) (by kernel_rfl) ?_
        repeat (go_big_quiet_step ((go_at_call 26; exact Calls.after (isRule_any s _ hsz))))
        refine wpQuiet_nil ?_
        intro nq
        go_wp2
        go_ret
        exact ⟨by rw [Hr.out]; rfl, btr hb (btr hbw nq.bel)⟩
    · have Hn : Hid (goodRul xs = decide ((xs.length : Int) ≤ 8)) := by
        show _ = _
        unfold goodRul
        rw [H.out, List.drop_eq_nil_of_le (by omega)]; simp [goodPre]; omega
      clear H
      go_wp2
      go_ret
      exact ⟨by rw [Hn.out]; rfl, hb⟩
set_option maxHeartbeats 1000000 in
theorem l2Good_any (A : Option Addr) (c : Nat) (xs : List Rul) (w : World) (hn : xs.length ≤ maxLen) (_ : xs.length ≤ c) (hx : Rd w A (rulCells xs)) (hs : ∀ s ∈ xs, s.name.size ≤ maxLen) :
    Calls Tryd.prog 35 #[.slice A xs.length c] w fun e w' => e = .returned (.bool (goodRul xs)) ∧ Below w.heap.size w w' := by
  unfold maxLen at hn
  go_enter Tryd.func35, Tryd.ntmps35
  go_wp2
  go_loopw [3] (fun i wr => ∃ k : Nat, k ≤ xs.length ∧ k ≤ 9 ∧ i = .int .i64 k ∧ Hid (goodPre rulFits [] xs = goodPre rulFits (xs.take k) (xs.drop k)) ∧ Below w.heap.size w wr) (fun i _ => xs.length - (intOf i).toNat)
  case atStart => exact ⟨0, by omega, by omega, rfl, rfl, Below.refl _ _⟩
  case round =>
    obtain ⟨k, hk, hk9, rfl, H, hb⟩ := hrel
    by_cases hlt : k < xs.length ∧ k ≤ 8
    · obtain ⟨hlt, hk8⟩ := hlt
      obtain ⟨b, off, rfl, c0, c1, c2, c3, c4, c5, c6⟩ := Rd.rul (hx.below hb) hlt
      have hsz := hs xs[k] (List.getElem_mem _)
      have Hn := Lib.hid (H.out.trans (goodPre_at hlt))
      clear H
      have hx2 := hx.below hb
      obtain ⟨s, hse⟩ : ∃ s, s = xs[k] := ⟨_, rfl⟩
      rw [← hse] at Hn c0 c1 c2 c3 c4 c5 c6 hsz
      have Hf : Hid (rulFits (xs.take k) s = false → goodRul xs = false) := by
        intro h
        unfold goodRul
        rw [Hn.out, h]; simp
      have HT : Hid (rulFits (xs.take k) s = (rulOk s && lastLt Rul.id (xs.take k) s && !((xs.take k).any fun y => y.name.toList == s.name.toList))) := rfl
      have HSE := Lib.hid hse
      clear hse
      have g0 := cell_after c0
      have g1 := cell_after c1
      have g2 := cell_after c2
      have g3 := cell_after c3
      have g4 := cell_after c4
      have g5 := cell_after c5
      have g6 := cell_after c6
      have hkI : (k : Int) < (xs.length : Int) := by omega
      by_cases hok : rulOk s = true
      · by_cases hk0 : k = 0
        · have hL : lastLt Rul.id (xs.take k) s = true := by rw [hk0]; rfl
          have hk0N : ¬ 0 < k := by omega
          have hk0I : ¬ (0 : Int) < (k : Int) := by omega
          have hd1 : decide ((0 : Int) < (k : Int)) = false := by simp; omega
          have hd2 : decide (0 < k) = false := by simp; omega
          clear hk0
          have HLL := Lib.hid hL
          clear hL
          clear c0 c1 c2 c3 c4 c5 c6
          go_wp2_with fail
          refine wp_region_after (by kernel_rfl) (by kernel_rfl) ?_
          repeat (go_big_quiet_step ((go_at_call 32; exact Calls.after (l2Single_any s _ hsz))))
          refine wpQuiet_nil ?_
          intro nq
          have hbn := btr hb nq.bel
          generalize nq.val = wn at *
          clear nq
          go_wp2
          go_loopw [4] (fun q wr => ∃ j : Nat, j ≤ k ∧ q = .int .i64 j ∧ Hid (((xs.take j).any fun y => y.name.toList == s.name.toList) = false) ∧ Below w.heap.size w wr) (fun q _ => k - (intOf q).toNat)
          case atStart => exact ⟨0, by omega, rfl, rfl, hbn⟩
          case round =>
            obtain ⟨j, hj, rfl, HJ, hbj⟩ := hrel
            by_cases hjk : j < k
            · exfalso; omega
            · have hjk' : j = k := by omega
              have Hr : Hid (goodPre rulFits [] xs = goodPre rulFits (xs.take (k + 1)) (xs.drop (k + 1))) := Hn.out.trans (by rw [HT.out, hok, HLL.out, ← hjk', HJ.out]; simp)
              clear Hn HT Hf HJ
              go_wp2
              go_roundw
              case rel => exact ⟨k + 1, by omega, by omega, by go_num, Hr, hbj⟩
              case measure => simp [intOf]; omega
        · obtain ⟨k1, hke⟩ : ∃ k1, k = k1 + 1 := ⟨k - 1, by omega⟩
          have hk1l : k1 < xs.length := by omega
          obtain ⟨b', off', e', p0, -⟩ := Rd.rul hx2 (show k1 < xs.length by omega)
          have k2 : b' = b ∧ off' = off := by simpa using e'.symm
          obtain ⟨rfl, rfl⟩ := k2
          clear e'
          have HL : Hid (lastLt Rul.id (xs.take k) s = decide (xs[k1].id < s.id)) := by rw [hke]; exact lastLt_succ Rul.id xs k1 (by omega) s
          generalize xs[k1].id = pid at *
          have gp := cell_after p0
          have hk1 : (k : Int) - 1 = (k1 : Int) := by omega
          have hk0I : (0 : Int) < (k : Int) := by omega
          have hk0N : 0 < k := by omega
          have hd1 : decide ((0 : Int) < (k : Int)) = true := by simp; omega
          have hd2 : decide (0 < k) = true := by simp; omega
          clear hke
          by_cases hp : pid < s.id
          · have hp1 : ¬ s.id ≤ pid := by omega
            have hp2 : decide (s.id ≤ pid) = false := by simp; omega
            have hL : lastLt Rul.id (xs.take k) s = true := HL.out.trans (by simp [hp])
            clear HL
            have HLL := Lib.hid hL
            clear hL
            clear c0 c1 c2 c3 c4 c5 c6 p0
            go_wp2_with fail
            refine wp_region_after (by kernel_rfl) (by kernel_rfl) ?_
            repeat (go_big_quiet_step ((go_at_call 32; exact Calls.after (l2Single_any s _ hsz))))
            refine wpQuiet_nil ?_
            intro nq
            have hbn := btr hb nq.bel
            generalize nq.val = wn at *
            clear nq
            go_wp2
            go_loopw [4] (fun q wr => ∃ j : Nat, j ≤ k ∧ q = .int .i64 j ∧ Hid (((xs.take j).any fun y => y.name.toList == s.name.toList) = false) ∧ Below w.heap.size w wr) (fun q _ => k - (intOf q).toNat)
            case atStart => exact ⟨0, by omega, rfl, rfl, hbn⟩
            case round =>
              obtain ⟨j, hj, rfl, HJ, hbj⟩ := hrel
              by_cases hjk : j < k
              · obtain ⟨b2, off2, e2, d0, d1, -⟩ := Rd.rul (hx.below hbj) (show j < xs.length by omega)
                have k2 : b2 = b' ∧ off2 = off' := by simpa using e2.symm
                obtain ⟨rfl, rfl⟩ := k2
                clear e2
                obtain ⟨b3, off3, e3, f0, f1, -⟩ := Rd.rul (hx.below hbj) hlt
                have k3 : b3 = b2 ∧ off3 = off2 := by simpa using e3.symm
                obtain ⟨rfl, rfl⟩ := k3
                clear e3
                rw [← HSE.out] at f1
                have HA := Lib.hid (any_take_succ (fun y : Rul => y.name.toList == s.name.toList) xs j (by omega))
                generalize xs[j].name = t at *
                have q1 := cell_after d1
                have q2 := cell_after f1
                clear d0 d1 f0 f1
                have hjI : (j : Int) < (xs.length : Int) := by omega
                by_cases ht : (t.toList == s.name.toList) = true
                · have Hr := Lib.hid (Hf.out (by rw [HT.out, any_take_mono (show j + 1 ≤ k by omega) (by rw [HA.out, ht]; simp)]; simp))
                  clear Hf HT Hn HA HJ
                  go_wp2_with fail
                  refine wp_region_after (by kernel_rfl) (by kernel_rfl) ?_
                  repeat (go_big_quiet_step (fail))
                  refine wpQuiet_nil ?_
                  intro nj
                  go_wp2
                  go_ret
                  exact ⟨by rw [Hr.out]; rfl, btr hbj nj.bel⟩
                · have ht' : (t.toList == s.name.toList) = false := by simpa using ht
                  have HJn : Hid (((xs.take (j + 1)).any fun y => y.name.toList == s.name.toList) = false) := HA.out.trans (by rw [HJ.out, ht']; rfl)
                  clear ht HA HJ
                  go_wp2_with fail
                  refine wp_region_after (by kernel_rfl) (by kernel_rfl) ?_
                  repeat (go_big_quiet_step (fail))
                  refine wpQuiet_nil ?_
                  intro nj
                  go_wp2
                  go_roundw
                  case rel => exact ⟨j + 1, by omega, by go_num, HJn, btr hbj nj.bel⟩
                  case measure => simp [intOf]; omega
              · have hjk' : j = k := by omega
                have Hr : Hid (goodPre rulFits [] xs = goodPre rulFits (xs.take (k + 1)) (xs.drop (k + 1))) := Hn.out.trans (by rw [HT.out, hok, HLL.out, ← hjk', HJ.out]; simp)
                clear Hn HT Hf HJ
                go_wp2
                go_roundw
                case rel => exact ⟨k + 1, by omega, by omega, by go_num, Hr, hbj⟩
                case measure => simp [intOf]; omega
          · have hp1 : s.id ≤ pid := by omega
            have hp2 : decide (s.id ≤ pid) = true := by simp; omega
            have Hr := Lib.hid (Hf.out (by rw [HT.out, HL.out]; simp [hp]))
            clear Hf HT Hn HL c0 c1 c2 c3 c4 c5 c6 p0
            go_wp2_with fail
            refine wp_region_after (by kernel_rfl) (by kernel_rfl) ?_
            repeat (go_big_quiet_step ((go_at_call 32; exact Calls.after (l2Single_any s _ hsz))))
            refine wpQuiet_nil ?_
            intro nq
            go_wp2
            go_ret
            exact ⟨by rw [Hr.out]; rfl, btr hb nq.bel⟩
      · have hok' : rulOk s = false := by simpa using hok
        have Hr := Lib.hid (Hf.out (by rw [HT.out, hok']; rfl))
        clear Hf HT Hn hok c0 c1 c2 c3 c4 c5 c6
        go_wp2_with fail
        refine wp_region_after (by kernel_rfl) (by kernel_rfl) ?_
        repeat (go_big_quiet_step ((go_at_call 32; exact Calls.after (l2Single_any s _ hsz))))
        refine wpQuiet_nil ?_
        intro nq
        go_wp2
        go_ret
        exact ⟨by rw [Hr.out]; rfl, btr hb nq.bel⟩
    · have Hn : Hid (goodRul xs = decide ((xs.length : Int) ≤ 8)) := by
        show _ = _
        unfold goodRul
        by_cases hl : xs.length ≤ 8
        · rw [H.out, List.drop_eq_nil_of_le (by omega)]; simp [goodPre]; omega
        · rw [decide_eq_false hl, decide_eq_false (by omega)]; simp
      clear H
      by_cases hk8 : k ≤ 8
      · have hk8l : ¬ k < xs.length := by omega
        clear hlt
        go_wp2
        go_ret
        exact ⟨by rw [Hn.out]; rfl, hb⟩
      · clear hlt
        go_wp2
        all_goals
          go_ret
          exact ⟨by rw [Hn.out]; rfl, hb⟩
end Go.Proofs.YtfaphackdhdcaaaDoor
