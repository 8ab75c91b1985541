/-
  Contracts of the functions on agendas: whether one is valid, the index of an item, whether a meeting is. Conditions: lengths within Go's range.
-/
import Derived.Test.YtfpjelpbeicdoaaGreatDoorIdxItm
namespace Go.My
open Go.RowKit
def itmOk (s : Itm) : Bool := inB s.id 1 99 && wordB s.title && inB s.mins 1 240 && (decide (s.time = -1) || inB s.time 0 1439)
def itmFits (pre : List Itm) (s : Itm) : Bool := itmOk s && !(pre.any fun y => y.id == s.id)
def goodItm (xs : List Itm) : Bool := goodPre itmFits [] xs && decide (xs.length ≤ 10)
def meets (xs : List Itm) (t : Int) : Bool := goodItm xs && inB t 0 1439
end Go.My
namespace Go.Proofs.YtfpjelpbeicdoaaGreatDoor
open Go.RowKit Go.My
theorem isMinute_any (n : Int) (w : World) : Calls Tryz.prog 34 #[.int .i64 n] w fun e w' => e = .returned (.bool (inB n 0 1439)) ∧ w = w' := by
  go_enter Tryz.func34, Tryz.ntmps34
  go_wp2_with (go_at_call 28; refine (inside_any _ _ _ _).mono ?_; rintro e w' ⟨rfl, rfl⟩)
  go_ret
  exact ⟨rfl, rfl⟩
theorem l5Minute_any (n : Int) (w : World) : Calls Tryz.prog 48 #[.int .i64 n] w fun e w' => e = .returned (.bool (inB n 0 1439)) ∧ w = w' := by
  go_enter Tryz.func48, Tryz.ntmps48
  go_wp2_with (go_at_call 52; refine (l1In_any _ _ _ _).mono ?_; rintro e w' ⟨rfl, rfl⟩)
  go_ret
  exact ⟨rfl, rfl⟩
theorem closI_any (s : Itm) (q : Nat) (t : Int) (w : World) (hq : w.cell? ⟨q, 0, none⟩ = some (.int .i64 t)) :
    Calls Tryz.prog 56 #[.agg #[.int .i64 s.id, .string s.title, .int .i64 s.mins, .int .i64 s.time], .pointer (some ⟨q, 0, none⟩)] w fun e w' => e = .returned (.bool (s.id == t)) ∧ Below w.heap.size w w' := by
  have hq2 : (w.alloc (.cells #[.int .i64 s.id, .string s.title, .int .i64 s.mins, .int .i64 s.time] 34)).cell? ⟨q, 0, none⟩ = some (.int .i64 t) := (World.cell?_alloc_past _ _ _ (World.block_lt_of_cell? w _ hq)).trans hq
  go_enter Tryz.func56, Tryz.ntmps56
  go_wp2
  go_ret
  exact ⟨rfl, bnew (Below.refl _ _) _⟩
theorem itemIndex_any (A : Option Addr) (c : Nat) (xs : List Itm) (i : Int) (w : World) (hn : xs.length ≤ maxLen) (hx : Rd w A (itmCells xs)) :
    Calls Tryz.prog 35 #[.slice A xs.length c, .int .i64 i] w fun e w' => e = .returned (.int .i64 (idxOf (fun s : Itm => s.id == i) xs)) ∧ Below w.heap.size w w' := by
  have hc := Lib.hid (indexItmI_any ⟨w.heap.size, 0, none⟩ (fun s : Itm => s.id == i) A c xs (w.alloc (.cells #[.int .i64 i] 3)) hn (hx.alloc _)
    (fun w1 hb s _ => closI_any s w.heap.size i w1 ((hb.cell (by simp)).trans ((World.cell?_alloc_at _ _ _ _ rfl).trans rfl))))
  clear hx
  generalize idxOf (fun s : Itm => s.id == i) xs = v at *
  go_enter Tryz.func35, Tryz.ntmps35
  go_wp2_with (go_at_call 55; refine hc.out.mono ?_; rintro e w' ⟨rfl, hb⟩)
  go_ret
  exact ⟨rfl, btr (bnew (Below.refl _ _) _) hb⟩
set_option maxHeartbeats 2000000 in
theorem isAgenda_any (A : Option Addr) (c : Nat) (xs : List Itm) (w : World) (hn : xs.length ≤ maxLen) (hlc : xs.length ≤ c) (hx : Rd w A (itmCells xs)) (hs : ∀ s ∈ xs, s.title.size ≤ maxLen) :
    Calls Tryz.prog 17 #[.slice A xs.length c] w fun e w' => e = .returned (.bool (goodItm xs)) ∧ Below w.heap.size w w' := by
  unfold maxLen at hn
  go_enter Tryz.func17, Tryz.ntmps17
  go_wp2
  go_loopw [7] (fun i wr => ∃ k : Nat, k ≤ xs.length ∧ i = .int .i64 k ∧ Hid (goodPre itmFits [] xs = goodPre itmFits (xs.take k) (xs.drop k)) ∧ Below w.heap.size w wr) (fun i _ => xs.length - (intOf i).toNat)
  case atStart => exact ⟨0, by omega, rfl, rfl, Below.refl _ _⟩
  case round =>
    obtain ⟨k, hk, rfl, H, hb⟩ := hrel
    by_cases hlt : k < xs.length
    · obtain ⟨b, off, rfl, c0, c1, c2, c3⟩ := Rd.itm (hx.below hb) hlt
      have hsz := hs xs[k] (List.getElem_mem _)
      have Hn := Lib.hid (H.out.trans (goodPre_at hlt))
      clear H
      have Hcl : Hid (∀ (w1 : World), Rd w1 (some ⟨b, off, none⟩) (itmCells xs) →
          Calls Tryz.prog 35 #[.slice (some ⟨b, off, none⟩) k c, .int .i64 xs[k].id] w1 fun e w' => e = .returned (.int .i64 (idxOf (fun y : Itm => y.id == xs[k].id) (xs.take k))) ∧ Below w1.heap.size w1 w') := by
        intro w1 hx1
        have := itemIndex_any (some ⟨b, off, none⟩) c (xs.take k) xs[k].id w1 (by rw [List.length_take]; unfold maxLen; omega) (by have := hx1.take (k * 4); rwa [show (itmCells xs).take (k * 4) = itmCells (xs.take k) from flat_take Itm.cells 4 (fun _ => rfl) xs k (by omega)] at this)
        rwa [List.length_take, Nat.min_eq_left (by omega)] at this
      have HA := Lib.hid (idxOf_any (fun y : Itm => y.id == xs[k].id) (xs.take k))
      obtain ⟨s, hse⟩ : ∃ s, s = xs[k] := ⟨_, rfl⟩
      rw [← hse] at Hn c0 c1 c2 c3 hsz Hcl HA
      have Hf : Hid (itmFits (xs.take k) s = false → goodItm xs = false) := by
        intro h
        unfold goodItm
        rw [Hn.out, h]; simp
      have HT : Hid (itmFits (xs.take k) s = (itmOk s && !((xs.take k).any fun y => y.id == s.id))) := rfl
      have HO : Hid (itmOk s = (inB s.id 1 99 && wordB s.title && inB s.mins 1 240 && (decide (s.time = -1) || inB s.time 0 1439))) := rfl
      clear hse
      generalize idxOf (fun y : Itm => y.id == s.id) (xs.take k) = v at *
      go_wp2_with fail
      have hbw := bnew (Below.refl wr.heap.size wr) (.cells #[.int .i64 s.id, .string s.title, .int .i64 s.mins, .int .i64 s.time] 34)
      have hx2 := (hx.below hb).below hbw
      have hNew : ∀ (j : Nat) u, (#[.int .i64 s.id, .string s.title, .int .i64 s.mins, .int .i64 s.time] : Array Value)[j]? = some u → (wr.alloc (.cells #[.int .i64 s.id, .string s.title, .int .i64 s.mins, .int .i64 s.time] 34)).cell? ⟨wr.heap.size, j, none⟩ = some u := fun j u h => (World.cell?_alloc_at _ _ _ _ rfl).trans h
      generalize wr.alloc (.cells #[.int .i64 s.id, .string s.title, .int .i64 s.mins, .int .i64 s.time] 34) = w2 at *
      have g0 := cell_after (hNew 0 _ rfl)
      have g1 := cell_after (hNew 1 _ rfl)
      have g2 := cell_after (hNew 2 _ rfl)
      have g3 := cell_after (hNew 3 _ rfl)
      clear hNew c0 c1 c2 c3
      have hkI : (k : Int) < (xs.length : Int) := by omega
      have hkc : k ≤ c := by omega
      have hkcI : (k : Int) ≤ (c : Int) := by omega
      by_cases h1 : inB s.id 1 99 = true
      · by_cases h2 : wordB s.title = true
        · by_cases h3 : inB s.mins 1 240 = true
          · by_cases h4 : s.time = -1
            · have h41 : (decide (s.time = -1) || inB s.time 0 1439) = true := by rw [h4]; rfl
              have H41 := Lib.hid h41
              clear h41
              by_cases hi : 0 ≤ v
              · have hi1 : decide (0 ≤ v) = true := by simpa using hi
                have Hr := Lib.hid (Hf.out (by rw [HT.out, ← HA.out, hi1]; simp))
                clear Hf HT HO Hn HA
                refine wp_region_after (by kernel_rfl) (by kernel_rfl) ?_
                repeat (go_big_quiet_step ((first | (go_at_call 28; exact Calls.after_same (inside_any _ _ _ _)) | (go_at_call 33; exact Calls.after_same (isWord_any _ _ hsz)) | (go_at_call 34; exact Calls.after_same (isMinute_any _ _)) | (go_at_call 35; exact Calls.after (Hcl.out _ (hx2.below (After.bel _)))))))
                refine wpQuiet_nil ?_
                intro nq
                go_wp2
                go_ret
                exact ⟨by rw [Hr.out]; rfl, btr hb (btr hbw nq.bel)⟩
              · have hi1 : decide (0 ≤ v) = false := by simpa using hi
                have Hr : Hid (goodPre itmFits [] xs = goodPre itmFits (xs.take (k + 1)) (xs.drop (k + 1))) := Hn.out.trans (by rw [HT.out, HO.out, ← HA.out, hi1, h1, h2, h3, H41.out]; simp)
                clear Hf HT HO Hn HA
                refine wp_region_after (by kernel_rfl) (by kernel_rfl) ?_
                repeat (go_big_quiet_step ((first | (go_at_call 28; exact Calls.after_same (inside_any _ _ _ _)) | (go_at_call 33; exact Calls.after_same (isWord_any _ _ hsz)) | (go_at_call 34; exact Calls.after_same (isMinute_any _ _)) | (go_at_call 35; exact Calls.after (Hcl.out _ (hx2.below (After.bel _)))))))
                refine wpQuiet_nil ?_
                intro nq
                go_wp2
                go_roundw
                case rel => exact ⟨k + 1, by omega, by go_num, Hr, btr hb (btr hbw nq.bel)⟩
                case measure => simp [intOf]; omega
            · have h4n : (s.time != -1) = true := by simpa using h4
              have h4d : decide (s.time = -1) = false := by simpa using h4
              by_cases h5 : inB s.time 0 1439 = true
              · have h41 : (decide (s.time = -1) || inB s.time 0 1439) = true := by rw [h5]; simp
                have H41 := Lib.hid h41
                clear h41 h4d
                by_cases hi : 0 ≤ v
                · have hi1 : decide (0 ≤ v) = true := by simpa using hi
                  have Hr := Lib.hid (Hf.out (by rw [HT.out, ← HA.out, hi1]; simp))
                  clear Hf HT HO Hn HA
                  refine wp_region_after (by kernel_rfl) (by kernel_rfl) ?_
                  repeat (go_big_quiet_step ((first | (go_at_call 28; exact Calls.after_same (inside_any _ _ _ _)) | (go_at_call 33; exact Calls.after_same (isWord_any _ _ hsz)) | (go_at_call 34; exact Calls.after_same (isMinute_any _ _)) | (go_at_call 35; exact Calls.after (Hcl.out _ (hx2.below (After.bel _)))))))
                  refine wpQuiet_nil ?_
                  intro nq
                  go_wp2
                  go_ret
                  exact ⟨by rw [Hr.out]; rfl, btr hb (btr hbw nq.bel)⟩
                · have hi1 : decide (0 ≤ v) = false := by simpa using hi
                  have Hr : Hid (goodPre itmFits [] xs = goodPre itmFits (xs.take (k + 1)) (xs.drop (k + 1))) := Hn.out.trans (by rw [HT.out, HO.out, ← HA.out, hi1, h1, h2, h3, H41.out]; simp)
                  clear Hf HT HO Hn HA
                  refine wp_region_after (by kernel_rfl) (by kernel_rfl) ?_
                  repeat (go_big_quiet_step ((first | (go_at_call 28; exact Calls.after_same (inside_any _ _ _ _)) | (go_at_call 33; exact Calls.after_same (isWord_any _ _ hsz)) | (go_at_call 34; exact Calls.after_same (isMinute_any _ _)) | (go_at_call 35; exact Calls.after (Hcl.out _ (hx2.below (After.bel _)))))))
                  refine wpQuiet_nil ?_
                  intro nq
                  go_wp2
                  go_roundw
                  case rel => exact ⟨k + 1, by omega, by go_num, Hr, btr hb (btr hbw nq.bel)⟩
                  case measure => simp [intOf]; omega
              · have h5' : inB s.time 0 1439 = false := by simpa using h5
                have Hr := Lib.hid (Hf.out (by rw [HT.out, HO.out, h4d, h5']; simp))
                clear Hf HT HO Hn h5 HA h4d
                refine wp_region_after (by kernel_rfl) (by kernel_rfl) ?_
                repeat (go_big_quiet_step ((first | (go_at_call 28; exact Calls.after_same (inside_any _ _ _ _)) | (go_at_call 33; exact Calls.after_same (isWord_any _ _ hsz)) | (go_at_call 34; exact Calls.after_same (isMinute_any _ _)) | (go_at_call 35; exact Calls.after (Hcl.out _ (hx2.below (After.bel _)))))))
                refine wpQuiet_nil ?_
                intro nq
                go_wp2
                go_ret
                exact ⟨by rw [Hr.out]; rfl, btr hb (btr hbw nq.bel)⟩
          · have h3' : inB s.mins 1 240 = false := by simpa using h3
            have Hr := Lib.hid (Hf.out (by rw [HT.out, HO.out, h3']; simp))
            clear Hf HT HO Hn h3 HA
            refine wp_region_after (by kernel_rfl) (by kernel_rfl) ?_
            repeat (go_big_quiet_step ((first | (go_at_call 28; exact Calls.after_same (inside_any _ _ _ _)) | (go_at_call 33; exact Calls.after_same (isWord_any _ _ hsz)) | (go_at_call 34; exact Calls.after_same (isMinute_any _ _)) | (go_at_call 35; exact Calls.after (Hcl.out _ (hx2.below (After.bel _)))))))
            refine wpQuiet_nil ?_
            intro nq
            go_wp2
            go_ret
            exact ⟨by rw [Hr.out]; rfl, btr hb (btr hbw nq.bel)⟩
        · have h2' : wordB s.title = false := by simpa using h2
          have Hr := Lib.hid (Hf.out (by rw [HT.out, HO.out, h2']; simp))
          clear Hf HT HO Hn h2 HA
          refine wp_region_after (by kernel_rfl) (by kernel_rfl) ?_
          repeat (go_big_quiet_step ((first | (go_at_call 28; exact Calls.after_same (inside_any _ _ _ _)) | (go_at_call 33; exact Calls.after_same (isWord_any _ _ hsz)) | (go_at_call 34; exact Calls.after_same (isMinute_any _ _)) | (go_at_call 35; exact Calls.after (Hcl.out _ (hx2.below (After.bel _)))))))
          refine wpQuiet_nil ?_
          intro nq
          go_wp2
          go_ret
          exact ⟨by rw [Hr.out]; rfl, btr hb (btr hbw nq.bel)⟩
      · have h1' : inB s.id 1 99 = false := by simpa using h1
        have Hr := Lib.hid (Hf.out (by rw [HT.out, HO.out, h1']; simp))
        clear Hf HT HO Hn h1 HA
        refine wp_region_after (by kernel_rfl) (by kernel_rfl) ?_
        repeat (go_big_quiet_step ((first | (go_at_call 28; exact Calls.after_same (inside_any _ _ _ _)) | (go_at_call 33; exact Calls.after_same (isWord_any _ _ hsz)) | (go_at_call 34; exact Calls.after_same (isMinute_any _ _)) | (go_at_call 35; exact Calls.after (Hcl.out _ (hx2.below (After.bel _)))))))
        refine wpQuiet_nil ?_
        intro nq
        go_wp2
        go_ret
        exact ⟨by rw [Hr.out]; rfl, btr hb (btr hbw nq.bel)⟩
    · have Hn : Hid (goodItm xs = decide ((xs.length : Int) ≤ 10)) := by
        show _ = _
        unfold goodItm
        rw [H.out, List.drop_eq_nil_of_le (by omega)]; simp [goodPre]; omega
      clear H
      go_wp2
      go_ret
      exact ⟨by rw [Hn.out]; rfl, hb⟩
set_option maxHeartbeats 2000000 in
theorem l5Good_any (A : Option Addr) (c : Nat) (xs : List Itm) (w : World) (hn : xs.length ≤ maxLen) (_ : xs.length ≤ c) (hx : Rd w A (itmCells xs)) (hs : ∀ s ∈ xs, s.title.size ≤ maxLen) :
    Calls Tryz.prog 31 #[.slice A xs.length c] w fun e w' => e = .returned (.bool (goodItm xs)) ∧ Below w.heap.size w w' := by
  unfold maxLen at hn
  go_enter Tryz.func31, Tryz.ntmps31
  go_wp2
  go_loopw [3] (fun i wr => ∃ k : Nat, k ≤ xs.length ∧ i = .int .i64 k ∧ Hid (goodPre itmFits [] xs = goodPre itmFits (xs.take k) (xs.drop k)) ∧ Below w.heap.size w wr) (fun i _ => xs.length - (intOf i).toNat)
  case atStart => exact ⟨0, by omega, rfl, rfl, Below.refl _ _⟩
  case round =>
    obtain ⟨k, hk, rfl, H, hb⟩ := hrel
    by_cases hlt : k < xs.length
    · obtain ⟨b, off, rfl, c0, c1, c2, c3⟩ := Rd.itm (hx.below hb) hlt
      have hsz := hs xs[k] (List.getElem_mem _)
      have Hn := Lib.hid (H.out.trans (goodPre_at hlt))
      clear H
      obtain ⟨s, hse⟩ : ∃ s, s = xs[k] := ⟨_, rfl⟩
      rw [← hse] at Hn c0 c1 c2 c3 hsz
      have Hf : Hid (itmFits (xs.take k) s = false → goodItm xs = false) := by
        intro h
        unfold goodItm
        rw [Hn.out, h]; simp
      have HT : Hid (itmFits (xs.take k) s = (itmOk s && !((xs.take k).any fun y => y.id == s.id))) := rfl
      have HO : Hid (itmOk s = (inB s.id 1 99 && wordB s.title && inB s.mins 1 240 && (decide (s.time = -1) || inB s.time 0 1439))) := rfl
      clear hse
      have hbw := bnew (Below.refl wr.heap.size wr) (.cells #[.int .i64 s.id, .string s.title, .int .i64 s.mins, .int .i64 s.time] 34)
      have hx2 := (hx.below hb).below hbw
      have hNew : ∀ (j : Nat) u, (#[.int .i64 s.id, .string s.title, .int .i64 s.mins, .int .i64 s.time] : Array Value)[j]? = some u → (wr.alloc (.cells #[.int .i64 s.id, .string s.title, .int .i64 s.mins, .int .i64 s.time] 34)).cell? ⟨wr.heap.size, j, none⟩ = some u := fun j u h => (World.cell?_alloc_at _ _ _ _ rfl).trans h
      have g0 := hNew 0 _ rfl
      clear hNew
      have hkI : (k : Int) < (xs.length : Int) := by omega
      by_cases h1 : inB s.id 1 99 = true
      · by_cases h2 : wordB s.title = true
        · by_cases h3 : inB s.mins 1 240 = true
          · by_cases h4 : s.time = -1
            · have h41 : (decide (s.time = -1) || inB s.time 0 1439) = true := by rw [h4]; rfl
              have H41 := Lib.hid h41
              have h4n : (s.time != -1) = false := by simp [h4]
              clear h41 h4
              go_wp2_with (first | (go_at_call 52; refine (l1In_any _ _ _ _).mono ?_; rintro e w9 ⟨rfl, rfl⟩) | (go_at_call 53; refine (l2Word_any _ _ hsz).mono ?_; rintro e w9 ⟨rfl, rfl⟩) | (go_at_call 48; refine (l5Minute_any _ _).mono ?_; rintro e w9 ⟨rfl, rfl⟩))
              go_loopw [5] (fun q wj => ∃ j : Nat, j ≤ k ∧ q = .int .i64 j ∧ Hid (((xs.take j).any fun y => y.id == s.id) = false) ∧ Below (wr.alloc (.cells #[.int .i64 s.id, .string s.title, .int .i64 s.mins, .int .i64 s.time] 34)).heap.size (wr.alloc (.cells #[.int .i64 s.id, .string s.title, .int .i64 s.mins, .int .i64 s.time] 34)) wj) (fun q _ => k - (intOf q).toNat)
              case atStart => exact ⟨0, by omega, rfl, rfl, Below.refl _ _⟩
              case round =>
                obtain ⟨j, hj, rfl, HJ, hbj⟩ := hrel
                have q0 := (hbj.cell (World.block_lt_of_cell? _ _ g0)).trans g0
                by_cases hjk : j < k
                · obtain ⟨b2, off2, e2, d0, -⟩ := Rd.itm (hx2.below hbj) (show j < xs.length by omega)
                  have k2 : b2 = b ∧ off2 = off := by simpa using e2.symm
                  obtain ⟨rfl, rfl⟩ := k2
                  clear e2
                  have HB := Lib.hid (any_take_succ (fun y : Itm => y.id == s.id) xs j (by omega))
                  generalize xs[j].id = t at *
                  have q1 := cell_after d0
                  have q2 := cell_after q0
                  clear d0 q0 g0
                  have hjI : (j : Int) < (xs.length : Int) := by omega
                  by_cases ht : (t == s.id) = true
                  · have Hr := Lib.hid (Hf.out (by rw [HT.out, any_take_mono (show j + 1 ≤ k by omega) (by rw [HB.out, ht]; simp)]; simp))
                    clear Hf HT Hn HB HJ HO
                    go_wp2_with fail
                    refine wp_region_after (by kernel_rfl) (by kernel_rfl) ?_
                    repeat (go_big_quiet_step (fail))
                    refine wpQuiet_nil ?_
                    intro nj
                    go_wp2
                    go_ret
                    exact ⟨by rw [Hr.out]; rfl, btr hb (btr hbw (btr hbj nj.bel))⟩
                  · have ht' : (t == s.id) = false := by simpa using ht
                    have HJn : Hid (((xs.take (j + 1)).any fun y => y.id == s.id) = false) := HB.out.trans (by rw [HJ.out, ht']; rfl)
                    clear ht HB HJ
                    go_wp2_with fail
                    refine wp_region_after (by kernel_rfl) (by kernel_rfl) ?_
                    repeat (go_big_quiet_step (fail))
                    refine wpQuiet_nil ?_
                    intro nj
                    go_wp2
                    go_roundw
                    case rel => exact ⟨j + 1, by omega, by go_num, HJn, btr hbj nj.bel⟩
                    case measure => simp [intOf]; omega
                · have hjk' : j = k := by omega
                  have Hr : Hid (goodPre itmFits [] xs = goodPre itmFits (xs.take (k + 1)) (xs.drop (k + 1))) := Hn.out.trans (by rw [HT.out, HO.out, h1, h2, h3, H41.out, ← hjk', HJ.out]; simp)
                  clear Hn HT Hf HJ HO
                  go_wp2
                  go_roundw
                  case rel => exact ⟨k + 1, by omega, by go_num, Hr, btr hb (btr hbw hbj)⟩
                  case measure => simp [intOf]; omega
            · have h4n : (s.time != -1) = true := by simpa using h4
              have h4d : decide (s.time = -1) = false := by simpa using h4
              by_cases h5 : inB s.time 0 1439 = true
              · have h41 : (decide (s.time = -1) || inB s.time 0 1439) = true := by rw [h5]; simp
                have H41 := Lib.hid h41
                clear h41 h4d
                go_wp2_with (first | (go_at_call 52; refine (l1In_any _ _ _ _).mono ?_; rintro e w9 ⟨rfl, rfl⟩) | (go_at_call 53; refine (l2Word_any _ _ hsz).mono ?_; rintro e w9 ⟨rfl, rfl⟩) | (go_at_call 48; refine (l5Minute_any _ _).mono ?_; rintro e w9 ⟨rfl, rfl⟩))
                go_loopw [5] (fun q wj => ∃ j : Nat, j ≤ k ∧ q = .int .i64 j ∧ Hid (((xs.take j).any fun y => y.id == s.id) = false) ∧ Below (wr.alloc (.cells #[.int .i64 s.id, .string s.title, .int .i64 s.mins, .int .i64 s.time] 34)).heap.size (wr.alloc (.cells #[.int .i64 s.id, .string s.title, .int .i64 s.mins, .int .i64 s.time] 34)) wj) (fun q _ => k - (intOf q).toNat)
                case atStart => exact ⟨0, by omega, rfl, rfl, Below.refl _ _⟩
                case round =>
                  obtain ⟨j, hj, rfl, HJ, hbj⟩ := hrel
                  have q0 := (hbj.cell (World.block_lt_of_cell? _ _ g0)).trans g0
                  by_cases hjk : j < k
                  · obtain ⟨b2, off2, e2, d0, -⟩ := Rd.itm (hx2.below hbj) (show j < xs.length by omega)
                    have k2 : b2 = b ∧ off2 = off := by simpa using e2.symm
                    obtain ⟨rfl, rfl⟩ := k2
                    clear e2
                    have HB := Lib.hid (any_take_succ (fun y : Itm => y.id == s.id) xs j (by omega))
                    generalize xs[j].id = t at *
                    have q1 := cell_after d0
                    have q2 := cell_after q0
                    clear d0 q0 g0
                    have hjI : (j : Int) < (xs.length : Int) := by omega
                    by_cases ht : (t == s.id) = true
                    · have Hr := Lib.hid (Hf.out (by rw [HT.out, any_take_mono (show j + 1 ≤ k by omega) (by rw [HB.out, ht]; simp)]; simp))
                      clear Hf HT Hn HB HJ HO
                      go_wp2_with fail
                      refine wp_region_after (by kernel_rfl) (by kernel_rfl) ?_
                      repeat (go_big_quiet_step (fail))
                      refine wpQuiet_nil ?_
                      intro nj
                      go_wp2
                      go_ret
                      exact ⟨by rw [Hr.out]; rfl, btr hb (btr hbw (btr hbj nj.bel))⟩
                    · have ht' : (t == s.id) = false := by simpa using ht
                      have HJn : Hid (((xs.take (j + 1)).any fun y => y.id == s.id) = false) := HB.out.trans (by rw [HJ.out, ht']; rfl)
                      clear ht HB HJ
                      go_wp2_with fail
                      refine wp_region_after (by kernel_rfl) (by kernel_rfl) ?_
                      repeat (go_big_quiet_step (fail))
                      refine wpQuiet_nil ?_
                      intro nj
                      go_wp2
                      go_roundw
                      case rel => exact ⟨j + 1, by omega, by go_num, HJn, btr hbj nj.bel⟩
                      case measure => simp [intOf]; omega
                  · have hjk' : j = k := by omega
                    have Hr : Hid (goodPre itmFits [] xs = goodPre itmFits (xs.take (k + 1)) (xs.drop (k + 1))) := Hn.out.trans (by rw [HT.out, HO.out, h1, h2, h3, H41.out, ← hjk', HJ.out]; simp)
                    clear Hn HT Hf HJ HO
                    go_wp2
                    go_roundw
                    case rel => exact ⟨k + 1, by omega, by go_num, Hr, btr hb (btr hbw hbj)⟩
                    case measure => simp [intOf]; omega
              · have h5' : inB s.time 0 1439 = false := by simpa using h5
                have Hr := Lib.hid (Hf.out (by rw [HT.out, HO.out, h4d, h5']; simp))
                clear Hf HT HO Hn h5 h4d
                go_wp2_with (first | (go_at_call 52; refine (l1In_any _ _ _ _).mono ?_; rintro e w9 ⟨rfl, rfl⟩) | (go_at_call 53; refine (l2Word_any _ _ hsz).mono ?_; rintro e w9 ⟨rfl, rfl⟩) | (go_at_call 48; refine (l5Minute_any _ _).mono ?_; rintro e w9 ⟨rfl, rfl⟩))
                go_ret
                exact ⟨by rw [Hr.out]; rfl, btr hb hbw⟩
          · have h3' : inB s.mins 1 240 = false := by simpa using h3
            have Hr := Lib.hid (Hf.out (by rw [HT.out, HO.out, h3']; simp))
            clear Hf HT HO Hn h3
            go_wp2_with (first | (go_at_call 52; refine (l1In_any _ _ _ _).mono ?_; rintro e w9 ⟨rfl, rfl⟩) | (go_at_call 53; refine (l2Word_any _ _ hsz).mono ?_; rintro e w9 ⟨rfl, rfl⟩) | (go_at_call 48; refine (l5Minute_any _ _).mono ?_; rintro e w9 ⟨rfl, rfl⟩))
            go_ret
            exact ⟨by rw [Hr.out]; rfl, btr hb hbw⟩
        · have h2' : wordB s.title = false := by simpa using h2
          have Hr := Lib.hid (Hf.out (by rw [HT.out, HO.out, h2']; simp))
          clear Hf HT HO Hn h2
          go_wp2_with (first | (go_at_call 52; refine (l1In_any _ _ _ _).mono ?_; rintro e w9 ⟨rfl, rfl⟩) | (go_at_call 53; refine (l2Word_any _ _ hsz).mono ?_; rintro e w9 ⟨rfl, rfl⟩) | (go_at_call 48; refine (l5Minute_any _ _).mono ?_; rintro e w9 ⟨rfl, rfl⟩))
          go_ret
          exact ⟨by rw [Hr.out]; rfl, btr hb hbw⟩
      · have h1' : inB s.id 1 99 = false := by simpa using h1
        have Hr := Lib.hid (Hf.out (by rw [HT.out, HO.out, h1']; simp))
        clear Hf HT HO Hn h1
        go_wp2_with (first | (go_at_call 52; refine (l1In_any _ _ _ _).mono ?_; rintro e w9 ⟨rfl, rfl⟩) | (go_at_call 53; refine (l2Word_any _ _ hsz).mono ?_; rintro e w9 ⟨rfl, rfl⟩) | (go_at_call 48; refine (l5Minute_any _ _).mono ?_; rintro e w9 ⟨rfl, rfl⟩))
        go_ret
        exact ⟨by rw [Hr.out]; rfl, btr hb hbw⟩
    · have Hn : Hid (goodItm xs = decide ((xs.length : Int) ≤ 10)) := by
        show _ = _
        unfold goodItm
        rw [H.out, List.drop_eq_nil_of_le (by omega)]; simp [goodPre]; omega
      clear H
      go_wp2
      go_ret
      exact ⟨by rw [Hn.out]; rfl, hb⟩
set_option maxHeartbeats 400000 in
theorem isMeeting_any (A : Option Addr) (c : Nat) (xs : List Itm) (t : Int) (w : World) (hn : xs.length ≤ maxLen) (hlc : xs.length ≤ c) (hx : Rd w A (itmCells xs)) (hs : ∀ s ∈ xs, s.title.size ≤ maxLen) :
    Calls Tryz.prog 24 #[.slice A xs.length c, .int .i64 t] w fun e w' => e = .returned (.bool (meets xs t)) ∧ Below w.heap.size w w' := by
  have Hc := Lib.hid (isAgenda_any A c xs w hn hlc hx hs)
  clear hx hs hlc
  unfold maxLen at hn
  by_cases hg : goodItm xs = true
  · have HT : Hid (meets xs t = inB t 0 1439) := by show _ = _; simp [meets, hg]
    go_enter Tryz.func24, Tryz.ntmps24
    go_wp2_with (first | (go_at_call 17; refine Hc.out.mono ?_; rintro e w1 ⟨rfl, hb1⟩) | (go_at_call 34; refine (isMinute_any _ _).mono ?_; rintro e w2 ⟨rfl, rfl⟩))
    go_ret
    exact ⟨by rw [HT.out]; rfl, hb1⟩
  · have hg' : goodItm xs = false := by simpa using hg
    have HT : Hid (meets xs t = false) := by show _ = _; simp [meets, hg']
    go_enter Tryz.func24, Tryz.ntmps24
    go_wp2_with (first | (go_at_call 17; refine Hc.out.mono ?_; rintro e w1 ⟨rfl, hb1⟩))
    go_ret
    exact ⟨by rw [HT.out]; rfl, hb1⟩
set_option maxHeartbeats 400000 in
theorem l5Asked_any (A : Option Addr) (c : Nat) (xs : List Itm) (t : Int) (w : World) (hn : xs.length ≤ maxLen) (hlc : xs.length ≤ c) (hx : Rd w A (itmCells xs)) (hs : ∀ s ∈ xs, s.title.size ≤ maxLen) :
    Calls Tryz.prog 26 #[.slice A xs.length c, .int .i64 t] w fun e w' => e = .returned (.bool (meets xs t)) ∧ Below w.heap.size w w' := by
  have Hc := Lib.hid (l5Good_any A c xs w hn hlc hx hs)
  clear hx hs hlc
  unfold maxLen at hn
  by_cases hg : goodItm xs = true
  · have HT : Hid (meets xs t = inB t 0 1439) := by show _ = _; simp [meets, hg]
    go_enter Tryz.func26, Tryz.ntmps26
    go_wp2_with (first | (go_at_call 31; refine Hc.out.mono ?_; rintro e w1 ⟨rfl, hb1⟩) | (go_at_call 48; refine (l5Minute_any _ _).mono ?_; rintro e w2 ⟨rfl, rfl⟩))
    go_ret
    exact ⟨by rw [HT.out]; rfl, hb1⟩
  · have hg' : goodItm xs = false := by simpa using hg
    have HT : Hid (meets xs t = false) := by show _ = _; simp [meets, hg']
    go_enter Tryz.func26, Tryz.ntmps26
    go_wp2_with (first | (go_at_call 31; refine Hc.out.mono ?_; rintro e w1 ⟨rfl, hb1⟩))
    go_ret
    exact ⟨by rw [HT.out]; rfl, hb1⟩
end Go.Proofs.YtfpjelpbeicdoaaGreatDoor

