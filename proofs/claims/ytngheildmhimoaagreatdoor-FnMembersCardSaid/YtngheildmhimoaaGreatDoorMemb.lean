/-
  Contracts of the functions on members: whether a list is valid, the index of a member. Conditions: lengths within Go's range.
-/
import Derived.Test.YtngheildmhimoaaGreatDoorIdxMem
namespace Go.My
open Go.RowKit
def memOk (s : Mem) : Bool := inB s.num 1 99 && wordB s.name && inB s.off 0 3
def memClash (s y : Mem) : Bool := y.name.toList == s.name.toList || (s.off != 0 && y.off == s.off)
def memFits (pre : List Mem) (s : Mem) : Bool := memOk s && lastLt Mem.num pre s && !(pre.any (memClash s))
def goodMem (xs : List Mem) : Bool := goodPre memFits [] xs && decide (xs.length ≤ 12)
end Go.My
namespace Go.Proofs.YtngheildmhimoaaGreatDoor
open Go.RowKit Go.My
theorem isNumber_any (n : Int) (w : World) : Calls Tryz.prog 31 #[.int .i64 n] w fun e w' => e = .returned (.bool (inB n 1 99)) ∧ w = w' := by
  go_enter Tryz.func31, Tryz.ntmps31
  go_wp2_with (go_at_call 64; refine (inside_any _ _ _ _).mono ?_; rintro e w' ⟨rfl, rfl⟩)
  go_ret
  exact ⟨rfl, rfl⟩
theorem isOffice_any (n : Int) (w : World) : Calls Tryz.prog 33 #[.int .i64 n] w fun e w' => e = .returned (.bool (inB n 0 3)) ∧ w = w' := by
  go_enter Tryz.func33, Tryz.ntmps33
  go_wp2_with (go_at_call 64; refine (inside_any _ _ _ _).mono ?_; rintro e w' ⟨rfl, rfl⟩)
  go_ret
  exact ⟨rfl, rfl⟩
theorem l3Office_any (n : Int) (w : World) : Calls Tryz.prog 61 #[.int .i64 n] w fun e w' => e = .returned (.bool (inB n 0 3)) ∧ w = w' := by
  go_enter Tryz.func61, Tryz.ntmps61
  go_wp2_with (go_at_call 49; refine (l1In_any _ _ _ _).mono ?_; rintro e w' ⟨rfl, rfl⟩)
  go_ret
  exact ⟨rfl, rfl⟩
theorem closV_any (m s : Mem) (q : Nat) (w : World) (hq1 : w.cell? ⟨q, 1, none⟩ = some (.string m.name)) (hq2 : w.cell? ⟨q, 2, none⟩ = some (.int .i64 m.off)) :
    Calls Tryz.prog 35 #[.agg #[.int .i64 s.num, .string s.name, .int .i64 s.off], .pointer (some ⟨q, 0, none⟩)] w fun e w' => e = .returned (.bool (memClash m s)) ∧ Below w.heap.size w w' := by
  have hp1 : (w.alloc (.cells #[.int .i64 s.num, .string s.name, .int .i64 s.off] 54)).cell? ⟨q, 1, none⟩ = some (.string m.name) := (World.cell?_alloc_past _ _ _ (World.block_lt_of_cell? w _ hq1)).trans hq1
  have hp2 : (w.alloc (.cells #[.int .i64 s.num, .string s.name, .int .i64 s.off] 54)).cell? ⟨q, 2, none⟩ = some (.int .i64 m.off) := (World.cell?_alloc_past _ _ _ (World.block_lt_of_cell? w _ hq2)).trans hq2
  have HE : Hid (memClash m s = (s.name.toList == m.name.toList || (m.off != 0 && s.off == m.off))) := rfl
  clear hq1 hq2
  by_cases h1 : (s.name.toList == m.name.toList) = true
  · have HT : Hid (memClash m s = true) := HE.out.trans (by rw [h1]; rfl)
    go_enter Tryz.func35, Tryz.ntmps35
    go_wp2
    go_ret
    exact ⟨by rw [HT.out]; rfl, bnew (Below.refl _ _) _⟩
  · have h1' : (s.name.toList == m.name.toList) = false := by simpa using h1
    clear h1
    by_cases h2 : (m.off != 0) = true
    · have HT : Hid (memClash m s = (s.off == m.off)) := HE.out.trans (by rw [h1', h2]; simp)
      go_enter Tryz.func35, Tryz.ntmps35
      go_wp2
      go_ret
      exact ⟨by rw [HT.out]; rfl, bnew (Below.refl _ _) _⟩
    · have h2' : (m.off != 0) = false := by simpa using h2
      clear h2
      have HT : Hid (memClash m s = false) := HE.out.trans (by rw [h1', h2']; simp)
      go_enter Tryz.func35, Tryz.ntmps35
      go_wp2
      go_ret
      exact ⟨by rw [HT.out]; rfl, bnew (Below.refl _ _) _⟩
theorem closI_any (s : Mem) (q : Nat) (t : Int) (w : World) (hq : w.cell? ⟨q, 0, none⟩ = some (.int .i64 t)) :
    Calls Tryz.prog 63 #[.agg #[.int .i64 s.num, .string s.name, .int .i64 s.off], .pointer (some ⟨q, 0, none⟩)] w fun e w' => e = .returned (.bool (s.num == t)) ∧ Below w.heap.size w w' := by
  have hq2 : (w.alloc (.cells #[.int .i64 s.num, .string s.name, .int .i64 s.off] 54)).cell? ⟨q, 0, none⟩ = some (.int .i64 t) := (World.cell?_alloc_past _ _ _ (World.block_lt_of_cell? w _ hq)).trans hq
  go_enter Tryz.func63, Tryz.ntmps63
  go_wp2
  go_ret
  exact ⟨rfl, bnew (Below.refl _ _) _⟩
theorem memberIndex_any (A : Option Addr) (c : Nat) (xs : List Mem) (i : Int) (w : World) (hn : xs.length ≤ maxLen) (hx : Rd w A (memCells xs)) :
    Calls Tryz.prog 29 #[.slice A xs.length c, .int .i64 i] w fun e w' => e = .returned (.int .i64 (idxOf (fun s : Mem => s.num == i) xs)) ∧ Below w.heap.size w w' := by
  have hc := Lib.hid (indexMemI_any ⟨w.heap.size, 0, none⟩ (fun s : Mem => s.num == i) A c xs (w.alloc (.cells #[.int .i64 i] 3)) hn (hx.alloc _)
    (fun w1 hb s _ => closI_any s w.heap.size i w1 ((hb.cell (by simp)).trans ((World.cell?_alloc_at _ _ _ _ rfl).trans rfl))))
  clear hx
  generalize idxOf (fun s : Mem => s.num == i) xs = v at *
  go_enter Tryz.func29, Tryz.ntmps29
  go_wp2_with (go_at_call 62; refine hc.out.mono ?_; rintro e w' ⟨rfl, hb⟩)
  go_ret
  exact ⟨rfl, btr (bnew (Below.refl _ _) _) hb⟩
set_option maxHeartbeats 4000000 in
theorem isMembers_any (A : Option Addr) (c : Nat) (xs : List Mem) (w : World) (hn : xs.length ≤ maxLen) (hlc : xs.length ≤ c) (hx : Rd w A (memCells xs)) (hs : ∀ s ∈ xs, s.name.size ≤ maxLen) :
    Calls Tryz.prog 10 #[.slice A xs.length c] w fun e w' => e = .returned (.bool (goodMem xs)) ∧ Below w.heap.size w w' := by
  unfold maxLen at hn
  go_enter Tryz.func10, Tryz.ntmps10
  go_wp2
  go_loopw [7] (fun i wr => ∃ k : Nat, k ≤ xs.length ∧ i = .int .i64 k ∧ Hid (goodPre memFits [] xs = goodPre memFits (xs.take k) (xs.drop k)) ∧ Below w.heap.size w wr) (fun i _ => xs.length - (intOf i).toNat)
  case atStart => exact ⟨0, by omega, rfl, rfl, Below.refl _ _⟩
  case round =>
    obtain ⟨k, hk, rfl, H, hb⟩ := hrel
    by_cases hlt : k < xs.length
    · obtain ⟨b, off, rfl, c0, c1, c2⟩ := Rd.mem (hx.below hb) hlt
      have hsz := hs xs[k] (List.getElem_mem _)
      have Hn := Lib.hid (H.out.trans (goodPre_at hlt))
      clear H
      obtain ⟨s, hse⟩ : ∃ s, s = xs[k] := ⟨_, rfl⟩
      rw [← hse] at Hn c0 c1 c2 hsz
      have Hcl : Hid (∀ (w1 : World), Rd w1 (some ⟨b, off, none⟩) (memCells xs) → w1.cell? ⟨wr.heap.size, 1, none⟩ = some (.string s.name) → w1.cell? ⟨wr.heap.size, 2, none⟩ = some (.int .i64 s.off) →
          Calls Tryz.prog 34 #[.slice (some ⟨b, off, none⟩) k c, .func (.func 35) #[] #[.pointer (some ⟨wr.heap.size, 0, none⟩)]] w1 fun e w' => e = .returned (.bool ((xs.take k).any (memClash s))) ∧ Below w1.heap.size w1 w') := by
        intro w1 hx1 hq1 hq2
        have := containsMemV_any ⟨wr.heap.size, 0, none⟩ (memClash s) (some ⟨b, off, none⟩) c (xs.take k) w1 (by rw [List.length_take]; unfold maxLen; omega) (by have := hx1.take (k * 3); rwa [show (memCells xs).take (k * 3) = memCells (xs.take k) from flat_take Mem.cells 3 (fun _ => rfl) xs k (by omega)] at this)
          (fun w2 hb2 y _ => closV_any s y wr.heap.size w2 ((hb2.cell (World.block_lt_of_cell? w1 _ hq1)).trans hq1) ((hb2.cell (World.block_lt_of_cell? w1 _ hq2)).trans hq2))
        rwa [List.length_take, Nat.min_eq_left (by omega)] at this
      have Hf : Hid (memFits (xs.take k) s = false → goodMem xs = false) := by
        intro h
        unfold goodMem
        rw [Hn.out, h]; simp
      have HT : Hid (memFits (xs.take k) s = (memOk s && lastLt Mem.num (xs.take k) s && !((xs.take k).any (memClash s)))) := rfl
      have HO : Hid (memOk s = (inB s.num 1 99 && wordB s.name && inB s.off 0 3)) := rfl
      clear hse
      have hkc : k ≤ c := by omega
      have hkcI : (k : Int) ≤ (c : Int) := by omega
      go_wp2_with fail
      have hbw := bnew (Below.refl wr.heap.size wr) (.cells #[.int .i64 s.num, .string s.name, .int .i64 s.off] 54)
      have hx2 := (hx.below hb).below hbw
      have hNew : ∀ (j : Nat) u, (#[.int .i64 s.num, .string s.name, .int .i64 s.off] : Array Value)[j]? = some u → (wr.alloc (.cells #[.int .i64 s.num, .string s.name, .int .i64 s.off] 54)).cell? ⟨wr.heap.size, j, none⟩ = some u := fun j u h => (World.cell?_alloc_at _ _ _ _ rfl).trans h
      generalize wr.alloc (.cells #[.int .i64 s.num, .string s.name, .int .i64 s.off] 54) = w2 at *
      have n0 := hNew 0 _ rfl
      have n1 := hNew 1 _ rfl
      have n2 := hNew 2 _ rfl
      have g0 := cell_after n0
      have g1 := cell_after n1
      have g2 := cell_after n2
      clear hNew c0 c1 c2
      have hkI : (k : Int) < (xs.length : Int) := by omega
      by_cases h1 : inB s.num 1 99 = true
      · by_cases h2 : wordB s.name = true
        · by_cases h3 : inB s.off 0 3 = true
          · by_cases hk0 : k = 0
            · have hL : lastLt Mem.num (xs.take k) s = true := by rw [hk0]; rfl
              have hk0N : ¬ 0 < k := by omega
              have hk0I : ¬ (0 : Int) < (k : Int) := by omega
              have hd1 : decide ((0 : Int) < (k : Int)) = false := by simp; omega
              have hd2 : decide (0 < k) = false := by simp; omega
              clear hk0
              have HLL := Lib.hid hL
              clear hL
              refine wp_region_after (by kernel_rfl) (by kernel_rfl) ?_
              repeat (go_big_quiet_step ((first | (go_at_call 31; exact Calls.after_same (isNumber_any _ _)) | (go_at_call 32; exact Calls.after_same (isWord_any _ _ hsz)) | (go_at_call 33; exact Calls.after_same (isOffice_any _ _)))))
              refine wpQuiet_nil ?_
              intro nq
              have hxq := hx2.below nq.bel
              have q1 := g1 nq
              have q2 := g2 nq
              by_cases hc : ((xs.take k).any (memClash s)) = true
              · have Hr := Lib.hid (Hf.out (by rw [HT.out, hc]; simp))
                clear Hf HT HO Hn HLL
                go_wp2_with (go_at_call 34; refine (Hcl.out _ hxq q1 q2).mono ?_; rintro e w9 ⟨rfl, hb9⟩)
                go_ret
                exact ⟨by rw [Hr.out]; rfl, btr hb (btr hbw (btr nq.bel hb9))⟩
              · have hc' : ((xs.take k).any (memClash s)) = false := by simpa using hc
                have Hr : Hid (goodPre memFits [] xs = goodPre memFits (xs.take (k + 1)) (xs.drop (k + 1))) := Hn.out.trans (by rw [HT.out, HO.out, h1, h2, h3, HLL.out, hc']; simp)
                clear hc Hf HT HO Hn HLL
                go_wp2_with (go_at_call 34; refine (Hcl.out _ hxq q1 q2).mono ?_; rintro e w9 ⟨rfl, hb9⟩)
                go_roundw
                case rel => exact ⟨k + 1, by omega, by go_num, Hr, btr hb (btr hbw (btr nq.bel hb9))⟩
                case measure => simp [intOf]; omega
            · obtain ⟨k1, hke⟩ : ∃ k1, k = k1 + 1 := ⟨k - 1, by omega⟩
              have hk1l : k1 < xs.length := by omega
              obtain ⟨b', off', e', p0, -⟩ := Rd.mem hx2 (show k1 < xs.length by omega)
              have k2 : b' = b ∧ off' = off := by simpa using e'.symm
              obtain ⟨rfl, rfl⟩ := k2
              clear e'
              have HL : Hid (lastLt Mem.num (xs.take k) s = decide (xs[k1].num < s.num)) := by rw [hke]; exact lastLt_succ Mem.num xs k1 (by omega) s
              generalize xs[k1].num = pid at *
              have gp := cell_after p0
              have hk1 : (k : Int) - 1 = (k1 : Int) := by omega
              have hk0I : (0 : Int) < (k : Int) := by omega
              have hk0N : 0 < k := by omega
              have hd1 : decide ((0 : Int) < (k : Int)) = true := by simp; omega
              have hd2 : decide (0 < k) = true := by simp; omega
              clear hke p0
              by_cases hp : pid < s.num
              · have hp1 : ¬ s.num ≤ pid := by omega
                have hp2 : decide (s.num ≤ pid) = false := by simp; omega
                have HLL : Hid (lastLt Mem.num (xs.take k) s = true) := HL.out.trans (by simp [hp])
                clear HL
                refine wp_region_after (by kernel_rfl) (by kernel_rfl) ?_
                repeat (go_big_quiet_step ((first | (go_at_call 31; exact Calls.after_same (isNumber_any _ _)) | (go_at_call 32; exact Calls.after_same (isWord_any _ _ hsz)) | (go_at_call 33; exact Calls.after_same (isOffice_any _ _)))))
                refine wpQuiet_nil ?_
                intro nq
                have hxq := hx2.below nq.bel
                have q1 := g1 nq
                have q2 := g2 nq
                by_cases hc : ((xs.take k).any (memClash s)) = true
                · have Hr := Lib.hid (Hf.out (by rw [HT.out, hc]; simp))
                  clear Hf HT HO Hn HLL
                  go_wp2_with (go_at_call 34; refine (Hcl.out _ hxq q1 q2).mono ?_; rintro e w9 ⟨rfl, hb9⟩)
                  go_ret
                  exact ⟨by rw [Hr.out]; rfl, btr hb (btr hbw (btr nq.bel hb9))⟩
                · have hc' : ((xs.take k).any (memClash s)) = false := by simpa using hc
                  have Hr : Hid (goodPre memFits [] xs = goodPre memFits (xs.take (k + 1)) (xs.drop (k + 1))) := Hn.out.trans (by rw [HT.out, HO.out, h1, h2, h3, HLL.out, hc']; simp)
                  clear hc Hf HT HO Hn HLL
                  go_wp2_with (go_at_call 34; refine (Hcl.out _ hxq q1 q2).mono ?_; rintro e w9 ⟨rfl, hb9⟩)
                  go_roundw
                  case rel => exact ⟨k + 1, by omega, by go_num, Hr, btr hb (btr hbw (btr nq.bel hb9))⟩
                  case measure => simp [intOf]; omega
              · have hp1 : s.num ≤ pid := by omega
                have hp2 : decide (s.num ≤ pid) = true := by simp; omega
                have Hr := Lib.hid (Hf.out (by rw [HT.out, HL.out]; simp [hp]))
                clear Hf HT HO Hn HL
                refine wp_region_after (by kernel_rfl) (by kernel_rfl) ?_
                repeat (go_big_quiet_step ((first | (go_at_call 31; exact Calls.after_same (isNumber_any _ _)) | (go_at_call 32; exact Calls.after_same (isWord_any _ _ hsz)) | (go_at_call 33; exact Calls.after_same (isOffice_any _ _)))))
                refine wpQuiet_nil ?_
                intro nq
                go_wp2
                go_ret
                exact ⟨by rw [Hr.out]; rfl, btr hb (btr hbw nq.bel)⟩
          · have h3' : inB s.off 0 3 = false := by simpa using h3
            have Hr := Lib.hid (Hf.out (by rw [HT.out, HO.out, h3']; simp))
            clear Hf HT HO Hn h3
            refine wp_region_after (by kernel_rfl) (by kernel_rfl) ?_
            repeat (go_big_quiet_step ((first | (go_at_call 31; exact Calls.after_same (isNumber_any _ _)) | (go_at_call 32; exact Calls.after_same (isWord_any _ _ hsz)) | (go_at_call 33; exact Calls.after_same (isOffice_any _ _)))))
            refine wpQuiet_nil ?_
            intro nq
            go_wp2
            go_ret
            exact ⟨by rw [Hr.out]; rfl, btr hb (btr hbw nq.bel)⟩
        · have h2' : wordB s.name = false := by simpa using h2
          have Hr := Lib.hid (Hf.out (by rw [HT.out, HO.out, h2']; simp))
          clear Hf HT HO Hn h2
          refine wp_region_after (by kernel_rfl) (by kernel_rfl) ?_
          repeat (go_big_quiet_step ((first | (go_at_call 31; exact Calls.after_same (isNumber_any _ _)) | (go_at_call 32; exact Calls.after_same (isWord_any _ _ hsz)) | (go_at_call 33; exact Calls.after_same (isOffice_any _ _)))))
          refine wpQuiet_nil ?_
          intro nq
          go_wp2
          go_ret
          exact ⟨by rw [Hr.out]; rfl, btr hb (btr hbw nq.bel)⟩
      · have h1' : inB s.num 1 99 = false := by simpa using h1
        have Hr := Lib.hid (Hf.out (by rw [HT.out, HO.out, h1']; simp))
        clear Hf HT HO Hn h1
        refine wp_region_after (by kernel_rfl) (by kernel_rfl) ?_
        repeat (go_big_quiet_step ((first | (go_at_call 31; exact Calls.after_same (isNumber_any _ _)) | (go_at_call 32; exact Calls.after_same (isWord_any _ _ hsz)) | (go_at_call 33; exact Calls.after_same (isOffice_any _ _)))))
        refine wpQuiet_nil ?_
        intro nq
        go_wp2
        go_ret
        exact ⟨by rw [Hr.out]; rfl, btr hb (btr hbw nq.bel)⟩
    · have Hn : Hid (goodMem xs = decide ((xs.length : Int) ≤ 12)) := by
        show _ = _
        unfold goodMem
        rw [H.out, List.drop_eq_nil_of_le (by omega)]; simp [goodPre]; omega
      clear H
      go_wp2
      go_ret
      exact ⟨by rw [Hn.out]; rfl, hb⟩
set_option maxHeartbeats 4000000 in
theorem l3Good_any (A : Option Addr) (c : Nat) (xs : List Mem) (w : World) (hn : xs.length ≤ maxLen) (_ : xs.length ≤ c) (hx : Rd w A (memCells xs)) (hs : ∀ s ∈ xs, s.name.size ≤ maxLen) :
    Calls Tryz.prog 28 #[.slice A xs.length c] w fun e w' => e = .returned (.bool (goodMem xs)) ∧ Below w.heap.size w w' := by
  unfold maxLen at hn
  go_enter Tryz.func28, Tryz.ntmps28
  go_wp2
  go_loopw [3] (fun i wr => ∃ k : Nat, k ≤ xs.length ∧ i = .int .i64 k ∧ Hid (goodPre memFits [] xs = goodPre memFits (xs.take k) (xs.drop k)) ∧ Below w.heap.size w wr) (fun i _ => xs.length - (intOf i).toNat)
  case atStart => exact ⟨0, by omega, rfl, rfl, Below.refl _ _⟩
  case round =>
    obtain ⟨k, hk, rfl, H, hb⟩ := hrel
    by_cases hlt : k < xs.length
    · obtain ⟨b, off, rfl, c0, c1, c2⟩ := Rd.mem (hx.below hb) hlt
      have hsz := hs xs[k] (List.getElem_mem _)
      have Hn := Lib.hid (H.out.trans (goodPre_at hlt))
      clear H
      obtain ⟨s, hse⟩ : ∃ s, s = xs[k] := ⟨_, rfl⟩
      rw [← hse] at Hn c0 c1 c2 hsz
      have Hf : Hid (memFits (xs.take k) s = false → goodMem xs = false) := by
        intro h
        unfold goodMem
        rw [Hn.out, h]; simp
      have HT : Hid (memFits (xs.take k) s = (memOk s && lastLt Mem.num (xs.take k) s && !((xs.take k).any (memClash s)))) := rfl
      have HO : Hid (memOk s = (inB s.num 1 99 && wordB s.name && inB s.off 0 3)) := rfl
      clear hse
      go_wp2_with fail
      have hbw := bnew (Below.refl wr.heap.size wr) (.cells #[.int .i64 s.num, .string s.name, .int .i64 s.off] 54)
      have hx2 := (hx.below hb).below hbw
      have hNew : ∀ (j : Nat) u, (#[.int .i64 s.num, .string s.name, .int .i64 s.off] : Array Value)[j]? = some u → (wr.alloc (.cells #[.int .i64 s.num, .string s.name, .int .i64 s.off] 54)).cell? ⟨wr.heap.size, j, none⟩ = some u := fun j u h => (World.cell?_alloc_at _ _ _ _ rfl).trans h
      generalize wr.alloc (.cells #[.int .i64 s.num, .string s.name, .int .i64 s.off] 54) = w2 at *
      have n0 := hNew 0 _ rfl
      have n1 := hNew 1 _ rfl
      have n2 := hNew 2 _ rfl
      have g0 := cell_after n0
      have g1 := cell_after n1
      have g2 := cell_after n2
      clear hNew c0 c1 c2
      have hkI : (k : Int) < (xs.length : Int) := by omega
      by_cases h1 : inB s.num 1 99 = true
      · by_cases h2 : wordB s.name = true
        · by_cases h3 : inB s.off 0 3 = true
          · by_cases hk0 : k = 0
            · have hL : lastLt Mem.num (xs.take k) s = true := by rw [hk0]; rfl
              have hk0N : ¬ 0 < k := by omega
              have hk0I : ¬ (0 : Int) < (k : Int) := by omega
              have hd1 : decide ((0 : Int) < (k : Int)) = false := by simp; omega
              have hd2 : decide (0 < k) = false := by simp; omega
              clear hk0
              have HLL := Lib.hid hL
              clear hL
              refine wp_region_after (by kernel_rfl) (by kernel_rfl) ?_
              repeat (go_big_quiet_step ((first | (go_at_call 49; exact Calls.after_same (l1In_any _ _ _ _)) | (go_at_call 60; exact Calls.after_same (l2Word_any _ _ hsz)) | (go_at_call 61; exact Calls.after_same (l3Office_any _ _)))))
              refine wpQuiet_nil ?_
              intro nq
              have hbn := nq.bel
              have q1 := g1 nq
              have q2 := g2 nq
              generalize nq.val = wn at *
              clear nq
              go_wp2
              go_loopw [5] (fun q wr => ∃ j : Nat, j ≤ k ∧ q = .int .i64 j ∧ Hid (((xs.take j).any (memClash s)) = false) ∧ Below w2.heap.size w2 wr) (fun q _ => k - (intOf q).toNat)
              case atStart => exact ⟨0, by omega, rfl, rfl, hbn⟩
              case round =>
                obtain ⟨j, hj, rfl, HJ, hbj⟩ := hrel
                by_cases hjk : j < k
                · exfalso; omega
                · have hjk' : j = k := by omega
                  have Hr : Hid (goodPre memFits [] xs = goodPre memFits (xs.take (k + 1)) (xs.drop (k + 1))) := Hn.out.trans (by rw [HT.out, HO.out, h1, h2, h3, HLL.out, ← hjk', HJ.out]; simp)
                  clear Hn HT Hf HJ HO HLL
                  go_wp2
                  go_roundw
                  case rel => exact ⟨k + 1, by omega, by go_num, Hr, btr hb (btr hbw hbj)⟩
                  case measure => simp [intOf]; omega
            · obtain ⟨k1, hke⟩ : ∃ k1, k = k1 + 1 := ⟨k - 1, by omega⟩
              have hk1l : k1 < xs.length := by omega
              obtain ⟨b', off', e', p0, -⟩ := Rd.mem hx2 (show k1 < xs.length by omega)
              have k2 : b' = b ∧ off' = off := by simpa using e'.symm
              obtain ⟨rfl, rfl⟩ := k2
              clear e'
              have HL : Hid (lastLt Mem.num (xs.take k) s = decide (xs[k1].num < s.num)) := by rw [hke]; exact lastLt_succ Mem.num xs k1 (by omega) s
              generalize xs[k1].num = pid at *
              have gp := cell_after p0
              have hk1 : (k : Int) - 1 = (k1 : Int) := by omega
              have hk0I : (0 : Int) < (k : Int) := by omega
              have hk0N : 0 < k := by omega
              have hd1 : decide ((0 : Int) < (k : Int)) = true := by simp; omega
              have hd2 : decide (0 < k) = true := by simp; omega
              clear hke p0
              by_cases hp : pid < s.num
              · have hp1 : ¬ s.num ≤ pid := by omega
                have hp2 : decide (s.num ≤ pid) = false := by simp; omega
                have HLL : Hid (lastLt Mem.num (xs.take k) s = true) := HL.out.trans (by simp [hp])
                clear HL
                refine wp_region_after (by kernel_rfl) (by kernel_rfl) ?_
                repeat (go_big_quiet_step ((first | (go_at_call 49; exact Calls.after_same (l1In_any _ _ _ _)) | (go_at_call 60; exact Calls.after_same (l2Word_any _ _ hsz)) | (go_at_call 61; exact Calls.after_same (l3Office_any _ _)))))
                refine wpQuiet_nil ?_
                intro nq
                have hbn := nq.bel
                have q1 := g1 nq
                have q2 := g2 nq
                generalize nq.val = wn at *
                clear nq
                go_wp2
                go_loopw [5] (fun q wr => ∃ j : Nat, j ≤ k ∧ q = .int .i64 j ∧ Hid (((xs.take j).any (memClash s)) = false) ∧ Below w2.heap.size w2 wr) (fun q _ => k - (intOf q).toNat)
                case atStart => exact ⟨0, by omega, rfl, rfl, hbn⟩
                case round =>
                  obtain ⟨j, hj, rfl, HJ, hbj⟩ := hrel
                  by_cases hjk : j < k
                  · obtain ⟨b2, off2, e2, d0, d1, d2⟩ := Rd.mem (hx2.below hbj) (show j < xs.length by omega)
                    have k2 := e2.symm
                    simp only [Option.some.injEq, Addr.mk.injEq, and_true] at k2
                    obtain ⟨rfl, rfl⟩ := k2
                    clear e2
                    have HA := Lib.hid (any_take_succ (memClash s) xs j (by omega))
                    have HC : Hid (memClash s xs[j] = (xs[j].name.toList == s.name.toList || (s.off != 0 && xs[j].off == s.off))) := rfl
                    generalize xs[j] = y at *
                    have a1 := cell_after d1
                    have a2 := cell_after d2
                    have f1 := cell_after ((hbj.cell (World.block_lt_of_cell? _ _ n1)).trans n1)
                    have f2 := cell_after ((hbj.cell (World.block_lt_of_cell? _ _ n2)).trans n2)
                    clear d0 d1 d2
                    have hjI : (j : Int) < (xs.length : Int) := by omega
                    by_cases t1 : (y.name.toList == s.name.toList) = true
                    · have Hr := Lib.hid (Hf.out (by rw [HT.out, any_take_mono (show j + 1 ≤ k by omega) (by rw [HA.out, HC.out, t1]; simp)]; simp))
                      clear Hf HT HO Hn HA HJ HC HLL
                      go_wp2_with fail
                      refine wp_region_after (by kernel_rfl) (by kernel_rfl) ?_
                      repeat (go_big_quiet_step (fail))
                      refine wpQuiet_nil ?_
                      intro nj
                      go_wp2
                      go_ret
                      exact ⟨by rw [Hr.out]; rfl, btr hb (btr hbw (btr hbj nj.bel))⟩
                    · have t1' : (y.name.toList == s.name.toList) = false := by simpa using t1
                      clear t1
                      by_cases t2 : (s.off != 0) = true
                      · by_cases t3 : (y.off == s.off) = true
                        · have Hr := Lib.hid (Hf.out (by rw [HT.out, any_take_mono (show j + 1 ≤ k by omega) (by rw [HA.out, HC.out, t2, t3]; simp)]; simp))
                          clear Hf HT HO Hn HA HJ HC HLL
                          go_wp2_with fail
                          refine wp_region_after (by kernel_rfl) (by kernel_rfl) ?_
                          repeat (go_big_quiet_step (fail))
                          refine wpQuiet_nil ?_
                          intro nj
                          go_wp2
                          go_ret
                          exact ⟨by rw [Hr.out]; rfl, btr hb (btr hbw (btr hbj nj.bel))⟩
                        · have t3' : (y.off == s.off) = false := by simpa using t3
                          have HJn : Hid (((xs.take (j + 1)).any (memClash s)) = false) := HA.out.trans (by rw [HJ.out, HC.out, t1', t2, t3']; rfl)
                          clear t3 HA HJ HC
                          go_wp2_with fail
                          refine wp_region_after (by kernel_rfl) (by kernel_rfl) ?_
                          repeat (go_big_quiet_step (fail))
                          refine wpQuiet_nil ?_
                          intro nj
                          go_wp2
                          go_roundw
                          case rel => exact ⟨j + 1, by omega, by go_num, HJn, btr hbj nj.bel⟩
                          case measure => simp [intOf]; omega
                      · have t2' : (s.off != 0) = false := by simpa using t2
                        have HJn : Hid (((xs.take (j + 1)).any (memClash s)) = false) := HA.out.trans (by rw [HJ.out, HC.out, t1', t2']; rfl)
                        clear t2 HA HJ HC
                        go_wp2_with fail
                        refine wp_region_after (by kernel_rfl) (by kernel_rfl) ?_
                        repeat (go_big_quiet_step (fail))
                        refine wpQuiet_nil ?_
                        intro nj
                        go_wp2
                        go_roundw
                        case rel => exact ⟨j + 1, by omega, by go_num, HJn, btr hbj nj.bel⟩
                        case measure => simp [intOf]; omega
                  · have hjk' : j = k := by omega
                    have Hr : Hid (goodPre memFits [] xs = goodPre memFits (xs.take (k + 1)) (xs.drop (k + 1))) := Hn.out.trans (by rw [HT.out, HO.out, h1, h2, h3, HLL.out, ← hjk', HJ.out]; simp)
                    clear Hn HT Hf HJ HO HLL
                    go_wp2
                    go_roundw
                    case rel => exact ⟨k + 1, by omega, by go_num, Hr, btr hb (btr hbw hbj)⟩
                    case measure => simp [intOf]; omega
              · have hp1 : s.num ≤ pid := by omega
                have hp2 : decide (s.num ≤ pid) = true := by simp; omega
                have Hr := Lib.hid (Hf.out (by rw [HT.out, HL.out]; simp [hp]))
                clear Hf HT HO Hn HL
                refine wp_region_after (by kernel_rfl) (by kernel_rfl) ?_
                repeat (go_big_quiet_step ((first | (go_at_call 49; exact Calls.after_same (l1In_any _ _ _ _)) | (go_at_call 60; exact Calls.after_same (l2Word_any _ _ hsz)) | (go_at_call 61; exact Calls.after_same (l3Office_any _ _)))))
                refine wpQuiet_nil ?_
                intro nq
                go_wp2
                go_ret
                exact ⟨by rw [Hr.out]; rfl, btr hb (btr hbw nq.bel)⟩
          · have h3' : inB s.off 0 3 = false := by simpa using h3
            have Hr := Lib.hid (Hf.out (by rw [HT.out, HO.out, h3']; simp))
            clear Hf HT HO Hn h3
            refine wp_region_after (by kernel_rfl) (by kernel_rfl) ?_
            repeat (go_big_quiet_step ((first | (go_at_call 49; exact Calls.after_same (l1In_any _ _ _ _)) | (go_at_call 60; exact Calls.after_same (l2Word_any _ _ hsz)) | (go_at_call 61; exact Calls.after_same (l3Office_any _ _)))))
            refine wpQuiet_nil ?_
            intro nq
            go_wp2
            go_ret
            exact ⟨by rw [Hr.out]; rfl, btr hb (btr hbw nq.bel)⟩
        · have h2' : wordB s.name = false := by simpa using h2
          have Hr := Lib.hid (Hf.out (by rw [HT.out, HO.out, h2']; simp))
          clear Hf HT HO Hn h2
          refine wp_region_after (by kernel_rfl) (by kernel_rfl) ?_
          repeat (go_big_quiet_step ((first | (go_at_call 49; exact Calls.after_same (l1In_any _ _ _ _)) | (go_at_call 60; exact Calls.after_same (l2Word_any _ _ hsz)) | (go_at_call 61; exact Calls.after_same (l3Office_any _ _)))))
          refine wpQuiet_nil ?_
          intro nq
          go_wp2
          go_ret
          exact ⟨by rw [Hr.out]; rfl, btr hb (btr hbw nq.bel)⟩
      · have h1' : inB s.num 1 99 = false := by simpa using h1
        have Hr := Lib.hid (Hf.out (by rw [HT.out, HO.out, h1']; simp))
        clear Hf HT HO Hn h1
        refine wp_region_after (by kernel_rfl) (by kernel_rfl) ?_
        repeat (go_big_quiet_step ((first | (go_at_call 49; exact Calls.after_same (l1In_any _ _ _ _)) | (go_at_call 60; exact Calls.after_same (l2Word_any _ _ hsz)) | (go_at_call 61; exact Calls.after_same (l3Office_any _ _)))))
        refine wpQuiet_nil ?_
        intro nq
        go_wp2
        go_ret
        exact ⟨by rw [Hr.out]; rfl, btr hb (btr hbw nq.bel)⟩
    · have Hn : Hid (goodMem xs = decide ((xs.length : Int) ≤ 12)) := by
        show _ = _
        unfold goodMem
        rw [H.out, List.drop_eq_nil_of_le (by omega)]; simp [goodPre]; omega
      clear H
      go_wp2
      go_ret
      exact ⟨by rw [Hn.out]; rfl, hb⟩
end Go.Proofs.YtngheildmhimoaaGreatDoor

