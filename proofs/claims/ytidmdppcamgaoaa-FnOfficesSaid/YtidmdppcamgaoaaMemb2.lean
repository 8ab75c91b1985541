/-
  Contracts of HolderOf. Conditions: lengths within Go's range.
-/
import Derived.Test.YtidmdppcamgaoaaMemb
namespace Go.My
open Go.RowKit
/-- The number of the first holder of an office, or 0. -/
def holdL (o : Int) : List Mem → Int
  | [] => 0
  | x :: r => if x.off = o then x.num else holdL o r
theorem holdL_at {o : Int} {xs : List Mem} {k : Nat} (hk : k < xs.length) : holdL o (xs.drop k) = if xs[k].off = o then xs[k].num else holdL o (xs.drop (k + 1)) := by
  rw [List.drop_eq_getElem_cons hk]; rfl
theorem holdL_idx {o : Int} {xs : List Mem} {j i : Nat} (hi : i < xs.length) (h : idxFrom (fun s : Mem => s.off == o) j xs = ((j + i : Nat) : Int)) : holdL o xs = xs[i].num := by
  induction xs generalizing j i with
  | nil => simp at hi
  | cons x r ih =>
    by_cases hx : x.off = o
    · have e : idxFrom (fun s : Mem => s.off == o) j (x :: r) = (j : Int) := if_pos (by simpa using hx)
      rw [e] at h
      have : i = 0 := by omega
      subst this
      simp [holdL, hx]
    · have e : idxFrom (fun s : Mem => s.off == o) j (x :: r) = idxFrom (fun s : Mem => s.off == o) (j + 1) r := if_neg (by simpa using hx)
      rw [e] at h
      have hr := idxFrom_range (fun s : Mem => s.off == o) (j + 1) r
      cases i with
      | zero => omega
      | succ i =>
        simp only [holdL, if_neg hx, List.getElem_cons_succ]
        exact ih (j := j + 1) (i := i) (by simpa using hi) (by rw [h]; omega)
theorem holdL_none {o : Int} {xs : List Mem} {j : Nat} (h : idxFrom (fun s : Mem => s.off == o) j xs < 0) : holdL o xs = 0 := by
  induction xs generalizing j with
  | nil => rfl
  | cons x r ih =>
    by_cases hx : x.off = o
    · have e : idxFrom (fun s : Mem => s.off == o) j (x :: r) = (j : Int) := if_pos (by simpa using hx)
      rw [e] at h; omega
    · have e : idxFrom (fun s : Mem => s.off == o) j (x :: r) = idxFrom (fun s : Mem => s.off == o) (j + 1) r := if_neg (by simpa using hx)
      rw [e] at h
      simp only [holdL, if_neg hx]; exact ih h
theorem goodMem_num {xs : List Mem} (h : goodMem xs = true) : ∀ s ∈ xs, 1 ≤ s.num ∧ s.num ≤ 99 := by
  intro s hs
  simp only [goodMem, Bool.and_eq_true] at h
  obtain ⟨ys, hy⟩ := goodPre_all h.1 s hs
  simp only [memFits, memOk, Bool.and_eq_true, inB, decide_eq_true_eq] at hy
  omega
/-- The holder of an office: what HolderOf answers. -/
def holderR (xs : List Mem) (o : Int) : Int × Bool := if (goodMem xs && inB o 0 3 && decide (o ≠ 0) && decide (holdL o xs ≠ 0)) = true then (holdL o xs, true) else (0, false)
end Go.My
namespace Go.Proofs.Ytidmdppcamgaoaa
open Go.RowKit Go.My
theorem closH_any (s : Mem) (q : Nat) (t : Int) (w : World) (hq : w.cell? ⟨q, 0, none⟩ = some (.int .i64 t)) :
    Calls Try.prog 66 #[.agg #[.int .i64 s.num, .string s.name, .int .i64 s.off], .pointer (some ⟨q, 0, none⟩)] w fun e w' => e = .returned (.bool (s.off == t)) ∧ Below w.heap.size w w' := by
  have hq2 : (w.alloc (.cells #[.int .i64 s.num, .string s.name, .int .i64 s.off] 60)).cell? ⟨q, 0, none⟩ = some (.int .i64 t) := (World.cell?_alloc_past _ _ _ (World.block_lt_of_cell? w _ hq)).trans hq
  go_enter Try.func66, Try.ntmps66
  go_wp2
  go_ret
  exact ⟨rfl, bnew (Below.refl _ _) _⟩
set_option maxHeartbeats 2000000 in
theorem holder_any (A : Option Addr) (c : Nat) (xs : List Mem) (o : Int) (w : World) (hn : xs.length ≤ maxLen) (hlc : xs.length ≤ c) (hx : Rd w A (memCells xs)) (hs : ∀ s ∈ xs, s.name.size ≤ maxLen) :
    Calls Try.prog 32 #[.slice A xs.length c, .int .i64 o] w fun en w' => en = .returned (.tuple #[.int .i64 (holderR xs o).1, .bool (holderR xs o).2]) ∧ Below w.heap.size w w' := by
  obtain ⟨r, hr⟩ : ∃ r, r = holderR xs o := ⟨_, rfl⟩
  rw [← hr]
  have Hx : Hid (∀ w1, Below w.heap.size w w1 → w1.cell? ⟨w.heap.size, 0, none⟩ = some (.int .i64 o) → Calls Try.prog 65 #[.slice A xs.length c, .func (.func 66) #[] #[.pointer (some ⟨w.heap.size, 0, none⟩)]] w1 fun e w' => e = .returned (.int .i64 (idxOf (fun s : Mem => s.off == o) xs)) ∧ Below w1.heap.size w1 w') :=
    fun w1 hb hc => indexMemH_any ⟨w.heap.size, 0, none⟩ (fun s : Mem => s.off == o) A c xs w1 hn (hx.below hb) (fun w2 hb2 s _ => closH_any s w.heap.size o w2 ((hb2.cell (World.block_lt_of_cell? _ _ hc)).trans hc))
  have Hv : Hid (∀ w1, Below w.heap.size w w1 → Calls Try.prog 31 #[.slice A xs.length c] w1 fun e w' => e = .returned (.bool (goodMem xs)) ∧ Below w1.heap.size w1 w') :=
    fun w1 hb => isMembers_any A c xs w1 hn hlc (hx.below hb) hs
  have hq0 : (w.alloc (.cells #[.int .i64 o] 3)).cell? ⟨w.heap.size, 0, none⟩ = some (.int .i64 o) := (World.cell?_alloc_at _ _ _ _ rfl).trans rfl
  have hb0 := bnew (Below.refl w.heap.size w) (.cells #[.int .i64 o] 3)
  have hx1 := hx
  have HRE : Hid (r = if (goodMem xs && inB o 0 3 && decide (o ≠ 0) && decide (holdL o xs ≠ 0)) = true then (holdL o xs, true) else (0, false)) := hr
  clear hs hx hr
  unfold maxLen at hn
  go_enter Try.func32, Try.ntmps32
  go_wp2_with fail
  generalize w.alloc (.cells #[.int .i64 o] 3) = w0 at *
  refine (Hx.out w0 hb0 hq0).mono ?_
  rintro en w1 ⟨rfl, hb1⟩
  have hb01 := btr hb0 hb1
  have hq1 := (hb1.cell (World.block_lt_of_cell? _ _ hq0)).trans hq0
  clear hq0
  obtain ⟨v, hv⟩ : ∃ v, v = idxOf (fun s : Mem => s.off == o) xs := ⟨_, rfl⟩
  rw [← hv]
  have HV := Lib.hid hv
  clear hv
  by_cases hg : goodMem xs = true
  · by_cases h2 : inB o 0 3 = true
    · by_cases h3 : o = 0
      · have HR : Hid (r = (0, false)) := HRE.out.trans (if_neg (by simp [h3]))
        have HO := Lib.hid h3
        have h3b : (o == 0) = true := by simpa using h3
        have h3d : decide (o = 0) = true := by simpa using h3
        clear h3 HRE
        go_wp2_with (first | (go_at_call 31; refine (Hv.out w1 hb01).mono ?_; rintro en w2 ⟨rfl, hb2⟩; have hqq := (hb2.cell (World.block_lt_of_cell? _ _ hq1)).trans hq1) | (go_at_call 46; refine (isOffice_any _ _).mono ?_; rintro en w3 ⟨rfl, rfl⟩))
        exact bodyPost_ret (v := .tuple #[.int .i64 0, .bool false]) (by simp [results, Try.results32, go_sem]) rfl ⟨by rw [HR.out], btr hb01 hb2⟩
      · have h3b : (o == 0) = false := by simpa using h3
        have h3d : decide (o = 0) = false := by simpa using h3
        by_cases hi : v < 0
        · have HR : Hid (r = (0, false)) := HRE.out.trans (if_neg (by rw [holdL_none (j := 0) (by have := HV.out; unfold idxOf at this; omega)]; simp))
          clear HRE
          have hid : decide (v < 0) = true := by simpa using hi
          go_wp2_with (first | (go_at_call 31; refine (Hv.out w1 hb01).mono ?_; rintro en w2 ⟨rfl, hb2⟩; have hqq := (hb2.cell (World.block_lt_of_cell? _ _ hq1)).trans hq1) | (go_at_call 46; refine (isOffice_any _ _).mono ?_; rintro en w3 ⟨rfl, rfl⟩))
          exact bodyPost_ret (v := .tuple #[.int .i64 0, .bool false]) (by simp [results, Try.results32, go_sem]) rfl ⟨by rw [HR.out], btr hb01 hb2⟩
        · obtain ⟨k, hk, e0, hp⟩ := idxOf_get (p := fun s : Mem => s.off == o) (xs := xs) (by have := HV.out; omega)
          have hvk : v = (k : Int) := HV.out.trans e0
          have hnum := goodMem_num hg xs[k] (List.getElem_mem _)
          have HR : Hid (r = (xs[k].num, true)) := HRE.out.trans (by
            have e1 := holdL_idx (o := o) (j := 0) hk (by unfold idxOf at e0; rw [e0]; simp)
            rw [e1, if_pos]
            simp [hg, h2, h3]; omega)
          clear HRE HV e0 hp hi
          subst hvk
          go_wp2_with fail
          refine (Hv.out w1 hb01).mono ?_
          rintro en w2 ⟨rfl, hb2⟩
          have hbE := btr hb01 hb2
          have hqq := (hb2.cell (World.block_lt_of_cell? _ _ hq1)).trans hq1
          obtain ⟨b, off, rfl, c0, c1, c2⟩ := Rd.mem (hx1.below hbE) hk
          generalize xs[k] = s at *
          have hkI : (k : Int) < (xs.length : Int) := by omega
          go_wp2_with (go_at_call 46; refine (isOffice_any _ _).mono ?_; rintro en w3 ⟨rfl, rfl⟩)
          exact bodyPost_ret (v := .tuple #[.int .i64 s.num, .bool true]) (by simp [results, Try.results32, go_sem]) rfl ⟨by rw [HR.out], hbE⟩
    · have h2' : inB o 0 3 = false := by simpa using h2
      have HR : Hid (r = (0, false)) := HRE.out.trans (if_neg (by simp [h2']))
      clear h2 HRE
      go_wp2_with (first | (go_at_call 31; refine (Hv.out w1 hb01).mono ?_; rintro en w2 ⟨rfl, hb2⟩; have hqq := (hb2.cell (World.block_lt_of_cell? _ _ hq1)).trans hq1) | (go_at_call 46; refine (isOffice_any _ _).mono ?_; rintro en w3 ⟨rfl, rfl⟩))
      exact bodyPost_ret (v := .tuple #[.int .i64 0, .bool false]) (by simp [results, Try.results32, go_sem]) rfl ⟨by rw [HR.out], btr hb01 hb2⟩
  · have hg' : goodMem xs = false := by simpa using hg
    have HR : Hid (r = (0, false)) := HRE.out.trans (if_neg (by simp [hg']))
    clear hg HRE
    go_wp2_with (first | (go_at_call 31; refine (Hv.out w1 hb01).mono ?_; rintro en w2 ⟨rfl, hb2⟩; have hqq := (hb2.cell (World.block_lt_of_cell? _ _ hq1)).trans hq1) | (go_at_call 46; refine (isOffice_any _ _).mono ?_; rintro en w3 ⟨rfl, rfl⟩))
    exact bodyPost_ret (v := .tuple #[.int .i64 0, .bool false]) (by simp [results, Try.results32, go_sem]) rfl ⟨by rw [HR.out], btr hb01 hb2⟩
theorem l3Holder_any (A : Option Addr) (c : Nat) (xs : List Mem) (o : Int) (w : World) (hn : xs.length ≤ maxLen) (hx : Rd w A (memCells xs)) :
    Calls Try.prog 48 #[.slice A xs.length c, .int .i64 o] w fun e w' => e = .returned (.int .i64 (holdL o xs)) ∧ Below w.heap.size w w' := by
  unfold maxLen at hn
  go_enter Try.func48, Try.ntmps48
  go_wp2
  go_loopw [5] (fun i wr => ∃ k : Nat, k ≤ xs.length ∧ i = .int .i64 k ∧ Hid (holdL o xs = holdL o (xs.drop k)) ∧ Below w.heap.size w wr) (fun i _ => xs.length - (intOf i).toNat)
  case atStart => exact ⟨0, by omega, rfl, rfl, Below.refl _ _⟩
  case round =>
    obtain ⟨k, hk, rfl, H, hb⟩ := hrel
    by_cases hlt : k < xs.length
    · obtain ⟨b, off, rfl, c0, c1, c2⟩ := Rd.mem (hx.below hb) hlt
      have Hn := Lib.hid (H.out.trans (holdL_at hlt))
      clear H
      generalize xs[k] = s at *
      by_cases hq : s.off = o
      · have Hf := Lib.hid (Hn.out.trans (if_pos hq))
        have hqb : (s.off == o) = true := by simpa using hq
        clear Hn hq
        go_wp2
        go_ret
        exact ⟨by rw [Hf.out]; rfl, hb⟩
      · have Hf := Lib.hid (Hn.out.trans (if_neg hq))
        have hqb : (s.off == o) = false := by simpa using hq
        clear Hn
        go_wp2
        go_roundw
        case rel => exact ⟨k + 1, by omega, by go_num, Hf, hb⟩
        case measure => simp [intOf]; omega
    · have Hf := Lib.hid (H.out.trans (by rw [List.drop_eq_nil_of_le (by omega)]))
      clear H
      go_wp2
      go_ret
      exact ⟨by rw [Hf.out]; rfl, hb⟩
set_option maxHeartbeats 2000000 in
theorem specHolder_any (A : Option Addr) (c : Nat) (xs : List Mem) (o : Int) (w : World) (hn : xs.length ≤ maxLen) (hlc : xs.length ≤ c) (hx : Rd w A (memCells xs)) (hs : ∀ s ∈ xs, s.name.size ≤ maxLen) :
    Calls Try.prog 34 #[.slice A xs.length c, .int .i64 o] w fun en w' => en = .returned (.tuple #[.int .i64 (holderR xs o).1, .bool (holderR xs o).2]) ∧ Below w.heap.size w w' := by
  obtain ⟨r, hr⟩ : ∃ r, r = holderR xs o := ⟨_, rfl⟩
  rw [← hr]
  have Hv : Hid (Calls Try.prog 39 #[.slice A xs.length c] w fun e w' => e = .returned (.bool (goodMem xs)) ∧ Below w.heap.size w w') := l3Good_any A c xs w hn hlc hx hs
  have Hh : Hid (∀ w1, Below w.heap.size w w1 → Calls Try.prog 48 #[.slice A xs.length c, .int .i64 o] w1 fun e w' => e = .returned (.int .i64 (holdL o xs)) ∧ Below w1.heap.size w1 w') := fun w1 hb => l3Holder_any A c xs o w1 hn (hx.below hb)
  have HRE : Hid (r = if (goodMem xs && inB o 0 3 && decide (o ≠ 0) && decide (holdL o xs ≠ 0)) = true then (holdL o xs, true) else (0, false)) := hr
  clear hs hx hr
  generalize holdL o xs = v at *
  by_cases hg : goodMem xs = true
  · by_cases h2 : inB o 0 3 = true
    · by_cases h3 : o = 0
      · have HR : Hid (r = (0, false)) := HRE.out.trans (if_neg (by simp [h3]))
        have h3b : (o == 0) = true := by simpa using h3
        have h3d : decide (o = 0) = true := by simpa using h3
        clear h3 HRE
        go_enter Try.func34, Try.ntmps34
        go_wp2_with (first | (go_at_call 39; refine Hv.out.mono ?_; rintro en w1 ⟨rfl, hb1⟩) | (go_at_call 45; refine (l3Office_any _ _).mono ?_; rintro en w3 ⟨rfl, rfl⟩))
        exact bodyPost_ret (v := .tuple #[.int .i64 0, .bool false]) (by simp [results, Try.results34, go_sem]) rfl ⟨by rw [HR.out], hb1⟩
      · have h3b : (o == 0) = false := by simpa using h3
        by_cases h4 : v = 0
        · have HR : Hid (r = (0, false)) := HRE.out.trans (if_neg (by simp [h4]))
          have h4b : (v == 0) = true := by simpa using h4
          clear h4 HRE
          go_enter Try.func34, Try.ntmps34
          go_wp2_with (first | (go_at_call 39; refine Hv.out.mono ?_; rintro en w1 ⟨rfl, hb1⟩) | (go_at_call 45; refine (l3Office_any _ _).mono ?_; rintro en w3 ⟨rfl, rfl⟩) | (go_at_call 48; refine (Hh.out _ hb1).mono ?_; rintro en w4 ⟨rfl, hb4⟩))
          exact bodyPost_ret (v := .tuple #[.int .i64 0, .bool false]) (by simp [results, Try.results34, go_sem]) rfl ⟨by rw [HR.out], btr hb1 hb4⟩
        · have HR : Hid (r = (v, true)) := HRE.out.trans (if_pos (by simp [hg, h2, h3, h4]))
          have h4b : (v == 0) = false := by simpa using h4
          clear HRE
          go_enter Try.func34, Try.ntmps34
          go_wp2_with fail
          refine Hv.out.mono ?_
          rintro en w1 ⟨rfl, hb1⟩
          go_wp2_with (go_at_call 45; refine (l3Office_any _ _).mono ?_; rintro en w3 ⟨rfl, rfl⟩)
          refine (Hh.out _ hb1).mono ?_
          rintro en w4 ⟨rfl, hb4⟩
          have hb14 := btr hb1 hb4
          go_wp2_with (go_at_call 48; refine (Hh.out _ hb14).mono ?_; rintro en w5 ⟨rfl, hb5⟩)
          exact bodyPost_ret (v := .tuple #[.int .i64 v, .bool true]) (by simp [results, Try.results34, go_sem]) rfl ⟨by rw [HR.out], btr hb14 hb5⟩
    · have h2' : inB o 0 3 = false := by simpa using h2
      have HR : Hid (r = (0, false)) := HRE.out.trans (if_neg (by simp [h2']))
      clear h2 HRE
      go_enter Try.func34, Try.ntmps34
      go_wp2_with (first | (go_at_call 39; refine Hv.out.mono ?_; rintro en w1 ⟨rfl, hb1⟩) | (go_at_call 45; refine (l3Office_any _ _).mono ?_; rintro en w3 ⟨rfl, rfl⟩))
      exact bodyPost_ret (v := .tuple #[.int .i64 0, .bool false]) (by simp [results, Try.results34, go_sem]) rfl ⟨by rw [HR.out], hb1⟩
  · have hg' : goodMem xs = false := by simpa using hg
    have HR : Hid (r = (0, false)) := HRE.out.trans (if_neg (by simp [hg']))
    clear hg HRE
    go_enter Try.func34, Try.ntmps34
    go_wp2_with (first | (go_at_call 39; refine Hv.out.mono ?_; rintro en w1 ⟨rfl, hb1⟩) | (go_at_call 45; refine (l3Office_any _ _).mono ?_; rintro en w3 ⟨rfl, rfl⟩))
    exact bodyPost_ret (v := .tuple #[.int .i64 0, .bool false]) (by simp [results, Try.results34, go_sem]) rfl ⟨by rw [HR.out], hb1⟩
end Go.Proofs.Ytidmdppcamgaoaa

