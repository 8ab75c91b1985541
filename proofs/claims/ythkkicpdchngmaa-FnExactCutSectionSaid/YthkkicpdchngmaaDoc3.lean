/-
  Contracts of CutSection, of the program and of the reference. Conditions: lengths within Go's range.
-/
import Derived.Test.YthkkicpdchngmaaDoc2
import Derived.Test.YthkkicpdchngmaaSlSec
namespace Go.My
open Go.RowKit
/-- A list without the sections from i to i + the length of its part. -/
def cutAt (xs : List Sec) (i : Nat) : List Sec := xs.take i ++ xs.drop (i + partLen xs i + 1)
def cutR (xs : List Sec) (i : Int) : List Sec × Bool := if okAt xs i = true then (cutAt xs i.toNat, true) else ([], false)
theorem okAt_in {xs : List Sec} {i : Int} (h : okAt xs i = true) : ∃ k : Nat, i = (k : Int) ∧ k < xs.length ∧ xs.length ≤ 12 := by
  simp only [okAt, goodDoc, Bool.and_eq_true, inB, decide_eq_true_eq] at h
  exact ⟨i.toNat, by omega, by omega, h.1.2⟩
theorem cutAt_len {xs : List Sec} {i : Nat} (hi : i < xs.length) : (cutAt xs i).length ≤ xs.length := by
  simp [cutAt]; omega
theorem cutR_len (xs : List Sec) (i : Int) (h : xs.length ≤ 1048576) : (cutR xs i).1.length ≤ 2097152 := by
  unfold cutR
  by_cases hq : okAt xs i = true
  · obtain ⟨k, rfl, hk, h12⟩ := okAt_in hq
    have := cutAt_len hk
    rw [if_pos hq]
    simp; omega
  · rw [if_neg hq]; simp
end Go.My
namespace Go.Proofs.Ythkkicpdchngmaa
open Go.RowKit Go.My
set_option maxHeartbeats 2000000 in
theorem cut_any (A : Option Addr) (c : Nat) (xs : List Sec) (i : Int) (w : World) (hn : xs.length ≤ maxLen) (_ : xs.length ≤ c) (hx : Rd w A (secCells xs)) (hs : ∀ s ∈ xs, s.t.size ≤ maxLen) :
    Calls Try.prog 19 #[.slice A xs.length c, .int .i64 i] w fun en w' => ∃ A' c', en = .returned (.tuple #[.slice A' (cutR xs i).1.length c', .bool (cutR xs i).2]) ∧ w'.ownsRow w.heap.size 41 2 (.slice A' (cutR xs i).1.length c') (cutR xs i).1.length (secCells (cutR xs i).1) ∧ Below w.heap.size w w' := by
  obtain ⟨r, hr⟩ : ∃ r, r = cutR xs i := ⟨_, rfl⟩
  rw [← hr]
  have Hh := Lib.hid (hasSection_any A c xs i w hn hx hs)
  by_cases hm : okAt xs i = true
  · obtain ⟨k, rfl, hk, h12⟩ := okAt_in hm
    have HR : Hid (r = (cutAt xs k, true)) := hr.trans (if_pos hm)
    have Hp : Hid (∀ w1 : World, Below w.heap.size w w1 → Calls Try.prog 35 #[.slice A xs.length c, .int .i64 k] w1 fun e w' => e = .returned (.int .i64 (partLen xs k : Nat)) ∧ Below w1.heap.size w1 w') := fun w1 hb => partsOf_any A c xs k w1 (by omega) hk (hx.below hb)
    have hpl := partLen_le hk
    have HYS : Hid (cutAt xs k = xs.take k ++ xs.drop (k + 1 + partLen xs k)) := (show _ = _ from by rw [show k + 1 + partLen xs k = k + partLen xs k + 1 by omega]; rfl)
    clear hs hr hn
    generalize cutAt xs k = ys at *
    generalize partLen xs k = p at *
    have HD : Hid (∀ (A1 : Option Addr) (c1 B : Nat) (w3 : World), w3.ownsRow B 41 2 (.slice A1 xs.length c1) xs.length (secCells xs) → Calls Try.prog 38 #[.slice A1 xs.length c1, .int .i64 k, .int .i64 ((k : Int) + 1 + (p : Int))] w3 (RowRet w3 B 41 2 A1 c1 ys.length (secCells ys) (Value.slice A1 xs.length c1).ownBlock)) := by
      intro A1 c1 B w3 ho
      have := delete_Sec A1 c1 B xs ys k (k + 1 + p) w3 (by omega) (by omega) (by omega) ho HYS
      rwa [show ((k + 1 + p : Nat) : Int) = (k : Int) + 1 + (p : Int) by omega] at this
    go_enter Try.func19, Try.ntmps19
    go_wp2_with fail
    refine Hh.out.mono ?_
    rintro en w1 ⟨rfl, hb1⟩
    have ho0 := own_lit (e := 41) (size := 2) (B := w1.heap.size) (w := w1) #[] 0 (Nat.le_refl _) (by unfold maxLen; omega) rfl
    have hx1 := (hx.below hb1).alloc (.cells #[] 41)
    have hl0 := secCells_len xs
    have h10 := secCells_one xs
    have hba := bnew (Below.refl w1.heap.size w1) (.cells #[] 41)
    clear hx
    go_wp2_with (first | (at_builtin; refine wpl_app rfl (.tmp 10) (.tmp 11) 25 rfl el_Sec (v := .slice (some ⟨w1.heap.size, 0, none⟩) 0 0) rfl ho0 rfl hl0 hx1 h10 (by unfold maxLen; omega) (by omega) hba.size ?_; intro A1 c1 w2 ho1 hg1 _; have hb2 : Below w1.heap.size w1 w2 := (hba.grown hg1 hba.size (fun q hq => (ho0.lt q hq).1)); simp only [Nat.zero_add, List.nil_append] at ho1; have hb12 := btr hb1 hb2) | (go_at_call 35; refine (Hp.out _ hb12).mono ?_; rintro en w3 ⟨rfl, hb3⟩; have ho3 := own_below ho1 hb3) | (go_at_call 38; refine (HD.out _ _ _ _ ho3).mono ?_; rintro en w4 ⟨rfl, ho4, hg4⟩))
    have hb13 := btr hb2 hb3
    have hb4 : Below w1.heap.size w1 w4 := hb13.grown hg4 hb13.size (fun q hq => (ho3.lt q hq).1)
    exact bodyPost_ret (v := .tuple #[.slice A1 ys.length c1, .bool true]) (by simp [results, Try.results19, go_sem]) rfl ⟨A1, c1, by rw [HR.out], by rw [HR.out]; exact own_base ho4 hb1.size, btr hb1 hb4⟩
  · have HR : Hid (r = ([], false)) := hr.trans (if_neg hm)
    have hm' : okAt xs i = false := by simpa using hm
    clear hr hs hx hn hm
    go_enter Try.func19, Try.ntmps19
    go_wp2_with (go_at_call 34; refine Hh.out.mono ?_; rintro en w1 ⟨rfl, hb1⟩)
    exact bodyPost_ret (v := .tuple #[.slice none 0 0, .bool false]) (by simp [results, Try.results19, go_sem]) rfl ⟨none, 0, by rw [HR.out]; rfl, by rw [HR.out]; exact own_nil, hb1⟩
set_option maxHeartbeats 2000000 in
theorem specCut_any (A : Option Addr) (c : Nat) (xs : List Sec) (i : Int) (w : World) (hn : xs.length ≤ maxLen) (hlc : xs.length ≤ c) (hx : Rd w A (secCells xs)) (hs : ∀ s ∈ xs, s.t.size ≤ maxLen) :
    Calls Try.prog 18 #[.slice A xs.length c, .int .i64 i] w fun en w' => ∃ A' c', en = .returned (.tuple #[.slice A' (cutR xs i).1.length c', .bool (cutR xs i).2]) ∧ w'.ownsRow w.heap.size 41 2 (.slice A' (cutR xs i).1.length c') (cutR xs i).1.length (secCells (cutR xs i).1) ∧ Below w.heap.size w w' := by
  obtain ⟨r, hr⟩ : ∃ r, r = cutR xs i := ⟨_, rfl⟩
  rw [← hr]
  have Hh := Lib.hid (l6Asked_any A c xs i w hn hx hs)
  by_cases hm : okAt xs i = true
  · obtain ⟨k, rfl, hk, h12⟩ := okAt_in hm
    have HR : Hid (r = (cutAt xs k, true)) := hr.trans (if_pos hm)
    have Hp : Hid (∀ w1 : World, Below w.heap.size w w1 → Calls Try.prog 33 #[.slice A xs.length c, .int .i64 k] w1 fun e w' => e = .returned (.int .i64 (partLen xs k : Nat)) ∧ Below w1.heap.size w1 w') := fun w1 hb => l6Part_any A c xs k w1 (by omega) hk (hx.below hb)
    have hpl : k + partLen xs k + 1 ≤ xs.length := by have := partLen_le hk; omega
    have HYS : Hid (secCells (cutAt xs k) = secCells (xs.take k) ++ secCells (xs.drop (k + partLen xs k + 1))) := secCells_append _ _
    have HYL : Hid ((cutAt xs k).length = k + (xs.length - (k + partLen xs k + 1))) := by show _ = _; simp [cutAt]; omega
    clear hs hr hn
    generalize cutAt xs k = ys at *
    generalize partLen xs k = p at *
    obtain ⟨b, off, rfl, -, -⟩ := Rd.sec hx hk
    have hT : Rd w (some ⟨b, off, none⟩) (secCells (xs.take k)) := by have := hx.take (k * 2); rwa [secCells_take xs k (by omega)] at this
    have hDr : Rd w (if c = k + p + 1 then some ⟨b, off, none⟩ else some ⟨b, off + (k + p + 1) * 2, none⟩) (secCells (xs.drop (k + p + 1))) := by
      have := hx.cutg (k + p + 1) 2 c (by intro h; rw [secCells_len]; omega)
      rwa [secCells_drop xs (k + p + 1) (by omega)] at this
    have hT1 := secCells_one (xs.take k)
    have hTl : (secCells (xs.take k)).length = k * 2 := by rw [secCells_len, List.length_take, Nat.min_eq_left (by omega)]
    have hD1 := secCells_one (xs.drop (k + p + 1))
    have hDl : (secCells (xs.drop (k + p + 1))).length = (xs.length - (k + p + 1)) * 2 := by rw [secCells_len, List.length_drop]
    generalize secCells (xs.take k) = TC at *
    generalize secCells (xs.drop (k + p + 1)) = DC at *
    have hkc : k ≤ c := by omega
    have hkcI : (k : Int) ≤ (c : Int) := by omega
    have hp1 : (k : Int) + (p : Int) + 1 ≤ (xs.length : Int) := by omega
    by_cases hcc : c = k + p + 1
    · rw [if_pos hcc] at hDr
      subst hcc
      go_enter Try.func18, Try.ntmps18
      go_wp2_with fail
      refine Hh.out.mono ?_
      rintro en w1 ⟨rfl, hb1⟩
      have ho0 := own_lit (e := 41) (size := 2) (B := w1.heap.size) (w := w1) #[] 0 (Nat.le_refl _) (by unfold maxLen; omega) rfl
      have hT' := (hT.below hb1).alloc (.cells #[] 41)
      have hba := bnew (Below.refl w1.heap.size w1) (.cells #[] 41)
      go_wp2_with (first | (at_builtin; refine wpl_app rfl (.tmp 11) (.tmp 14) 25 rfl el_Sec (v := .slice (some ⟨w1.heap.size, 0, none⟩) 0 0) rfl ho0 rfl hTl hT' hT1 (by unfold maxLen; omega) (by omega) hba.size ?_; intro A1 c1 w2 ho1 hg1 _; have hb2 : Below w1.heap.size w1 w2 := (hba.grown hg1 hba.size (fun q hq => (ho0.lt q hq).1)); simp only [Nat.zero_add, List.nil_append] at ho1; have hb12 := btr hb1 hb2) | (go_at_call 33; refine (Hp.out _ hb12).mono ?_; rintro en w3 ⟨rfl, hb3⟩; have ho3 := own_below ho1 hb3; have hb13 := btr hb2 hb3; have hD3 := hDr.below (btr hb1 hb13)) | (at_builtin; refine wpl_app rfl (.tmp 15) (.tmp 23) 25 rfl el_Sec (v := .slice A1 k c1) rfl ho3 rfl hDl hD3 hD1 (by unfold maxLen; omega) (by omega) hb13.size ?_; intro A5 c5 w5 ho5 hg5 _; have hb15 : Below w1.heap.size w1 w5 := hb13.grown hg5 hb13.size (fun q hq => (ho3.lt q hq).1); rw [← HYS.out] at ho5))
      exact bodyPost_ret (v := .tuple #[.slice A5 (k + (xs.length - (k + p + 1))) c5, .bool true]) (by simp [results, Try.results18, go_sem] <;> omega) rfl ⟨A5, c5, by rw [HR.out]; simp only [HYL.out], by rw [HR.out]; simp only [HYL.out]; exact own_base ho5 hb1.size, btr hb1 hb15⟩
    · rw [if_neg hcc] at hDr
      go_enter Try.func18, Try.ntmps18
      go_wp2_with fail
      refine Hh.out.mono ?_
      rintro en w1 ⟨rfl, hb1⟩
      have ho0 := own_lit (e := 41) (size := 2) (B := w1.heap.size) (w := w1) #[] 0 (Nat.le_refl _) (by unfold maxLen; omega) rfl
      have hT' := (hT.below hb1).alloc (.cells #[] 41)
      have hba := bnew (Below.refl w1.heap.size w1) (.cells #[] 41)
      go_wp2_with (first | (at_builtin; refine wpl_app rfl (.tmp 11) (.tmp 14) 25 rfl el_Sec (v := .slice (some ⟨w1.heap.size, 0, none⟩) 0 0) rfl ho0 rfl hTl hT' hT1 (by unfold maxLen; omega) (by omega) hba.size ?_; intro A1 c1 w2 ho1 hg1 _; have hb2 : Below w1.heap.size w1 w2 := (hba.grown hg1 hba.size (fun q hq => (ho0.lt q hq).1)); simp only [Nat.zero_add, List.nil_append] at ho1; have hb12 := btr hb1 hb2) | (go_at_call 33; refine (Hp.out _ hb12).mono ?_; rintro en w3 ⟨rfl, hb3⟩; have ho3 := own_below ho1 hb3; have hb13 := btr hb2 hb3; have hD3 := hDr.below (btr hb1 hb13)) | (at_builtin; refine wpl_app rfl (.tmp 15) (.tmp 23) 25 rfl el_Sec (v := .slice A1 k c1) rfl ho3 rfl hDl hD3 hD1 (by unfold maxLen; omega) (by omega) hb13.size ?_; intro A5 c5 w5 ho5 hg5 _; have hb15 : Below w1.heap.size w1 w5 := hb13.grown hg5 hb13.size (fun q hq => (ho3.lt q hq).1); rw [← HYS.out] at ho5))
      exact bodyPost_ret (v := .tuple #[.slice A5 (k + (xs.length - (k + p + 1))) c5, .bool true]) (by simp [results, Try.results18, go_sem] <;> omega) rfl ⟨A5, c5, by rw [HR.out]; simp only [HYL.out], by rw [HR.out]; simp only [HYL.out]; exact own_base ho5 hb1.size, btr hb1 hb15⟩
  · have HR : Hid (r = ([], false)) := hr.trans (if_neg hm)
    have hm' : okAt xs i = false := by simpa using hm
    clear hr hs hx hn hm
    go_enter Try.func18, Try.ntmps18
    go_wp2_with (go_at_call 32; refine Hh.out.mono ?_; rintro en w1 ⟨rfl, hb1⟩)
    exact bodyPost_ret (v := .tuple #[.slice (some ⟨w1.heap.size, 0, none⟩) 0 0, .bool false]) (by simp [results, Try.results18, go_sem]) rfl ⟨some ⟨w1.heap.size, 0, none⟩, 0, by rw [HR.out]; rfl, by rw [HR.out]; exact own_lit (e := 41) (size := 2) (w := w1) #[] 0 hb1.size (by unfold maxLen; omega) rfl, bnew hb1 _⟩
end Go.Proofs.Ythkkicpdchngmaa
