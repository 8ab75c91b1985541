/-
  Contracts of ExpelMember. Conditions: lengths within Go's range.
-/
import Derived.Test.YtngheildmhimoaaGreatDoorMemb
import Derived.Test.YtngheildmhimoaaGreatDoorSlMem
import Derived.Test.YtngheildmhimoaaGreatDoorFindMem
import Derived.Test.YtngheildmhimoaaGreatDoorApp
namespace Go.My
open Go.RowKit
def delAt (xs : List Mem) (k : Nat) : List Mem := xs.take k ++ xs.drop (k + 1)
def offAt (xs : List Mem) (k : Nat) : Int := match xs[k]? with | some s => s.off | none => 0
def expelR (xs : List Mem) (n : Int) : List Mem × Bool :=
  if (goodMem xs && decide (0 ≤ idxOf (fun s : Mem => s.num == n) xs) && decide (offAt xs (idxOf (fun s : Mem => s.num == n) xs).toNat ≠ 1)) = true then (delAt xs (idxOf (fun s : Mem => s.num == n) xs).toNat, true) else ([], false)
theorem goodMem_len {xs : List Mem} (h : goodMem xs = true) : xs.length ≤ 12 := by
  simp only [goodMem, Bool.and_eq_true, decide_eq_true_eq] at h; exact h.2
end Go.My
namespace Go.Proofs.YtngheildmhimoaaGreatDoor
open Go.RowKit Go.My
set_option maxHeartbeats 2000000 in
theorem expel_any (A : Option Addr) (c : Nat) (xs : List Mem) (n : Int) (w : World) (hn : xs.length ≤ maxLen) (hlc : xs.length ≤ c) (hx : Rd w A (memCells xs)) (hs : ∀ s ∈ xs, s.name.size ≤ maxLen) :
    Calls Tryz.prog 9 #[.slice A xs.length c, .int .i64 n] w fun en w' => ∃ A' c', en = .returned (.tuple #[.slice A' (expelR xs n).1.length c', .bool (expelR xs n).2]) ∧ w'.ownsRow w.heap.size 54 3 (.slice A' (expelR xs n).1.length c') (expelR xs n).1.length (memCells (expelR xs n).1) ∧ Below w.heap.size w w' := by
  obtain ⟨r, hr⟩ : ∃ r, r = expelR xs n := ⟨_, rfl⟩
  rw [← hr]
  have Hx := Lib.hid (memberIndex_any A c xs n w hn hx)
  have Hv : Hid (∀ w1, Below w.heap.size w w1 → Calls Tryz.prog 10 #[.slice A xs.length c] w1 fun e w' => e = .returned (.bool (goodMem xs)) ∧ Below w1.heap.size w1 w') :=
    fun w1 hb => isMembers_any A c xs w1 hn hlc (hx.below hb) hs
  obtain ⟨v, hv⟩ : ∃ v, v = idxOf (fun s : Mem => s.num == n) xs := ⟨_, rfl⟩
  unfold expelR at hr
  rw [← hv] at hr Hx
  have HV := Lib.hid hv
  have HRE := Lib.hid hr
  clear hv hr hs
  by_cases hg : goodMem xs = true
  · have h12 := goodMem_len hg
    by_cases hi : v < 0
    · have HR : Hid (r = ([], false)) := HRE.out.trans (if_neg (by simp; omega))
      have hid : decide (v < 0) = true := by simpa using hi
      clear HRE hx hn
      go_enter Tryz.func9, Tryz.ntmps9
      go_wp2_with (first | (go_at_call 29; refine Hx.out.mono ?_; rintro en w1 ⟨rfl, hb1⟩) | (go_at_call 10; refine (Hv.out w1 hb1).mono ?_; rintro en w2 ⟨rfl, hb2⟩))
      exact bodyPost_ret (v := .tuple #[.slice none 0 0, .bool false]) (by simp [results, Tryz.results9, go_sem]) rfl ⟨none, 0, by rw [HR.out]; rfl, by rw [HR.out]; exact own_nil, btr hb1 hb2⟩
    · obtain ⟨k, hk, e0, hp⟩ := idxOf_get (p := fun s : Mem => s.num == n) (xs := xs) (by have := HV.out; omega)
      have hvk : v = (k : Int) := HV.out.trans e0
      clear e0 hp HV hi
      subst hvk
      have HO : Hid (offAt xs k = xs[k].off) := by show _ = _; simp [offAt, List.getElem?_eq_getElem hk]
      have HSP : Hid (∀ w1, Below w.heap.size w w1 → ∃ b off, A = some ⟨b, off, none⟩ ∧ w1.cell? ⟨b, off + k * 3 + 2, none⟩ = some (.int .i64 xs[k].off)) := by
        intro w1 hb
        obtain ⟨b, off, e, c0, c1, c2⟩ := Rd.mem (hx.below hb) hk
        exact ⟨b, off, e, c2⟩
      generalize xs[k].off = of at *
      have hkI : (k : Int) < (xs.length : Int) := by omega
      by_cases ho : of = 1
      · have HR : Hid (r = ([], false)) := HRE.out.trans (if_neg (by simp [HO.out, ho]))
        have hob : (of == 1) = true := by simpa using ho
        clear HRE hx hn HO ho
        go_enter Tryz.func9, Tryz.ntmps9
        go_wp2_with fail
        refine Hx.out.mono ?_
        rintro en w1 ⟨rfl, hb1⟩
        go_wp2_with fail
        refine (Hv.out w1 hb1).mono ?_
        rintro en w2 ⟨rfl, hb2⟩
        obtain ⟨b, off, rfl, c2⟩ := HSP.out w2 (btr hb1 hb2)
        go_wp2
        exact bodyPost_ret (v := .tuple #[.slice none 0 0, .bool false]) (by simp [results, Tryz.results9, go_sem]) rfl ⟨none, 0, by rw [HR.out]; rfl, by rw [HR.out]; exact own_nil, btr hb1 hb2⟩
      · have HR : Hid (r = (delAt xs k, true)) := HRE.out.trans (if_pos (by simp [hg, HO.out, ho]))
        have hob : (of == 1) = false := by simpa using ho
        have HYS : Hid (delAt xs k = xs.take k ++ xs.drop (k + 1)) := rfl
        clear HRE HO ho
        generalize delAt xs k = ys at *
        have HD : Hid (∀ (A1 : Option Addr) (c1 B : Nat) (w3 : World), w3.ownsRow B 54 3 (.slice A1 xs.length c1) xs.length (memCells xs) → Calls Tryz.prog 30 #[.slice A1 xs.length c1, .int .i64 k, .int .i64 ((k : Int) + 1)] w3 (RowRet w3 B 54 3 A1 c1 ys.length (memCells ys) (Value.slice A1 xs.length c1).ownBlock)) := by
          intro A1 c1 B w3 ho
          have := delete_Mem A1 c1 B xs ys k (k + 1) w3 (by omega) (by omega) (by omega) ho HYS
          rwa [show ((k + 1 : Nat) : Int) = (k : Int) + 1 by omega] at this
        have hl0 := memCells_len xs
        have h10 := memCells_one xs
        go_enter Tryz.func9, Tryz.ntmps9
        go_wp2_with fail
        refine Hx.out.mono ?_
        rintro en w1 ⟨rfl, hb1⟩
        go_wp2_with fail
        refine (Hv.out w1 hb1).mono ?_
        rintro en w2 ⟨rfl, hb2⟩
        have hb02 := btr hb1 hb2
        obtain ⟨b, off, rfl, c2⟩ := HSP.out w2 hb02
        have ho0 := own_lit (e := 54) (size := 3) (B := w2.heap.size) (w := w2) #[] 0 (Nat.le_refl _) (by unfold maxLen; omega) rfl
        have hx1 := (hx.below hb02).alloc (.cells #[] 54)
        have hba := bnew (Below.refl w2.heap.size w2) (.cells #[] 54)
        go_wp2_with (first | (at_builtin; refine wpl_app rfl (.tmp 25) (.tmp 26) 24 rfl el_Mem (v := .slice (some ⟨w2.heap.size, 0, none⟩) 0 0) rfl ho0 rfl hl0 hx1 h10 (by unfold maxLen; omega) (by omega) hba.size ?_; intro A1 c1 w3 ho1 hg1 _; have hb3 : Below w2.heap.size w2 w3 := (hba.grown hg1 hba.size (fun q hq => (ho0.lt q hq).1)); simp only [Nat.zero_add, List.nil_append] at ho1) | (go_at_call 30; refine (HD.out _ _ _ _ ho1).mono ?_; rintro en w4 ⟨rfl, ho4, hg4⟩))
        have hb4 : Below w2.heap.size w2 w4 := hb3.grown hg4 hb3.size (fun q hq => (ho1.lt q hq).1)
        exact bodyPost_ret (v := .tuple #[.slice A1 ys.length c1, .bool true]) (by simp [results, Tryz.results9, go_sem]) rfl ⟨A1, c1, by rw [HR.out], by rw [HR.out]; exact own_base ho4 hb02.size, btr hb02 hb4⟩
  · have HR : Hid (r = ([], false)) := HRE.out.trans (if_neg (by simp [hg]))
    have hg' : goodMem xs = false := by simpa using hg
    clear HRE hx hn hg
    go_enter Tryz.func9, Tryz.ntmps9
    go_wp2_with (first | (go_at_call 29; refine Hx.out.mono ?_; rintro en w1 ⟨rfl, hb1⟩) | (go_at_call 10; refine (Hv.out w1 hb1).mono ?_; rintro en w2 ⟨rfl, hb2⟩))
    exact bodyPost_ret (v := .tuple #[.slice none 0 0, .bool false]) (by simp [results, Tryz.results9, go_sem]) rfl ⟨none, 0, by rw [HR.out]; rfl, by rw [HR.out]; exact own_nil, btr hb1 hb2⟩
set_option maxHeartbeats 2000000 in
theorem specExpel_any (A : Option Addr) (c : Nat) (xs : List Mem) (n : Int) (w : World) (hn : xs.length ≤ maxLen) (hlc : xs.length ≤ c) (hx : Rd w A (memCells xs)) (hs : ∀ s ∈ xs, s.name.size ≤ maxLen) :
    Calls Tryz.prog 12 #[.slice A xs.length c, .int .i64 n] w fun en w' => ∃ A' c', en = .returned (.tuple #[.slice A' (expelR xs n).1.length c', .bool (expelR xs n).2]) ∧ w'.ownsRow w.heap.size 54 3 (.slice A' (expelR xs n).1.length c') (expelR xs n).1.length (memCells (expelR xs n).1) ∧ Below w.heap.size w w' := by
  obtain ⟨r, hr⟩ : ∃ r, r = expelR xs n := ⟨_, rfl⟩
  rw [← hr]
  have Hx := Lib.hid (findMem_any A c xs n w hn hx)
  have Hv : Hid (∀ w1, Below w.heap.size w w1 → Calls Tryz.prog 28 #[.slice A xs.length c] w1 fun e w' => e = .returned (.bool (goodMem xs)) ∧ Below w1.heap.size w1 w') :=
    fun w1 hb => l3Good_any A c xs w1 hn hlc (hx.below hb) hs
  obtain ⟨v, hv⟩ : ∃ v, v = idxOf (fun s : Mem => s.num == n) xs := ⟨_, rfl⟩
  unfold expelR at hr
  rw [← hv] at hr Hx
  have HV := Lib.hid hv
  have HRE := Lib.hid hr
  clear hv hr hs
  by_cases hg : goodMem xs = true
  · have h12 := goodMem_len hg
    by_cases hi : v < 0
    · have HR : Hid (r = ([], false)) := HRE.out.trans (if_neg (by simp; omega))
      have hid : decide (v < 0) = true := by simpa using hi
      clear HRE hx hn
      go_enter Tryz.func12, Tryz.ntmps12
      go_wp2_with (first | (go_at_call 37; refine Hx.out.mono ?_; rintro en w1 ⟨rfl, hb1⟩) | (go_at_call 28; refine (Hv.out w1 hb1).mono ?_; rintro en w2 ⟨rfl, hb2⟩))
      exact bodyPost_ret (v := .tuple #[.slice (some ⟨w2.heap.size, 0, none⟩) 0 0, .bool false]) (by simp [results, Tryz.results12, go_sem]) rfl ⟨some ⟨w2.heap.size, 0, none⟩, 0, by rw [HR.out]; rfl, by rw [HR.out]; exact own_lit (e := 54) (size := 3) (w := w2) #[] 0 (btr hb1 hb2).size (by unfold maxLen; omega) rfl, bnew (btr hb1 hb2) _⟩
    · obtain ⟨k, hk, e0, hp⟩ := idxOf_get (p := fun s : Mem => s.num == n) (xs := xs) (by have := HV.out; omega)
      have hvk : v = (k : Int) := HV.out.trans e0
      clear e0 hp HV hi
      subst hvk
      have HO : Hid (offAt xs k = xs[k].off) := by show _ = _; simp [offAt, List.getElem?_eq_getElem hk]
      have HSP : Hid (∀ w1, Below w.heap.size w w1 → ∃ b off, A = some ⟨b, off, none⟩ ∧ w1.cell? ⟨b, off + k * 3 + 2, none⟩ = some (.int .i64 xs[k].off)) := by
        intro w1 hb
        obtain ⟨b, off, e, c0, c1, c2⟩ := Rd.mem (hx.below hb) hk
        exact ⟨b, off, e, c2⟩
      generalize xs[k].off = of at *
      have hkI : (k : Int) < (xs.length : Int) := by omega
      by_cases ho : of = 1
      · have HR : Hid (r = ([], false)) := HRE.out.trans (if_neg (by simp [HO.out, ho]))
        have hob : (of == 1) = true := by simpa using ho
        clear HRE hx hn HO ho
        go_enter Tryz.func12, Tryz.ntmps12
        go_wp2_with fail
        refine Hx.out.mono ?_
        rintro en w1 ⟨rfl, hb1⟩
        go_wp2_with fail
        refine (Hv.out w1 hb1).mono ?_
        rintro en w2 ⟨rfl, hb2⟩
        obtain ⟨b, off, rfl, c2⟩ := HSP.out w2 (btr hb1 hb2)
        go_wp2
        exact bodyPost_ret (v := .tuple #[.slice (some ⟨w2.heap.size, 0, none⟩) 0 0, .bool false]) (by simp [results, Tryz.results12, go_sem]) rfl ⟨some ⟨w2.heap.size, 0, none⟩, 0, by rw [HR.out]; rfl, by rw [HR.out]; exact own_lit (e := 54) (size := 3) (w := w2) #[] 0 (btr hb1 hb2).size (by unfold maxLen; omega) rfl, bnew (btr hb1 hb2) _⟩
      · have HR : Hid (r = (delAt xs k, true)) := HRE.out.trans (if_pos (by simp [hg, HO.out, ho]))
        have hob : (of == 1) = false := by simpa using ho
        have HYS : Hid (memCells (delAt xs k) = memCells (xs.take k) ++ memCells (xs.drop (k + 1))) := memCells_append _ _
        have HYL : Hid ((delAt xs k).length = k + (xs.length - (k + 1))) := by show _ = _; simp [delAt]; omega
        clear HRE HO ho
        generalize delAt xs k = ys at *
        obtain ⟨b, off, rfl, -⟩ := HSP.out w (Below.refl _ _)
        have hT : Rd w (some ⟨b, off, none⟩) (memCells (xs.take k)) := by have := hx.take (k * 3); rwa [memCells_take xs k (by omega)] at this
        have hDr : Rd w (if c = k + 1 then some ⟨b, off, none⟩ else some ⟨b, off + (k + 1) * 3, none⟩) (memCells (xs.drop (k + 1))) := by
          have := hx.cutg (k + 1) 3 c (by intro h; rw [memCells_len]; omega)
          rwa [memCells_drop xs (k + 1) (by omega)] at this
        have hT1 := memCells_one (xs.take k)
        have hTl : (memCells (xs.take k)).length = k * 3 := by rw [memCells_len, List.length_take, Nat.min_eq_left (by omega)]
        have hD1 := memCells_one (xs.drop (k + 1))
        have hDl : (memCells (xs.drop (k + 1))).length = (xs.length - (k + 1)) * 3 := by rw [memCells_len, List.length_drop]
        generalize memCells (xs.take k) = TC at *
        generalize memCells (xs.drop (k + 1)) = DC at *
        have hp2 : k + 1 ≤ xs.length := by omega
        obtain ⟨j, hj⟩ : ∃ j, j = k + 1 := ⟨_, rfl⟩
        rw [← hj] at hDr hDl hp2
        replace HYL : Hid (ys.length = k + (xs.length - j)) := by rw [hj]; exact HYL
        have hkc : k ≤ c := by omega
        have hjc : j ≤ c := by omega
        have hkcI : (k : Int) ≤ (c : Int) := by omega
        have hk00 : (0 : Int) ≤ (k : Int) := Int.natCast_nonneg _
        have hk01 : (0 : Int) ≤ (j : Int) := Int.natCast_nonneg _
        have hk02 : (j : Int) ≤ (xs.length : Int) := by omega
        have hk04 : (xs.length : Int) ≤ (c : Int) := by omega
        have hj1 : (k : Int) + 1 = (j : Int) := by omega
        have hjw : IntKind.i64.wrap (j : Int) = (j : Int) := by rw [IntKind.wrap_i64]; omega
        have hkw : IntKind.i64.wrap ((k : Int) + 1) = (j : Int) := by rw [IntKind.wrap_i64]; omega
        clear hj
        by_cases hcc : c = j
        · rw [if_pos hcc] at hDr
          subst hcc
          have hDl0 : DC.length = 0 * 3 := by omega
          have HY0 : Hid (ys.length = k) := HYL.out.trans (by omega)
          go_enter Tryz.func12, Tryz.ntmps12
          go_wp2_with fail
          refine Hx.out.mono ?_
          rintro en w1 ⟨rfl, hb1⟩
          go_wp2_with fail
          refine (Hv.out w1 hb1).mono ?_
          rintro en w2 ⟨rfl, hb2⟩
          have hb02 := btr hb1 hb2
          obtain ⟨b9, off9, e9, c2⟩ := HSP.out w2 hb02
          have k9 : b9 = b ∧ off9 = off := by simpa using e9.symm
          obtain ⟨rfl, rfl⟩ := k9
          clear e9
          go_wp2_with fail
          have ho0 := (own_lit (e := 54) (size := 3) (B := w2.heap.size) (w := w2) #[] 0 (Nat.le_refl _) (by unfold maxLen; omega) rfl).drew
          have hba := (bnew (Below.refl w2.heap.size w2) (.cells #[] 54)).drew
          have hT' := hT.below (btr hb02 hba)
          go_region_held3 (fun _ => True) (trivial) ((first | (refine step_app (by rfl) (.tmp 26) (.tmp 29) 24 (by rfl) el_Mem (v := .slice (some ⟨w2.heap.size, 0, none⟩) 0 0) (by rfl) ho0 (by rfl) hTl hT' hT1 (by unfold maxLen; omega) (by omega) hba.size ?_; intro A1 c1 w3 ho1 hg1 _; have hb3 : Below w2.heap.size w2 w3 := (hba.grown hg1 hba.size (fun q hq => (ho0.lt q hq).1)); simp only [Nat.zero_add, List.nil_append] at ho1; have hD3 := hDr.below (btr hb02 hb3)) | (refine step_app (by rfl) (.tmp 30) (.tmp 34) 24 (by rfl) el_Mem (v := .slice A1 k c1) (by (first | rfl | exact congrArg (fun q => Value.slice A1 q c1) (Nat.zero_add k))) ho1 (by rfl) hDl0 hD3 hD1 (by unfold maxLen; omega) (by omega) hb3.size ?_; intro A5 c5 w5 ho5 hg5 _; have hb5 : Below w2.heap.size w2 w5 := hb3.grown hg5 hb3.size (fun q hq => (ho1.lt q hq).1); rw [← HYS.out] at ho5)))
          go_wp2
          exact bodyPost_ret (v := .tuple #[.slice A5 k c5, .bool true]) (by simp [results, Tryz.results12, go_sem] <;> omega) rfl ⟨A5, c5, by rw [HR.out]; simp only [HY0.out], by rw [HR.out]; simp only [HY0.out]; exact own_base ho5 hb02.size, btr hb02 hb5⟩
        · rw [if_neg hcc] at hDr
          go_enter Tryz.func12, Tryz.ntmps12
          go_wp2_with fail
          refine Hx.out.mono ?_
          rintro en w1 ⟨rfl, hb1⟩
          go_wp2_with fail
          refine (Hv.out w1 hb1).mono ?_
          rintro en w2 ⟨rfl, hb2⟩
          have hb02 := btr hb1 hb2
          obtain ⟨b9, off9, e9, c2⟩ := HSP.out w2 hb02
          have k9 : b9 = b ∧ off9 = off := by simpa using e9.symm
          obtain ⟨rfl, rfl⟩ := k9
          clear e9
          go_wp2_with fail
          have ho0 := (own_lit (e := 54) (size := 3) (B := w2.heap.size) (w := w2) #[] 0 (Nat.le_refl _) (by unfold maxLen; omega) rfl).drew
          have hba := (bnew (Below.refl w2.heap.size w2) (.cells #[] 54)).drew
          have hT' := hT.below (btr hb02 hba)
          go_region_held3 (fun _ => True) (trivial) ((first | (refine step_app (by rfl) (.tmp 26) (.tmp 29) 24 (by rfl) el_Mem (v := .slice (some ⟨w2.heap.size, 0, none⟩) 0 0) (by rfl) ho0 (by rfl) hTl hT' hT1 (by unfold maxLen; omega) (by omega) hba.size ?_; intro A1 c1 w3 ho1 hg1 _; have hb3 : Below w2.heap.size w2 w3 := (hba.grown hg1 hba.size (fun q hq => (ho0.lt q hq).1)); simp only [Nat.zero_add, List.nil_append] at ho1; have hD3 := hDr.below (btr hb02 hb3)) | (refine step_app (by rfl) (.tmp 30) (.tmp 34) 24 (by rfl) el_Mem (v := .slice A1 k c1) (by (first | rfl | exact congrArg (fun q => Value.slice A1 q c1) (Nat.zero_add k))) ho1 (by rfl) hDl hD3 hD1 (by unfold maxLen; omega) (by omega) hb3.size ?_; intro A5 c5 w5 ho5 hg5 _; have hb5 : Below w2.heap.size w2 w5 := hb3.grown hg5 hb3.size (fun q hq => (ho1.lt q hq).1); rw [← HYS.out] at ho5)))
          go_wp2
          exact bodyPost_ret (v := .tuple #[.slice A5 (k + (xs.length - j)) c5, .bool true]) (by simp [results, Tryz.results12, go_sem] <;> omega) rfl ⟨A5, c5, by rw [HR.out]; simp only [HYL.out], by rw [HR.out]; simp only [HYL.out]; exact own_base ho5 hb02.size, btr hb02 hb5⟩
  · have HR : Hid (r = ([], false)) := HRE.out.trans (if_neg (by simp [hg]))
    have hg' : goodMem xs = false := by simpa using hg
    clear HRE hx hn hg
    go_enter Tryz.func12, Tryz.ntmps12
    go_wp2_with (first | (go_at_call 37; refine Hx.out.mono ?_; rintro en w1 ⟨rfl, hb1⟩) | (go_at_call 28; refine (Hv.out w1 hb1).mono ?_; rintro en w2 ⟨rfl, hb2⟩))
    exact bodyPost_ret (v := .tuple #[.slice (some ⟨w2.heap.size, 0, none⟩) 0 0, .bool false]) (by simp [results, Tryz.results12, go_sem]) rfl ⟨some ⟨w2.heap.size, 0, none⟩, 0, by rw [HR.out]; rfl, by rw [HR.out]; exact own_lit (e := 54) (size := 3) (w := w2) #[] 0 (btr hb1 hb2).size (by unfold maxLen; omega) rfl, bnew (btr hb1 hb2) _⟩
end Go.Proofs.YtngheildmhimoaaGreatDoor
