/-
  Contracts of ShiftSection. Conditions: lengths within Go's range.
-/
import Derived.Test.YthedlelkilkpaaaDoc4
namespace Go.My
open Go.RowKit
/-- n sections from i on, each b deeper. -/
def shAt (xs : List Sec) (i : Nat) (b : Int) : Nat → List Sec
  | 0 => xs
  | n + 1 => match xs[i + n]? with
    | some s => (shAt xs i b n).set (i + n) ⟨s.d + b, s.t⟩
    | none => shAt xs i b n
theorem shAt_len (xs : List Sec) (i : Nat) (b : Int) (n : Nat) : (shAt xs i b n).length = xs.length := by
  induction n with
  | zero => rfl
  | succ n ih => simp only [shAt]; split <;> simp [ih]
theorem shAt_next {xs : List Sec} {i : Nat} {b : Int} {n : Nat} (h : i + n < xs.length) : shAt xs i b (n + 1) = (shAt xs i b n).set (i + n) ⟨xs[i + n].d + b, xs[i + n].t⟩ := by
  simp only [shAt, List.getElem?_eq_getElem h]
theorem shAt_get {xs : List Sec} {i : Nat} {b : Int} {n j : Nat} (hj : i + n ≤ j) : (shAt xs i b n)[j]? = xs[j]? := by
  induction n with
  | zero => rfl
  | succ n ih =>
    simp only [shAt]
    split
    · rw [List.getElem?_set_ne (by omega)]; exact ih (by omega)
    · exact ih (by omega)
theorem shAt_title {xs : List Sec} {i : Nat} {b : Int} {n : Nat} : ∀ y ∈ shAt xs i b n, ∃ s ∈ xs, y.t = s.t := by
  induction n with
  | zero => exact fun y h => ⟨y, h, rfl⟩
  | succ n ih =>
    simp only [shAt]
    split
    · rename_i s hs
      intro y hy
      rcases List.mem_or_eq_of_mem_set hy with hy | rfl
      · exact ih y hy
      · exact ⟨s, List.mem_of_getElem? hs, rfl⟩
    · exact ih
def shiftL (xs : List Sec) (i b : Int) : List Sec := shAt xs i.toNat b (partLen xs i.toNat + 1)
def shiftR (xs : List Sec) (i b : Int) : List Sec × Bool :=
  if (okAt xs i && inB b (-4) 4) = true then (if goodDoc (shiftL xs i b) = true then (shiftL xs i b, true) else ([], false)) else ([], false)
theorem secCells_set2 (L : List Sec) (k : Nat) (s : Sec) (hk : k < L.length) : ((secCells L).set (k * 2) (.int .i64 s.d)).set (k * 2 + 1) (.string s.t) = secCells (L.set k s) := by
  induction L generalizing k with
  | nil => simp at hk
  | cons x r ih =>
    cases k with
    | zero => rfl
    | succ k =>
      have := ih k (by simpa using hk)
      rw [show (k + 1) * 2 = k * 2 + 2 by omega]
      simp only [secCells, List.flatMap_cons, Sec.cells, List.cons_append, List.nil_append, List.set_cons_succ] at this ⊢
      rw [this]
theorem secCells_get1 (L : List Sec) (k : Nat) (hk : k < L.length) : (secCells L)[k * 2 + 1]? = some (.string L[k].t) := by
  have := flat_get Sec.cells 2 (fun _ => rfl) L k 1 hk (by decide)
  exact this.trans rfl
theorem secCells_setd (L : List Sec) (k : Nat) (d : Int) (hk : k < L.length) : (secCells L).set (k * 2) (.int .i64 d) = secCells (L.set k ⟨d, L[k].t⟩) := by
  rw [← secCells_set2 L k ⟨d, L[k].t⟩ hk]
  have h1 := secCells_get1 L k hk
  have h2 : ((secCells L).set (k * 2) (.int .i64 d))[k * 2 + 1]? = some (.string L[k].t) := by rw [List.getElem?_set_ne (by omega)]; exact h1
  obtain ⟨hl, e⟩ := List.getElem?_eq_some_iff.1 h2
  conv => rhs; rw [← e]
  exact (List.set_getElem_self hl).symm
end Go.My
namespace Go.Proofs.Ythedlelkilkpaaa
open Go.RowKit Go.My
set_option maxHeartbeats 4000000 in
theorem shift_any (A : Option Addr) (c : Nat) (xs : List Sec) (i by_ : Int) (w : World) (hn : xs.length ≤ maxLen) (_ : xs.length ≤ c) (hx : Rd w A (secCells xs)) (hs : ∀ y ∈ xs, y.t.size ≤ maxLen) :
    Calls Try.prog 8 #[.slice A xs.length c, .int .i64 i, .int .i64 by_] w fun en w' => ∃ A' c', en = .returned (.tuple #[.slice A' (shiftR xs i by_).1.length c', .bool (shiftR xs i by_).2]) ∧ w'.ownsRow w.heap.size 35 2 (.slice A' (shiftR xs i by_).1.length c') (shiftR xs i by_).1.length (secCells (shiftR xs i by_).1) ∧ Below w.heap.size w w' := by
  obtain ⟨r, hr⟩ : ∃ r, r = shiftR xs i by_ := ⟨_, rfl⟩
  rw [← hr]
  have Hv := Lib.hid (hasSection_any A c xs i w hn hx hs)
  by_cases hg : okAt xs i = true
  · obtain ⟨k, rfl, hk, h12⟩ := okAt_idx hg
    by_cases hi : inB by_ (-4) 4 = true
    · have hby : -4 ≤ by_ ∧ by_ ≤ 4 := by simpa only [inB, decide_eq_true_eq] using hi
      have HRE : Hid (r = if goodDoc (shiftL xs k by_) = true then (shiftL xs k by_, true) else ([], false)) := hr.trans (if_pos (by rw [hg, hi]; rfl))
      have HGE : Hid (shiftL xs k by_ = shAt xs k by_ (partLen xs k + 1)) := rfl
      have HYL : Hid ((shiftL xs k by_).length = xs.length) := by show _ = _; rw [HGE.out]; exact shAt_len _ _ _ _
      have Hsz : Hid (∀ y ∈ shiftL xs k by_, y.t.size ≤ maxLen) := by
        intro y hy
        rw [HGE.out] at hy
        obtain ⟨s, hs', e⟩ := shAt_title y hy
        rw [e]; exact hs s hs'
      have Hp : Hid (∀ w1 : World, Below w.heap.size w w1 → Calls Try.prog 22 #[.slice A xs.length c, .int .i64 k] w1 fun e w' => e = .returned (.int .i64 (partLen xs k : Nat)) ∧ Below w1.heap.size w1 w') := fun w1 hb => partsOf_any A c xs k w1 (by omega) hk (hx.below hb)
      have hpl := partLen_le hk
      have Hd : Hid (∀ y ∈ xs, 1 ≤ y.d ∧ y.d ≤ 4) := by
        simp only [okAt, goodDoc, Bool.and_eq_true] at hg
        exact docFrom_bound hg.1.1
      clear hr hs hn
      generalize shiftL xs k by_ = ys at *
      generalize partLen xs k = p at *
      have hkn : (k : Int) < (xs.length : Int) := by omega
      go_enter Try.func8, Try.ntmps8
      go_wp2_with fail
      refine Hv.out.mono ?_
      rintro en w1 ⟨rfl, hb1⟩
      have ho0 := own_lit (e := 35) (size := 2) (B := w1.heap.size) (w := w1) #[] 0 (Nat.le_refl _) (by unfold maxLen; omega) rfl
      have hx1 := (hx.below hb1).alloc (.cells #[] 35)
      have hba := bnew (Below.refl w1.heap.size w1) (.cells #[] 35)
      have hl0 := secCells_len xs
      have h10 := secCells_one xs
      go_wp2_with (first | (go_at_call 21; refine (inside_any _ _ _ _).mono ?_; rintro en w9 ⟨rfl, rfl⟩) | (at_builtin; refine wpl_app rfl (.tmp 19) (.tmp 20) 24 rfl el_Sec (v := .slice (some ⟨w1.heap.size, 0, none⟩) 0 0) rfl ho0 rfl hl0 hx1 h10 (by unfold maxLen; omega) (by omega) hba.size ?_; intro A1 c1 w3 ho1 hg1 _; have hb3 : Below w1.heap.size w1 w3 := (hba.grown hg1 hba.size (fun q hq => (ho0.lt q hq).1)); simp only [Nat.zero_add, List.nil_append] at ho1))
      obtain ⟨g, rfl, hgB, hgs⟩ := own_at ho1 (by omega)
      go_loopw [9] (fun q wr => ∃ n : Nat, n ≤ p + 1 ∧ q = .int .i64 ((k : Int) + (n : Int)) ∧ wr.ownsRow w1.heap.size 35 2 (.slice (some ⟨g, 0, none⟩) xs.length c1) xs.length (secCells (shAt xs k by_ n)) ∧ Below w1.heap.size w1 wr) (fun q _ => k + p + 2 - (intOf q).toNat)
      case atStart => exact ⟨0, by omega, by simp, ho1, hb3⟩
      case round =>
        obtain ⟨n, hnp, rfl, ho, hb⟩ := hrel
        clear ho1 hb3 ho0 hx1 hba
        have hb01 := btr hb1 hb
        by_cases hlt : n ≤ p
        · have hltD : decide ((k : Int) + (n : Int) ≤ (k : Int) + (p : Int)) = true := by simp; omega
          have hkl : k + n < xs.length := by omega
          have hkl2 : k + n < (shAt xs k by_ n).length := by rw [shAt_len]; exact hkl
          have Hn := Lib.hid (shAt_next (b := by_) hkl)
          have hdd := Hd.out xs[k + n] (List.getElem_mem _)
          have Hg : Hid ((shAt xs k by_ n)[k + n] = xs[k + n]) := by
            have := shAt_get (xs := xs) (i := k) (b := by_) (n := n) (j := k + n) (Nat.le_refl _)
            rw [List.getElem?_eq_getElem hkl2, List.getElem?_eq_getElem hkl] at this
            exact Option.some.inj this
          have hset := Lib.hid ((secCells_setd (shAt xs k by_ n) (k + n) (xs[k + n].d + by_) hkl2).trans (by rw [Hg.out, ← Hn.out]))
          have hgo2 : Hid (∀ w2 : World, Below wr.heap.size wr w2 → w2.cell? ⟨g, (k + n) * 2, none⟩ = some (.int .i64 xs[k + n].d)) := by
            intro w2 hb2
            have ho2 := own_below ho hb2
            have hl2 : (k + n) * 2 < (secCells (shAt xs k by_ n)).length := by rw [secCells_len, shAt_len]; omega
            rw [own_cell ho2 hl2]
            have := flat_get Sec.cells 2 (fun _ => rfl) (shAt xs k by_ n) (k + n) 0 hkl2 (by decide)
            have h2 : (secCells (shAt xs k by_ n))[(k + n) * 2]? = some (.int .i64 xs[k + n].d) := this.trans (by rw [Hg.out]; rfl)
            rw [List.getElem?_eq_getElem hl2] at h2
            exact h2
          clear Hg Hn hkl2
          generalize xs[k + n].d = dd at *
          go_wp2_with fail
          refine (Hp.out _ hb01).mono ?_
          rintro en w4 ⟨rfl, hb4⟩
          have ho4 := own_below ho hb4
          have f0 := hgo2.out w4 hb4
          have z0 := ho4.frozenAt ((k + n) * 2)
          have hkI : (k : Int) + (n : Int) < (xs.length : Int) := by omega
          have hkt : ((k : Int) + (n : Int)).toNat = k + n := by omega
          go_wp2
          go_roundw
          case rel => exact ⟨n + 1, by omega, by go_num, by have := own_set ho4 ((k + n) * 2) (.int .i64 (dd + by_)); rwa [hset.out] at this, (btr hb hb4).setCell hgB _⟩
          case measure => simp [intOf]; omega
        · have hltD : decide ((k : Int) + (n : Int) ≤ (k : Int) + (p : Int)) = false := by simp; omega
          have hnp1 : n = p + 1 := by omega
          subst hnp1
          have HC : Hid (shAt xs k by_ (p + 1) = ys) := HGE.out.symm
          rw [HC.out] at ho
          clear HC HGE Hd
          have hn13 : ys.length ≤ 12 := by have := HYL.out; omega
          have HL := HYL.out
          rw [← HL] at ho
          have hpe : (k : Int) + ((p + 1 : Nat) : Int) = (k : Int) + (p : Int) + 1 := by omega
          have hR0 : Hid (∀ w5 : World, Below wr.heap.size wr w5 → Rd w5 (some ⟨g, 0, none⟩) (secCells ys)) := fun w5 hb5 => own_rd (own_below ho hb5)
          by_cases hgy : goodDoc ys = true
          · have HR : Hid (r = (ys, true)) := HRE.out.trans (if_pos hgy)
            clear HRE
            go_wp2_with fail
            refine (Hp.out _ hb01).mono ?_
            rintro en w4 ⟨rfl, hb4⟩
            go_wp2_with fail
            rw [← HL]
            refine (asDoc_yes (some ⟨g, 0, none⟩) c1 ys w4 (by unfold maxLen; omega) (hR0.out w4 hb4) Hsz.out hgy).mono ?_
            rintro en w6 ⟨rfl, hb6⟩
            go_wp2
            exact bodyPost_ret (v := .tuple #[.slice (some ⟨g, 0, none⟩) ys.length c1, .bool true]) (by simp [results, Try.results8, go_sem] <;> omega) rfl ⟨some ⟨g, 0, none⟩, c1, by rw [HR.out], by rw [HR.out]; exact own_base (own_below (own_below ho hb4) hb6) hb1.size, btr hb01 (btr hb4 hb6)⟩
          · have HR : Hid (r = ([], false)) := HRE.out.trans (if_neg hgy)
            have hgy1 : goodDoc ys = false := by simpa using hgy
            clear HRE hgy
            go_wp2_with fail
            refine (Hp.out _ hb01).mono ?_
            rintro en w4 ⟨rfl, hb4⟩
            go_wp2_with fail
            rw [← HL]
            refine (asDoc_no (some ⟨g, 0, none⟩) c1 ys w4 (by unfold maxLen; omega) (hR0.out w4 hb4) Hsz.out hgy1).mono ?_
            rintro en w6 ⟨rfl, hb6⟩
            go_wp2
            exact bodyPost_ret (v := .tuple #[.slice none 0 0, .bool false]) (by simp [results, Try.results8, go_sem]) rfl ⟨none, 0, by rw [HR.out]; rfl, by rw [HR.out]; exact own_nil, btr hb01 (btr hb4 hb6)⟩
    · have HR : Hid (r = ([], false)) := hr.trans (if_neg (by simp [hi]))
      have hi' : inB by_ (-4) 4 = false := by simpa using hi
      clear hr hs hx hn hi
      go_enter Try.func8, Try.ntmps8
      go_wp2_with fail
      refine Hv.out.mono ?_
      rintro en w1 ⟨rfl, hb1⟩
      go_wp2_with (go_at_call 21; refine (inside_any _ _ _ _).mono ?_; rintro en w9 ⟨rfl, rfl⟩)
      exact bodyPost_ret (v := .tuple #[.slice none 0 0, .bool false]) (by simp [results, Try.results8, go_sem]) rfl ⟨none, 0, by rw [HR.out]; rfl, by rw [HR.out]; exact own_nil, hb1⟩
  · have HR : Hid (r = ([], false)) := hr.trans (if_neg (by simp [hg]))
    have hg' : okAt xs i = false := by simpa using hg
    clear hr hs hx hn hg
    go_enter Try.func8, Try.ntmps8
    go_wp2_with fail
    refine Hv.out.mono ?_
    rintro en w1 ⟨rfl, hb1⟩
    go_wp2_with (go_at_call 21; refine (inside_any _ _ _ _).mono ?_; rintro en w9 ⟨rfl, rfl⟩)
    exact bodyPost_ret (v := .tuple #[.slice none 0 0, .bool false]) (by simp [results, Try.results8, go_sem]) rfl ⟨none, 0, by rw [HR.out]; rfl, by rw [HR.out]; exact own_nil, hb1⟩
set_option maxHeartbeats 4000000 in
theorem specShift_any (A : Option Addr) (c : Nat) (xs : List Sec) (i by_ : Int) (w : World) (hn : xs.length ≤ maxLen) (_ : xs.length ≤ c) (hx : Rd w A (secCells xs)) (hs : ∀ y ∈ xs, y.t.size ≤ maxLen) :
    Calls Try.prog 6 #[.slice A xs.length c, .int .i64 i, .int .i64 by_] w fun en w' => ∃ A' c', en = .returned (.tuple #[.slice A' (shiftR xs i by_).1.length c', .bool (shiftR xs i by_).2]) ∧ w'.ownsRow w.heap.size 35 2 (.slice A' (shiftR xs i by_).1.length c') (shiftR xs i by_).1.length (secCells (shiftR xs i by_).1) ∧ Below w.heap.size w w' := by
  obtain ⟨r, hr⟩ : ∃ r, r = shiftR xs i by_ := ⟨_, rfl⟩
  rw [← hr]
  have Hv := Lib.hid (l6Asked_any A c xs i w hn hx hs)
  by_cases hg : okAt xs i = true
  · obtain ⟨k, rfl, hk, h12⟩ := okAt_idx hg
    by_cases hi : inB by_ (-4) 4 = true
    · have hby : -4 ≤ by_ ∧ by_ ≤ 4 := by simpa only [inB, decide_eq_true_eq] using hi
      have HRE : Hid (r = if goodDoc (shiftL xs k by_) = true then (shiftL xs k by_, true) else ([], false)) := hr.trans (if_pos (by rw [hg, hi]; rfl))
      have HGE : Hid (shiftL xs k by_ = shAt xs k by_ (partLen xs k + 1)) := rfl
      have HYL : Hid ((shiftL xs k by_).length = xs.length) := by show _ = _; rw [HGE.out]; exact shAt_len _ _ _ _
      have Hsz : Hid (∀ y ∈ shiftL xs k by_, y.t.size ≤ maxLen) := by
        intro y hy
        rw [HGE.out] at hy
        obtain ⟨s, hs', e⟩ := shAt_title y hy
        rw [e]; exact hs s hs'
      have Hp : Hid (∀ w1 : World, Below w.heap.size w w1 → Calls Try.prog 18 #[.slice A xs.length c, .int .i64 k] w1 fun e w' => e = .returned (.int .i64 (partLen xs k : Nat)) ∧ Below w1.heap.size w1 w') := fun w1 hb => l6Part_any A c xs k w1 (by omega) hk (hx.below hb)
      have hpl := partLen_le hk
      have Hd : Hid (∀ y ∈ xs, 1 ≤ y.d ∧ y.d ≤ 4) := by
        simp only [okAt, goodDoc, Bool.and_eq_true] at hg
        exact docFrom_bound hg.1.1
      clear hr hs hn
      generalize shiftL xs k by_ = ys at *
      generalize partLen xs k = p at *
      have hkn : (k : Int) < (xs.length : Int) := by omega
      go_enter Try.func6, Try.ntmps6
      go_wp2_with fail
      refine Hv.out.mono ?_
      rintro en w1 ⟨rfl, hb1⟩
      have ho0 := own_lit (e := 35) (size := 2) (B := w1.heap.size) (w := w1) #[] 0 (Nat.le_refl _) (by unfold maxLen; omega) rfl
      have hx1 := (hx.below hb1).alloc (.cells #[] 35)
      have hba := bnew (Below.refl w1.heap.size w1) (.cells #[] 35)
      have hl0 := secCells_len xs
      have h10 := secCells_one xs
      go_wp2_with (first | (go_at_call 17; refine (l1In_any _ _ _ _).mono ?_; rintro en w9 ⟨rfl, rfl⟩) | (at_builtin; refine wpl_app rfl (.tmp 20) (.tmp 21) 24 rfl el_Sec (v := .slice (some ⟨w1.heap.size, 0, none⟩) 0 0) rfl ho0 rfl hl0 hx1 h10 (by unfold maxLen; omega) (by omega) hba.size ?_; intro A1 c1 w3 ho1 hg1 _; have hb3 : Below w1.heap.size w1 w3 := (hba.grown hg1 hba.size (fun q hq => (ho0.lt q hq).1)); simp only [Nat.zero_add, List.nil_append] at ho1))
      obtain ⟨g, rfl, hgB, hgs⟩ := own_at ho1 (by omega)
      go_loopw [9] (fun q wr => ∃ n : Nat, n ≤ p + 1 ∧ q = .int .i64 ((k : Int) + (n : Int)) ∧ wr.ownsRow w1.heap.size 35 2 (.slice (some ⟨g, 0, none⟩) xs.length c1) xs.length (secCells (shAt xs k by_ n)) ∧ Below w1.heap.size w1 wr) (fun q _ => k + p + 2 - (intOf q).toNat)
      case atStart => exact ⟨0, by omega, by simp, ho1, hb3⟩
      case round =>
        obtain ⟨n, hnp, rfl, ho, hb⟩ := hrel
        clear ho1 hb3 ho0 hx1 hba
        have hb01 := btr hb1 hb
        by_cases hlt : n ≤ p
        · have hltD : decide ((k : Int) + (n : Int) ≤ (k : Int) + (p : Int)) = true := by simp; omega
          have hkl : k + n < xs.length := by omega
          have hkl2 : k + n < (shAt xs k by_ n).length := by rw [shAt_len]; exact hkl
          have Hn := Lib.hid (shAt_next (b := by_) hkl)
          have hdd := Hd.out xs[k + n] (List.getElem_mem _)
          have Hg : Hid ((shAt xs k by_ n)[k + n] = xs[k + n]) := by
            have := shAt_get (xs := xs) (i := k) (b := by_) (n := n) (j := k + n) (Nat.le_refl _)
            rw [List.getElem?_eq_getElem hkl2, List.getElem?_eq_getElem hkl] at this
            exact Option.some.inj this
          have hset := Lib.hid ((secCells_set2 (shAt xs k by_ n) (k + n) ⟨xs[k + n].d + by_, xs[k + n].t⟩ hkl2).trans (by rw [← Hn.out]))
          have hlc : (k + n) * 2 + 1 < xs.length * 2 := by omega
          obtain ⟨b, off, rfl, -, -⟩ := Rd.sec hx hkl
          have Hc : Hid (∀ w2 : World, Below w.heap.size w w2 → w2.cell? ⟨b, off + (k + n) * 2, none⟩ = some (.int .i64 xs[k + n].d) ∧ w2.cell? ⟨b, off + (k + n) * 2 + 1, none⟩ = some (.string xs[k + n].t)) := by
            intro w2 hb2
            obtain ⟨b', off', e, c0, c1⟩ := Rd.sec (hx.below hb2) hkl
            have k9 : b' = b ∧ off' = off := by simpa using e.symm
            obtain ⟨rfl, rfl⟩ := k9
            exact ⟨c0, c1⟩
          clear Hg Hn hkl2
          generalize xs[k + n] = ss at *
          go_wp2_with fail
          refine (Hp.out _ hb01).mono ?_
          rintro en w4 ⟨rfl, hb4⟩
          have ho4 := own_below ho hb4
          have hb14 := btr hb hb4
          obtain ⟨c0, d0⟩ := Hc.out w4 (btr hb01 hb4)
          obtain ⟨u0, f0⟩ := own_some ho4 ((k + n) * 2) (by omega)
          obtain ⟨u1, f1⟩ := own_some ho4 ((k + n) * 2 + 1) (by omega)
          have z0 := ho4.frozenAt ((k + n) * 2)
          have z1 := ho4.frozenAt ((k + n) * 2 + 1)
          have hkI : (k : Int) + (n : Int) < (xs.length : Int) := by omega
          have hk0 : (0 : Int) ≤ (k : Int) + (n : Int) := by omega
          have hkt : ((k : Int) + (n : Int)).toNat = k + n := by omega
          have hddw : IntKind.i64.wrap (ss.d + by_) = ss.d + by_ := by rw [IntKind.wrap_i64]; omega
          go_wp2_with fail
          refine wp_region_tail 16 (by kernel_rfl) (by kernel_rfl) ?_
          simp only [List.take_succ_cons, List.take_zero, List.drop_succ_cons, List.drop_zero]
          repeat (go_big_quiet_step (fail))
          refine wpQuiet_nil ?_
          go_wp2
          go_roundw
          case rel => exact ⟨n + 1, by omega, by go_num, by have := (own_set (own_set ho4 ((k + n) * 2) (.int .i64 (ss.d + by_))) ((k + n) * 2 + 1) (.string ss.t)).drew; rwa [hset.out] at this, Below.drew (Below.setCell (p := ⟨g, (k + n) * 2 + 1, none⟩) (Below.setCell (p := ⟨g, (k + n) * 2, none⟩) hb14 hgB _) hgB _)⟩
          case measure => simp [intOf]; omega
        · have hltD : decide ((k : Int) + (n : Int) ≤ (k : Int) + (p : Int)) = false := by simp; omega
          have hnp1 : n = p + 1 := by omega
          subst hnp1
          have HC : Hid (shAt xs k by_ (p + 1) = ys) := HGE.out.symm
          rw [HC.out] at ho
          clear HC HGE Hd
          have hn13 : ys.length ≤ 12 := by have := HYL.out; omega
          have HL := HYL.out
          rw [← HL] at ho
          have hpe : (k : Int) + ((p + 1 : Nat) : Int) = (k : Int) + (p : Int) + 1 := by omega
          have hR0 : Hid (∀ w5 : World, Below wr.heap.size wr w5 → Rd w5 (some ⟨g, 0, none⟩) (secCells ys)) := fun w5 hb5 => own_rd (own_below ho hb5)
          by_cases hgy : goodDoc ys = true
          · have HR : Hid (r = (ys, true)) := HRE.out.trans (if_pos hgy)
            clear HRE
            go_wp2_with fail
            refine (Hp.out _ hb01).mono ?_
            rintro en w4 ⟨rfl, hb4⟩
            go_wp2_with fail
            rw [← HL]
            refine (l6Chk_yes (some ⟨g, 0, none⟩) c1 ys w4 (by unfold maxLen; omega) (hR0.out w4 hb4) Hsz.out hgy).mono ?_
            rintro en w6 ⟨rfl, hb6⟩
            go_wp2
            exact bodyPost_ret (v := .tuple #[.slice (some ⟨g, 0, none⟩) ys.length c1, .bool true]) (by simp [results, Try.results6, go_sem] <;> omega) rfl ⟨some ⟨g, 0, none⟩, c1, by rw [HR.out], by rw [HR.out]; exact own_base (own_below (own_below ho hb4) hb6) hb1.size, btr hb01 (btr hb4 hb6)⟩
          · have HR : Hid (r = ([], false)) := HRE.out.trans (if_neg hgy)
            have hgy1 : goodDoc ys = false := by simpa using hgy
            clear HRE hgy
            go_wp2_with fail
            refine (Hp.out _ hb01).mono ?_
            rintro en w4 ⟨rfl, hb4⟩
            go_wp2_with fail
            rw [← HL]
            refine (l6Chk_no (some ⟨g, 0, none⟩) c1 ys w4 (by unfold maxLen; omega) (hR0.out w4 hb4) Hsz.out hgy1).mono ?_
            rintro en w6 ⟨a6, rfl, ho6, hb6⟩
            have hb04 := btr hb01 hb4
            go_wp2
            exact bodyPost_ret (v := .tuple #[.slice a6 0 0, .bool false]) (by simp [results, Try.results6, go_sem]) rfl ⟨a6, 0, by rw [HR.out]; rfl, by rw [HR.out]; exact own_base ho6 hb04.size, btr hb04 hb6⟩
    · have HR : Hid (r = ([], false)) := hr.trans (if_neg (by simp [hi]))
      have hi' : inB by_ (-4) 4 = false := by simpa using hi
      clear hr hs hx hn hi
      go_enter Try.func6, Try.ntmps6
      go_wp2_with fail
      refine Hv.out.mono ?_
      rintro en w1 ⟨rfl, hb1⟩
      go_wp2_with (go_at_call 17; refine (l1In_any _ _ _ _).mono ?_; rintro en w9 ⟨rfl, rfl⟩)
      exact bodyPost_ret (v := .tuple #[.slice (some ⟨w1.heap.size, 0, none⟩) 0 0, .bool false]) (by simp [results, Try.results6, go_sem]) rfl ⟨some ⟨w1.heap.size, 0, none⟩, 0, by rw [HR.out]; rfl, by rw [HR.out]; exact own_lit (e := 35) (size := 2) (w := w1) #[] 0 hb1.size (by unfold maxLen; omega) rfl, bnew hb1 _⟩
  · have HR : Hid (r = ([], false)) := hr.trans (if_neg (by simp [hg]))
    have hg' : okAt xs i = false := by simpa using hg
    clear hr hs hx hn hg
    go_enter Try.func6, Try.ntmps6
    go_wp2_with fail
    refine Hv.out.mono ?_
    rintro en w1 ⟨rfl, hb1⟩
    go_wp2_with (go_at_call 17; refine (l1In_any _ _ _ _).mono ?_; rintro en w9 ⟨rfl, rfl⟩)
    exact bodyPost_ret (v := .tuple #[.slice (some ⟨w1.heap.size, 0, none⟩) 0 0, .bool false]) (by simp [results, Try.results6, go_sem]) rfl ⟨some ⟨w1.heap.size, 0, none⟩, 0, by rw [HR.out]; rfl, by rw [HR.out]; exact own_lit (e := 35) (size := 2) (w := w1) #[] 0 hb1.size (by unfold maxLen; omega) rfl, bnew hb1 _⟩
end Go.Proofs.Ythedlelkilkpaaa
