/-
  Contracts of OrderKinds. Conditions: lengths within Go's range.
-/
import Derived.Test.YtdbcbaahjhaonaaRanks
import Derived.OneCell
namespace Go.My
open Go.RowKit
def clashB (o : List Int) (k : Int) (x : Pr) : Bool := x.b == k && !hasK o x.a
theorem readyB_eq (xs : List Pr) (o : List Int) (k : Int) : readyB xs o k = (!hasK o k && !(xs.any (clashB o k))) := rfl
def orderR (p : Prec) : List Int × Bool := if okB p = true then (orderL p.over p.kinds.toNat p.kinds.toNat, true) else ([], false)
theorem Blk.one {w : World} {g : Nat} {e : TypeId} {v : Value} (h : Blk w g e [v]) (u : Value) : Blk (w.setCell ⟨g, 0, none⟩ u) g e [u] := one_setCell h
theorem Blk.other {w : World} {g g' : Nat} {e : TypeId} {L : List Value} (h : Blk w g e L) (hne : g ≠ g') (j : Nat) (u : Value) : Blk (w.setCell ⟨g', j, none⟩ u) g e L :=
  h.grown (grown_set (World.grownBy.refl w (some g')) j u) (fun e => hne (by simpa using e))
end Go.My
namespace Go.Proofs.Ytdbcbaahjhaonaa
open Go.RowKit Go.My
set_option maxHeartbeats 400000 in
theorem indexInt_any (A : Option Addr) (c : Nat) (xs : List Int) (i : Int) (w : World) (hn : xs.length ≤ maxLen) (hx : Rd w A (intCells xs)) :
    Calls Try.prog 89 #[.slice A xs.length c, .int .i64 i] w fun e w' => e = .returned (.int .i64 (idxOf (fun y : Int => y == i) xs)) ∧ Below w.heap.size w w' := by
  unfold maxLen at hn
  go_enter Try.func89, Try.ntmps89
  go_wp2
  go_loopw [8] (fun q wr => ∃ k : Nat, k ≤ xs.length ∧ q = .int .i64 k ∧ Hid (idxOf (fun y : Int => y == i) xs = idxFrom (fun y : Int => y == i) k (xs.drop k)) ∧ Below w.heap.size w wr) (fun q _ => xs.length - (intOf q).toNat)
  case atStart => exact ⟨0, by omega, rfl, rfl, Below.refl _ _⟩
  case round =>
    obtain ⟨k, hk, rfl, H, hb⟩ := hrel
    by_cases hlt : k < xs.length
    · obtain ⟨b, off, rfl, c0⟩ := Rd.ints (hx.below hb) hlt
      have Hn := Lib.hid (H.out.trans (idxFrom_at hlt))
      clear H
      have gx := cell_after c0
      have hkI : (k : Int) < (xs.length : Int) := by omega
      generalize xs[k] = s at *
      by_cases hq : (s == i) = true
      · have Hf := Lib.hid (Hn.out.trans (if_pos hq))
        have h9 : s = i := by simpa using hq
        have hq2 : (i == s) = true := by simp [h9]
        clear h9
        clear Hn
        go_wp2
        go_ret
        exact ⟨by rw [Hf.out]; rfl, hb⟩
      · have Hf := Lib.hid (Hn.out.trans (if_neg hq))
        have hq' : (s == i) = false := by simpa using hq
        have h9 : ¬ s = i := by simpa using hq
        have hq2 : (i == s) = false := by simp; omega
        clear h9
        clear Hn hq
        go_wp2
        go_roundw
        case rel => exact ⟨k + 1, by omega, by go_num, Hf, hb⟩
        case measure => simp [intOf]; omega
    · have Hf := Lib.hid (H.out.trans (by rw [List.drop_eq_nil_of_le (by omega)]))
      clear H
      go_wp2
      go_ret
      exact ⟨by rw [Hf.out]; rfl, hb⟩
set_option maxHeartbeats 400000 in
theorem containsInt_any (A : Option Addr) (c : Nat) (xs : List Int) (i : Int) (w : World) (hn : xs.length ≤ maxLen) (hx : Rd w A (intCells xs)) :
    Calls Try.prog 71 #[.slice A xs.length c, .int .i64 i] w fun e w' => e = .returned (.bool (xs.any fun y => y == i)) ∧ Below w.heap.size w w' := by
  have hc := Lib.hid (indexInt_any A c xs i w hn hx)
  have HE := Lib.hid (idxOf_any (fun y : Int => y == i) xs)
  clear hn hx
  generalize idxOf (fun y : Int => y == i) xs = v at *
  generalize (xs.any fun y : Int => y == i) = u at *
  go_enter Try.func71, Try.ntmps71
  go_wp2_with fail
  refine hc.out.mono ?_
  rintro e w1 ⟨rfl, hb1⟩
  go_wp2
  go_ret
  exact ⟨by rw [← HE.out]; rfl, hb1⟩
/-- A closure that captures one cell answers the property, in every later world. -/
def TellsPrR (w : World) (q q2 : Addr) (p : Pr → Bool) (xs : List Pr) : Prop := ∀ w1 : World, Below w.heap.size w w1 → ∀ s ∈ xs, Calls Try.prog 76 #[.agg #[.int .i64 s.a, .int .i64 s.b], .pointer (some q), .pointer (some q2)] w1 fun e w' => e = .returned (.bool (p s)) ∧ Below w1.heap.size w1 w'
set_option maxHeartbeats 400000 in
theorem indexPrR_any (q q2 : Addr) (p : Pr → Bool) (A : Option Addr) (c : Nat) (xs : List Pr) (w : World) (hn : xs.length ≤ maxLen) (hx : Rd w A (prCells xs)) (hp : Hid (TellsPrR w q q2 p xs)) :
    Calls Try.prog 90 #[.slice A xs.length c, .func (.func 76) #[] #[.pointer (some q), .pointer (some q2)]] w fun e w' => e = .returned (.int .i64 (idxOf p xs)) ∧ Below w.heap.size w w' := by
  unfold maxLen at hn
  go_enter Try.func90, Try.ntmps90
  go_wp2
  go_loopw [8] (fun i wr => ∃ k : Nat, k ≤ xs.length ∧ i = .int .i64 k ∧ Hid (idxOf p xs = idxFrom p k (xs.drop k)) ∧ Below w.heap.size w wr) (fun i _ => xs.length - (intOf i).toNat)
  case atStart => exact ⟨0, by omega, rfl, rfl, Below.refl _ _⟩
  case round =>
    obtain ⟨k, hk, rfl, H, hb⟩ := hrel
    by_cases hlt : k < xs.length
    · obtain ⟨b, off, rfl, c0, c1⟩ := Rd.pr (hx.below hb) hlt
      have hcall := hp.out _ hb xs[k] (List.getElem_mem _)
      have Hn := Lib.hid (H.out.trans (idxFrom_at hlt))
      clear H
      generalize xs[k] = s at *
      have Hc := Lib.hid hcall
      clear hcall
      by_cases hps : p s = true
      · have Hf := Lib.hid (Hn.out.trans (if_pos hps))
        clear Hn
        rw [hps] at Hc
        go_wp2_with (go_at_call 76; refine Hc.out.mono ?_; rintro e w1 ⟨rfl, hb1⟩)
        go_ret
        exact ⟨by rw [Hf.out]; rfl, btr hb hb1⟩
      · have Hf := Lib.hid (Hn.out.trans (if_neg hps))
        clear Hn
        have hps' : p s = false := by simpa using hps
        rw [hps'] at Hc
        go_wp2_with (go_at_call 76; refine Hc.out.mono ?_; rintro e w1 ⟨rfl, hb1⟩)
        go_roundw
        case rel => exact ⟨k + 1, by omega, by go_num, Hf, btr hb hb1⟩
        case measure => simp [intOf]; omega
    · have Hf := Lib.hid (H.out.trans (by rw [List.drop_eq_nil_of_le (by omega)]))
      clear H
      go_wp2
      go_ret
      exact ⟨by rw [Hf.out]; rfl, hb⟩
set_option maxHeartbeats 400000 in
theorem containsPrR_any (q q2 : Addr) (p : Pr → Bool) (A : Option Addr) (c : Nat) (xs : List Pr) (w : World) (hn : xs.length ≤ maxLen) (hx : Rd w A (prCells xs)) (hp : Hid (TellsPrR w q q2 p xs)) :
    Calls Try.prog 75 #[.slice A xs.length c, .func (.func 76) #[] #[.pointer (some q), .pointer (some q2)]] w fun e w' => e = .returned (.bool (xs.any p)) ∧ Below w.heap.size w w' := by
  have hc := Lib.hid (indexPrR_any q q2 p A c xs w hn hx hp)
  have HE := Lib.hid (idxOf_any p xs)
  clear hn hx hp
  generalize idxOf p xs = v at *
  generalize xs.any p = u at *
  go_enter Try.func75, Try.ntmps75
  go_wp2_with fail
  refine hc.out.mono ?_
  rintro e w1 ⟨rfl, hb1⟩
  go_wp2
  go_ret
  exact ⟨by rw [← HE.out]; rfl, hb1⟩
set_option maxHeartbeats 2000000 in
theorem closR_any (x : Pr) (q q2 : Nat) (k : Int) (A' : Option Addr) (c' : Nat) (L : List Int) (w : World) (hL : L.length ≤ 64) (hq : w.cell? ⟨q, 0, none⟩ = some (.int .i64 k)) (hq2 : w.cell? ⟨q2, 0, none⟩ = some (.slice A' L.length c')) (hr : Rd w A' (intCells L)) :
    Calls Try.prog 76 #[.agg #[.int .i64 x.a, .int .i64 x.b], .pointer (some ⟨q, 0, none⟩), .pointer (some ⟨q2, 0, none⟩)] w fun e w' => e = .returned (.bool (clashB L k x)) ∧ Below w.heap.size w w' := by
  have hb0 := bnew (Below.refl w.heap.size w) (.cells #[.int .i64 x.a, .int .i64 x.b] 52)
  have hqa := cell_below' hq hb0
  have hqb := cell_below' hq2 hb0
  have HC := Lib.hid (containsInt_any A' c' L x.a (w.alloc (.cells #[.int .i64 x.a, .int .i64 x.b] 52)) (by unfold maxLen; omega) (hr.below hb0))
  have HE : Hid (clashB L k x = (x.b == k && !(L.any fun y => y == x.a))) := rfl
  generalize clashB L k x = v at *
  generalize (L.any fun y => y == x.a) = u at *
  by_cases h1 : x.b = k
  · have h1' : (x.b == k) = true := by simp [h1]
    rw [h1', Bool.true_and] at HE
    clear h1 hr
    go_enter Try.func76, Try.ntmps76
    go_wp2_with (go_at_call 71; refine HC.out.mono ?_; rintro e w1 ⟨rfl, hb1⟩)
    go_ret
    exact ⟨by rw [HE.out]; rfl, btr hb0 hb1⟩
  · have h1' : (x.b == k) = false := by simp [h1]
    rw [h1', Bool.false_and] at HE
    clear h1 hr
    go_enter Try.func76, Try.ntmps76
    go_wp2
    go_ret
    exact ⟨by rw [HE.out]; rfl, hb0⟩
set_option maxHeartbeats 8000000 in
set_option maxRecDepth 100000 in
theorem orderK_any (A : Option Addr) (c : Nat) (p : Prec) (w : World) (hn : p.over.length ≤ maxLen) (_ : p.over.length ≤ c) (hx : Rd w A (prCells p.over)) :
    Calls Try.prog 39 #[.agg #[.int .i64 p.kinds, .slice A p.over.length c]] w fun en w' => ∃ A' c', en = .returned (.tuple #[.slice A' (orderR p).1.length c', .bool (orderR p).2]) ∧ w'.ownsRow w.heap.size 3 1 (.slice A' (orderR p).1.length c') (orderR p).1.length (intCells (orderR p).1) ∧ Below w.heap.size w w' := by
  obtain ⟨r, hr⟩ : ∃ r, r = orderR p := ⟨_, rfl⟩
  rw [← hr]
  have hb0 : Below w.heap.size w (w.alloc (.cells #[.int .i64 p.kinds, .slice A p.over.length c] 27)) := bnew (Below.refl _ _) _
  have m0 : (w.alloc (.cells #[.int .i64 p.kinds, .slice A p.over.length c] 27)).cell? ⟨w.heap.size, 0, none⟩ = some (.int .i64 p.kinds) := (World.cell?_alloc_at _ _ _ _ rfl).trans rfl
  have m1 : (w.alloc (.cells #[.int .i64 p.kinds, .slice A p.over.length c] 27)).cell? ⟨w.heap.size, 1, none⟩ = some (.slice A p.over.length c) := (World.cell?_alloc_at _ _ _ _ rfl).trans rfl
  have Hv : Hid (∀ w1, Below w.heap.size w w1 → Calls Try.prog 17 #[.agg #[.int .i64 p.kinds, .slice A p.over.length c]] w1 fun e w' => e = .returned (.bool (goodPc p)) ∧ Below w1.heap.size w1 w') := fun w1 hb => isPrec_any A c p w1 hn (hx.below hb)
  have Hs : Hid (goodPc p = true → ∀ w1, Below w.heap.size w w1 → Calls Try.prog 58 #[.agg #[.int .i64 p.kinds, .slice A p.over.length c]] w1 fun e w' => e = .returned (.bool (soundB p.over p.kinds.toNat)) ∧ Below w1.heap.size w1 w') := fun hg w1 hb => by
    obtain ⟨hk1, hk8, h16, hin, _⟩ := goodPc_in hg
    have := isSound_any A c p.kinds.toNat p.over w1 ⟨by omega, by omega⟩ h16 (hx.below hb) hin
    rwa [show ((p.kinds.toNat : Nat) : Int) = p.kinds by omega] at this
  unfold orderR at hr
  have HRE := Lib.hid hr
  clear hr hn
  by_cases hm : okB p = true
  · have HR := Lib.hid (HRE.out.trans (if_pos hm))
    have Hs2 := Lib.hid (Hs.out (by simp only [okB, Bool.and_eq_true] at hm; exact hm.1))
    obtain ⟨ks, xs⟩ := p
    simp only at hx Hv Hs2 m0 m1 HR ⊢
    simp only [okB, Bool.and_eq_true] at hm
    obtain ⟨hg, hso⟩ := hm
    obtain ⟨hk1, hk8, h16, hin, _⟩ := goodPc_in hg
    simp only at hk1 hk8 h16 hin hso
    obtain ⟨K, rfl⟩ : ∃ K : Nat, ks = (K : Int) := ⟨ks.toNat, by omega⟩
    simp only [Int.toNat_natCast] at hin hso
    have hKK : 1 ≤ K ∧ K ≤ 8 := ⟨by omega, by omega⟩
    have hac := soundB_acyc hin hso
    simp only [Int.toNat_natCast] at HR Hs2
    rw [hg] at Hv
    rw [hso] at Hs2
    have HX : Hid (∀ n : Nat, n < K → ∃ k, 0 ≤ k ∧ k < (K : Int) ∧ readyB xs (orderL xs K n) k = true) := fun n hn => order_ready hin hac hn
    have hx0 := hx.below hb0
    clear HRE hx hin hac hg hso Hs
    go_enter Try.func39, Try.ntmps39
    go_wp2_with (first | (go_at_call 17; refine (Hv.out _ hb0).mono ?_; rintro en w1 ⟨rfl, hb1⟩; have m0a := cell_below' m0 hb1; have m1a := cell_below' m1 hb1) | (go_at_call 58; refine (Hs2.out _ (btr hb0 hb1)).mono ?_; rintro en w2 ⟨rfl, hb2⟩; have hb02 := btr hb1 hb2))
    have hWS : (w.alloc (.cells #[.int .i64 (K : Int), .slice A xs.length c] 27)).heap.size = w.heap.size + 1 := by simp
    generalize w.alloc (.cells #[.int .i64 (K : Int), .slice A xs.length c] 27) = W0 at *
    have B0 : Blk ((w2.alloc (.cells #[] 3)).alloc (.cells #[.slice (some ⟨w2.heap.size, 0, none⟩) 0 0] 33)) (w2.heap.size + 1) 33 [.slice (some ⟨w2.heap.size, 0, none⟩) 0 0] := Blk.made #[.slice (some ⟨w2.heap.size, 0, none⟩) 0 0] (by simp)
    have ho0 := own_below (own_lit (e := 3) (size := 1) (B := W0.heap.size) (w := w2) #[] 0 hb02.size (by unfold maxLen; omega) rfl) (bnew (Below.refl _ _) (.cells #[.slice (some ⟨w2.heap.size, 0, none⟩) 0 0] 33))
    have hbE := bnew (bnew hb02 (.cells #[] 3)) (.cells #[.slice (some ⟨w2.heap.size, 0, none⟩) 0 0] 33)
    have hn0 : some (w2.heap.size + 1) ≠ (Value.slice (some ⟨w2.heap.size, 0, none⟩) 0 0).ownBlock := by simp [Value.ownBlock]
    have hg2 : W0.heap.size ≤ w2.heap.size + 1 := by have := hb02.size; omega
    generalize (w2.alloc (.cells #[] 3)).alloc (.cells #[.slice (some ⟨w2.heap.size, 0, none⟩) 0 0] 33) = W3 at *
    generalize w2.heap.size + 1 = bo at *
    clear hb1 hb2 hb02 Hv Hs2 m0a m1a
    go_loopg [22] (K + 1) (fun gk _ wr => ∃ (A' : Option Addr) (c' : Nat) (L : List Int), Hid (orderL xs K L.length = L) ∧ L.length ≤ K ∧ K + 1 - L.length ≤ gk ∧ Blk wr bo 33 [.slice A' L.length c'] ∧ wr.ownsRow W0.heap.size 3 1 (.slice A' L.length c') L.length (intCells L) ∧ some bo ≠ (Value.slice A' L.length c').ownBlock ∧ Below W0.heap.size W0 wr)
    case atStart => exact ⟨some ⟨w2.heap.size, 0, none⟩, 0, [], rfl, by simp, by simp, B0, ho0, hn0, hbE⟩
    case round =>
      obtain ⟨A', c', L, HL, hLK, hgk, BB, ho, hnb, hb⟩ := hrel
      clear B0 ho0 hn0 hbE
      have m0r := cell_below' m0 hb
      have kB := BB.cell (j := 0) rfl
      by_cases hlt : L.length < K
      · have hltI : (L.length : Int) < (K : Int) := by omega
        have HXL := Lib.hid (HX.out L.length hlt)
        rw [HL.out] at HXL
        have HSu : Hid (∀ i : Nat, i < K → readyB xs L i = true → (∀ j : Nat, j < i → readyB xs L j = false) → orderL xs K (L ++ [(i : Int)]).length = L ++ [(i : Int)]) := fun i hi h1 h2 => by
          rw [List.length_append]
          show orderL xs K L.length ++ [firstK (readyB xs (orderL xs K L.length)) K] = _
          rw [HL.out, firstK_is hi h1 h2]
        go_wp2_with fail
        obtain ⟨wo, hwo⟩ : ∃ q, q = wr := ⟨_, rfl⟩
        subst hwo
        clear m0r kB
        go_loopw [22] (fun i wr => ∃ k : Nat, k ≤ K ∧ i = .int .i64 k ∧ Hid (∀ j : Nat, j < k → readyB xs L j = false) ∧ Blk wr bo 33 [.slice A' L.length c'] ∧ wr.ownsRow W0.heap.size 3 1 (.slice A' L.length c') L.length (intCells L) ∧ Below W0.heap.size W0 wr) (fun i _ => K - (intOf i).toNat)
        case atStart => exact ⟨0, by omega, rfl, by show ∀ j : Nat, j < 0 → _; intro j hj; omega, BB, ho, hb⟩
        case round =>
          clear BB ho hb
          obtain ⟨i, hi, rfl, HI, BB, ho, hb⟩ := hrel
          have m0r := cell_below' m0 hb
          have m1r := cell_below' m1 hb
          by_cases hik : i < K
          · have hiI : (i : Int) < (K : Int) := by omega
            have hbw := bnew (Below.refl wr.heap.size wr) (.cells #[.int .i64 i] 3)
            have n0 : (wr.alloc (.cells #[.int .i64 i] 3)).cell? ⟨wr.heap.size, 0, none⟩ = some (.int .i64 i) := (World.cell?_alloc_at _ _ _ _ rfl).trans rfl
            have m1n := cell_below' m1r hbw
            have BN := BB.below hbw
            have kN := BN.cell (j := 0) rfl
            have hoN := own_below ho hbw
            have hbN := btr hb hbw
            have hxN := hx0.below hbN
            have HC1 : Hid (∀ w1, Rd w1 A' (intCells L) → Calls Try.prog 71 #[.slice A' L.length c', .int .i64 i] w1 fun e w' => e = .returned (.bool (hasK L i)) ∧ Below w1.heap.size w1 w') := fun w1 hr => containsInt_any A' c' L i w1 (by unfold maxLen; omega) hr
            have HC2 : Hid (∀ w1, Below (wr.alloc (.cells #[.int .i64 i] 3)).heap.size (wr.alloc (.cells #[.int .i64 i] 3)) w1 → Calls Try.prog 75 #[.slice A xs.length c, .func (.func 76) #[] #[.pointer (some ⟨wr.heap.size, 0, none⟩), .pointer (some ⟨bo, 0, none⟩)]] w1 fun e w' => e = .returned (.bool (xs.any (clashB L i))) ∧ Below w1.heap.size w1 w') := fun w1 hb1 =>
              containsPrR_any ⟨wr.heap.size, 0, none⟩ ⟨bo, 0, none⟩ (clashB L i) A c xs w1 (by unfold maxLen; omega) (hxN.below hb1) (fun w2 hb2 x _ => closR_any x wr.heap.size bo i A' c' L w2 (by omega) (cell_below' n0 (btr hb1 hb2)) (cell_below' kN (btr hb1 hb2)) ((own_rd hoN).below (btr hb1 hb2)))
            have HRE : Hid (readyB xs L i = (!hasK L i && !(xs.any (clashB L i)))) := rfl
            have HI2 : Hid (readyB xs L i = false → ∀ j : Nat, j < i + 1 → readyB xs L j = false) := fun h j hj => by
              by_cases e : j = i
              · subst e; exact h
              · exact HI.out j (by omega)
            have HS2 : Hid (readyB xs L i = true → orderL xs K (L ++ [(i : Int)]).length = L ++ [(i : Int)]) := fun h => HSu.out i hik h HI.out
            have hrL := own_rd hoN
            have HLW := Lib.hid (show L.length ≤ 8 by omega)
            generalize readyB xs L i = rb at *
            by_cases h1 : hasK L i = true
            · have HI3 := Lib.hid (HI2.out (by rw [HRE.out, h1]; rfl))
              rw [h1] at HC1
              clear HRE HI2 HS2 HI HC2 h1 HSu
              go_wp2_with (go_at_call 71; refine (HC1.out _ hrL).mono ?_; rintro e w5 ⟨rfl, hb5⟩)
              go_roundw
              case rel => exact ⟨i + 1, by omega, by go_num, HI3, BN.below hb5, own_below hoN hb5, btr hbN hb5⟩
              case measure => simp [intOf]; omega
            · have h1' : hasK L i = false := by simpa using h1
              rw [h1'] at HC1 HRE
              by_cases h2 : xs.any (clashB L i) = true
              · have HI3 := Lib.hid (HI2.out (by rw [HRE.out, h2]; rfl))
                rw [h2] at HC2
                clear HRE HI2 HS2 HI h1 h1' h2 HSu
                go_wp2_with (first | (go_at_call 71; refine (HC1.out _ hrL).mono ?_; rintro e w5 ⟨rfl, hb5⟩; have m1z := cell_below' m1n hb5) | (go_at_call 75; refine (HC2.out _ hb5).mono ?_; rintro e w6 ⟨rfl, hb6⟩))
                go_roundw
                case rel => exact ⟨i + 1, by omega, by go_num, HI3, BN.below (btr hb5 hb6), own_below hoN (btr hb5 hb6), btr hbN (btr hb5 hb6)⟩
                case measure => simp [intOf]; omega
              · have h2' : xs.any (clashB L i) = false := by simpa using h2
                have HS3 := Lib.hid (HS2.out (by rw [HRE.out, h2']; rfl))
                rw [h2'] at HC2
                clear HRE HI2 HS2 HI h1 h1' h2 h2' HSu
                go_wp2_with (first | (go_at_call 71; refine (HC1.out _ hrL).mono ?_; rintro e w5 ⟨rfl, hb5⟩; have m1z := cell_below' m1n hb5) | (go_at_call 75; refine (HC2.out _ hb5).mono ?_; rintro e w6 ⟨rfl, hb6⟩; have hb56 := btr hb5 hb6; have k6 := cell_below' kN hb56; have n6 := cell_below' n0 hb56; have hb7 := bnew (btr hbN hb56) (.cells #[.int .i64 i] 3); have ho7 := own_below hoN (btr hb56 (bnew (Below.refl w6.heap.size w6) (.cells #[.int .i64 i] 3))); have B7 := BN.below (btr hb56 (bnew (Below.refl w6.heap.size w6) (.cells #[.int .i64 i] 3))); have hrd : Rd (w6.alloc (.cells #[.int .i64 i] 3)) (some ⟨w6.heap.size, 0, none⟩) [.int .i64 i] := Rd.made) | (at_builtin; go_must (refine wpl_app rfl (.tmp 36) (.tmp 38) 33 rfl el_Int (v := .slice A' L.length c') rfl ho7 rfl rfl hrd (by simp [Value.oneCell']) (by unfold maxLen; omega) (by omega) hb7.size ?_); intro A1 c1 w8 ho8 hg8 hor; have hb8 : Below W0.heap.size W0 w8 := hb7.grown hg8 hb7.size (fun k hk => (ho7.lt k hk).1); have B8 := B7.grown hg8 hnb; have k8 := B8.cell (j := 0) rfl; have z8 := B8.frozen 0; have HOR := Lib.hid hor; clear hor hg8))
                have hn1 : some bo ≠ (Value.slice A1 (L.length + 1) c1).ownBlock := by
                  rcases HOR.out with h | h
                  · rw [h]; exact hnb
                  · rw [h]; intro e; have := B7.lt; simp at e this; omega
                have B9 := B8.one (.slice A1 (L.length + 1) c1)
                have ho9 := ho8.kept (grown_set (World.grownBy.refl w8 (some bo)) 0 (.slice A1 (L.length + 1) c1)) (.inr (fun e => hn1 e.symm))
                have hb9 : Below W0.heap.size W0 (w8.setCell ⟨bo, 0, none⟩ (.slice A1 (L.length + 1) c1)) := hb8.setCell hg2 _
                have hl1 : (L ++ [(i : Int)]).length = L.length + 1 := by simp
                rw [← hl1] at B9 ho9 hn1
                have HL1 := Lib.hid hl1
                clear hl1
                go_roundg (gk - 1)
                case measure => omega
                case rel => exact ⟨A1, c1, L ++ [(i : Int)], HS3, by rw [HL1.out]; omega, by rw [HL1.out]; omega, by (rw [HL1.out] at B9 ⊢; exact B9), by (rw [HL1.out] at ho9 ⊢; rw [intCells_append]; simpa [intCells] using ho9), hn1, by simpa using hb9⟩
          · exfalso
            obtain ⟨k, h0, h1, h2⟩ := HXL.out
            obtain ⟨j, rfl⟩ : ∃ j : Nat, k = j := ⟨k.toNat, by omega⟩
            rw [HI.out j (by omega)] at h2
            cases h2
      · have HF : Hid (L = orderL xs K K) := by have := HL.out; rw [show L.length = K by omega] at this; exact this.symm
        clear HL
        go_wp2
        exact bodyPost_ret (v := .tuple #[.slice A' L.length c', .bool true]) (by simp [results, Try.results39, go_sem]) rfl ⟨A', c', by rw [HR.out, ← HF.out], by rw [HR.out, ← HF.out]; exact own_base ho (by omega), btr hb0 hb⟩
  · have HR := Lib.hid (HRE.out.trans (if_neg hm))
    by_cases hg : goodPc p = true
    · have hso : soundB p.over p.kinds.toNat = false := by
        have : ¬ (soundB p.over p.kinds.toNat = true) := fun h => hm (by simp only [okB]; rw [hg, h]; rfl)
        simpa using this
      have Hs2 := Lib.hid (Hs.out hg)
      rw [hg] at Hv
      rw [hso] at Hs2
      clear HRE hx hm hg hso Hs
      go_enter Try.func39, Try.ntmps39
      go_wp2_with (first | (go_at_call 17; refine (Hv.out _ hb0).mono ?_; rintro en w1 ⟨rfl, hb1⟩; have m0a := cell_below' m0 hb1; have m1a := cell_below' m1 hb1) | (go_at_call 58; refine (Hs2.out _ (btr hb0 hb1)).mono ?_; rintro en w2 ⟨rfl, hb2⟩))
      have hbz := btr hb0 (btr hb1 hb2)
      have wz := w2
      exact bodyPost_ret (v := .tuple #[.slice none 0 0, .bool false]) (by simp [results, Try.results39, go_sem]) rfl ⟨none, 0, by rw [HR.out]; rfl, by rw [HR.out]; exact own_nil, hbz⟩
    · have hg' : goodPc p = false := by simpa using hg
      rw [hg'] at Hv
      clear HRE hx hm hg hg' Hs
      go_enter Try.func39, Try.ntmps39
      go_wp2_with (go_at_call 17; refine (Hv.out _ hb0).mono ?_; rintro en w1 ⟨rfl, hb1⟩)
      have hbz := btr hb0 hb1
      exact bodyPost_ret (v := .tuple #[.slice none 0 0, .bool false]) (by simp [results, Try.results39, go_sem]) rfl ⟨none, 0, by rw [HR.out]; rfl, by rw [HR.out]; exact own_nil, hbz⟩
/-- What the reference has found among the kinds from m on. -/
def Seen (xs : List Pr) (L : List Int) (K m : Nat) (nx : Int) : Prop :=
  (nx = -1 ∧ ∀ j : Nat, m ≤ j → j < K → readyB xs L j = false) ∨ ∃ n : Nat, nx = n ∧ m ≤ n ∧ n < K ∧ readyB xs L n = true ∧ ∀ j : Nat, m ≤ j → j < n → readyB xs L j = false
theorem seen_yes {xs : List Pr} {L : List Int} {K m : Nat} {nx : Int} (_ : Seen xs L K (m + 1) nx) (hm : m < K) (hr : readyB xs L m = true) : Seen xs L K m m :=
  .inr ⟨m, rfl, Nat.le_refl _, hm, hr, fun j h1 h2 => by omega⟩
theorem seen_no {xs : List Pr} {L : List Int} {K m : Nat} {nx : Int} (h : Seen xs L K (m + 1) nx) (hr : readyB xs L m = false) : Seen xs L K m nx := by
  have low : ∀ j : Nat, m ≤ j → ¬ m + 1 ≤ j → readyB xs L j = false := fun j h1 h2 => by
    rw [show j = m by omega]; exact hr
  rcases h with ⟨e, h⟩ | ⟨n, e, h1, h2, h3, h4⟩
  · refine .inl ⟨e, fun j h1 h2 => ?_⟩
    by_cases hj : m + 1 ≤ j
    · exact h j hj h2
    · exact low j h1 hj
  · refine .inr ⟨n, e, by omega, h2, h3, fun j h5 h6 => ?_⟩
    by_cases hj : m + 1 ≤ j
    · exact h4 j hj h6
    · exact low j h5 hj
theorem seen_end {xs : List Pr} {L : List Int} {K : Nat} {nx : Int} (h : Seen xs L K 0 nx) (hx : ∃ k, 0 ≤ k ∧ k < (K : Int) ∧ readyB xs L k = true) : nx = firstK (readyB xs L) K := by
  rcases h with ⟨e, h⟩ | ⟨n, e, h1, h2, h3, h4⟩
  · obtain ⟨k, h0, h1, h2⟩ := hx
    obtain ⟨j, rfl⟩ : ∃ j : Nat, k = j := ⟨k.toNat, by omega⟩
    rw [h j (by omega) (by omega)] at h2
    cases h2
  · rw [e, firstK_is h2 h3 (fun j hj => h4 j (by omega) hj)]
set_option maxHeartbeats 8000000 in
set_option maxRecDepth 100000 in
theorem specOrderK_any (A : Option Addr) (c : Nat) (p : Prec) (w : World) (hn : p.over.length ≤ maxLen) (_ : p.over.length ≤ c) (hx : Rd w A (prCells p.over)) :
    Calls Try.prog 38 #[.agg #[.int .i64 p.kinds, .slice A p.over.length c]] w fun en w' => ∃ A' c', en = .returned (.tuple #[.slice A' (orderR p).1.length c', .bool (orderR p).2]) ∧ w'.ownsRow w.heap.size 3 1 (.slice A' (orderR p).1.length c') (orderR p).1.length (intCells (orderR p).1) ∧ Below w.heap.size w w' := by
  obtain ⟨r, hr⟩ : ∃ r, r = orderR p := ⟨_, rfl⟩
  rw [← hr]
  have hb0 : Below w.heap.size w (w.alloc (.cells #[.int .i64 p.kinds, .slice A p.over.length c] 27)) := bnew (Below.refl _ _) _
  have m0 : (w.alloc (.cells #[.int .i64 p.kinds, .slice A p.over.length c] 27)).cell? ⟨w.heap.size, 0, none⟩ = some (.int .i64 p.kinds) := (World.cell?_alloc_at _ _ _ _ rfl).trans rfl
  have m1 : (w.alloc (.cells #[.int .i64 p.kinds, .slice A p.over.length c] 27)).cell? ⟨w.heap.size, 1, none⟩ = some (.slice A p.over.length c) := (World.cell?_alloc_at _ _ _ _ rfl).trans rfl
  have Hv : Hid (∀ w1, Below w.heap.size w w1 → Calls Try.prog 52 #[.agg #[.int .i64 p.kinds, .slice A p.over.length c]] w1 fun e w' => e = .returned (.bool (goodPc p)) ∧ Below w1.heap.size w1 w') := fun w1 hb => l4Good_any A c p w1 hn (hx.below hb)
  have Hs : Hid (goodPc p = true → ∀ w1, Below w.heap.size w w1 → Calls Try.prog 57 #[.agg #[.int .i64 p.kinds, .slice A p.over.length c]] w1 fun e w' => e = .returned (.bool (soundB p.over p.kinds.toNat)) ∧ Below w1.heap.size w1 w') := fun hg w1 hb => by
    obtain ⟨hk1, hk8, h16, hin, _⟩ := goodPc_in hg
    have := l4Sound_any A c p.kinds.toNat p.over w1 ⟨by omega, by omega⟩ h16 (hx.below hb) hin
    rwa [show ((p.kinds.toNat : Nat) : Int) = p.kinds by omega] at this
  unfold orderR at hr
  have HRE := Lib.hid hr
  clear hr hn
  have hbE := bnew hb0 (.cells #[] 3)
  have m0e := cell_below' m0 (bnew (Below.refl (w.alloc (.cells #[.int .i64 p.kinds, .slice A p.over.length c] 27)).heap.size (w.alloc (.cells #[.int .i64 p.kinds, .slice A p.over.length c] 27))) (.cells #[] 3))
  have m1e := cell_below' m1 (bnew (Below.refl (w.alloc (.cells #[.int .i64 p.kinds, .slice A p.over.length c] 27)).heap.size (w.alloc (.cells #[.int .i64 p.kinds, .slice A p.over.length c] 27))) (.cells #[] 3))
  have hbEE := bnew (Below.refl (w.alloc (.cells #[.int .i64 p.kinds, .slice A p.over.length c] 27)).heap.size (w.alloc (.cells #[.int .i64 p.kinds, .slice A p.over.length c] 27))) (.cells #[] 3)
  have ho00 := own_lit (e := 3) (size := 1) (B := (w.alloc (.cells #[.int .i64 p.kinds, .slice A p.over.length c] 27)).heap.size) (w := (w.alloc (.cells #[.int .i64 p.kinds, .slice A p.over.length c] 27))) #[] 0 (Nat.le_refl _) (by unfold maxLen; omega) rfl
  have hWS : (w.alloc (.cells #[.int .i64 p.kinds, .slice A p.over.length c] 27)).heap.size = w.heap.size + 1 := by simp
  rw [hWS] at ho00
  by_cases hm : okB p = true
  · have HR := Lib.hid (HRE.out.trans (if_pos hm))
    have Hs2 := Lib.hid (Hs.out (by simp only [okB, Bool.and_eq_true] at hm; exact hm.1))
    obtain ⟨ks, xs⟩ := p
    simp only at hx Hv Hs2 m0 m1 m0e m1e hbE hbEE ho00 hWS HR ⊢
    simp only [okB, Bool.and_eq_true] at hm
    obtain ⟨hg, hso⟩ := hm
    obtain ⟨hk1, hk8, h16, hin, _⟩ := goodPc_in hg
    simp only at hk1 hk8 h16 hin hso
    obtain ⟨K, rfl⟩ : ∃ K : Nat, ks = (K : Int) := ⟨ks.toNat, by omega⟩
    simp only [Int.toNat_natCast] at hin hso
    have hKK : 1 ≤ K ∧ K ≤ 8 := ⟨by omega, by omega⟩
    have hac := soundB_acyc hin hso
    simp only [Int.toNat_natCast] at HR Hs2
    rw [hg] at Hv
    rw [hso] at Hs2
    have HX : Hid (∀ n : Nat, n < K → ∃ k, 0 ≤ k ∧ k < (K : Int) ∧ readyB xs (orderL xs K n) k = true) := fun n hn => order_ready hin hac hn
    have hx0 := hx.below hb0
    clear HRE hx hin hac hg hso Hs
    go_enter Try.func38, Try.ntmps38
    go_wp2_with (first | (go_at_call 52; refine (Hv.out _ hbE).mono ?_; rintro en w1 ⟨rfl, hb1⟩; have m0a := cell_below' m0e hb1; have m1a := cell_below' m1e hb1) | (go_at_call 57; refine (Hs2.out _ (btr hbE hb1)).mono ?_; rintro en w2 ⟨rfl, hb2⟩; have hb02 := btr hbEE (btr hb1 hb2)))
    have ho0 := own_below ho00 (btr hb1 hb2)
    generalize w.alloc (.cells #[.int .i64 (K : Int), .slice A xs.length c] 27) = W0 at *
    clear hb1 hb2 Hv Hs2 m0a m1a m0e m1e ho00 hbE hbEE
    go_loopg [4] (K + 1) (fun gk q wr => ∃ (A' : Option Addr) (c' : Nat) (L : List Int), q = .slice A' L.length c' ∧ Hid (orderL xs K L.length = L) ∧ L.length ≤ K ∧ K + 1 - L.length ≤ gk ∧ wr.ownsRow (w.heap.size + 1) 3 1 (.slice A' L.length c') L.length (intCells L) ∧ Below W0.heap.size W0 wr)
    case atStart => exact ⟨some ⟨w.heap.size + 1, 0, none⟩, 0, [], rfl, rfl, by simp, by simp, ho0, hb02⟩
    case round =>
      obtain ⟨A', c', L, rfl, HL, hLK, hgk, ho, hb⟩ := hrel
      clear ho0 hb02
      have m0r := cell_below' m0 hb
      by_cases hlt : L.length < K
      · have hltI : (L.length : Int) < (K : Int) := by omega
        have HXL := Lib.hid (HX.out L.length hlt)
        rw [HL.out] at HXL
        have HSu : Hid (∀ nx : Int, Seen xs L K 0 nx → orderL xs K (L ++ [nx]).length = L ++ [nx]) := fun nx h => by
          rw [List.length_append]
          show orderL xs K L.length ++ [firstK (readyB xs (orderL xs K L.length)) K] = _
          rw [HL.out, ← seen_end h HXL.out]
        have HLW := Lib.hid (show L.length ≤ 8 by omega)
        have hKw : IntKind.i64.wrap ((K : Int) - 1) = (K : Int) - 1 := by rw [IntKind.wrap_i64]; omega
        have HAB : Hid (∀ (w1 : World) (y : Int) (b : Bool), Rd w1 A' (intCells L) → hasK L y = b → Calls Try.prog 62 #[.slice A' L.length c', .int .i64 y] w1 fun e w' => e = .returned (.bool b) ∧ w1 = w') := fun w1 y b hr h => by subst h; exact l1Has_any A' c' L y w1 (by unfold maxLen; omega) hr
        clear HL HX HXL
        go_wp2_with fail
        obtain ⟨wo, hwo⟩ : ∃ q, q = wr := ⟨_, rfl⟩
        subst hwo
        clear m0r
        go_loopw [5, 6] (fun nq kq wr => ∃ m : Nat, ∃ nx : Int, m ≤ K ∧ nq = .int .i64 nx ∧ kq = .int .i64 ((m : Int) - 1) ∧ Hid (Seen xs L K m nx) ∧ wo = wr) (fun _ kq _ => (intOf kq + 1).toNat)
        case atStart => exact ⟨K, -1, by omega, rfl, rfl, .inl ⟨rfl, fun j h1 h2 => by omega⟩, rfl⟩
        case round =>
          obtain ⟨m, nx, hmK, rfl, rfl, HN, rfl⟩ := hrel
          by_cases hm0 : 0 < m
          · obtain ⟨k, rfl⟩ : ∃ k, m = k + 1 := ⟨m - 1, by omega⟩
            have hkk : ((k + 1 : Nat) : Int) - 1 = (k : Int) := by omega
            rw [hkk]
            have hkI : (0 : Int) ≤ (k : Int) := by omega
            have hkw : IntKind.i64.wrap ((k : Int) - 1) = (k : Int) - 1 := by rw [IntKind.wrap_i64]; omega
            have HNy := Lib.hid (fun h => seen_yes HN.out (by omega) h)
            have HNn := Lib.hid (fun h => seen_no HN.out h)
            have HRE : Hid (readyB xs L k = (!hasK L k && !(xs.any (clashB L k)))) := rfl
            generalize readyB xs L k = rb at *
            generalize hHk : hasK L (k : Int) = v at *
            clear hkk HN
            cases v with
            | true =>
              have HHk := Lib.hid hHk
              clear hHk
              go_wp2_with (go_at_call 62; refine (HAB.out _ _ true (own_rd ho) HHk.out).mono ?_; rintro e w9 ⟨rfl, rfl⟩)
              go_loopw [7, 8] (fun rq iq wr => ∃ i : Nat, i ≤ xs.length ∧ iq = .int .i64 i ∧ rq = .bool false ∧ wo = wr) (fun _ iq _ => xs.length - (intOf iq).toNat)
              case atStart => exact ⟨0, by omega, rfl, rfl, rfl⟩
              case round =>
                obtain ⟨i, hi, rfl, rfl, rfl⟩ := hrel
                have m1r := cell_below' m1 hb
                by_cases hil : i < xs.length
                · obtain ⟨b, off, rfl, c0, c1⟩ := Rd.pr (hx0.below hb) hil
                  have hiI : (i : Int) < (xs.length : Int) := by omega
                  go_wp2_with fail
                  go_roundw
                  case rel => exact ⟨i + 1, by omega, by go_num, rfl, trivial⟩
                  case measure => simp [intOf]; omega
                · have HE : Hid (false = rb) := HRE.out.symm
                  clear HRE
                  have HN2 := Lib.hid (HNn.out HE.out.symm)
                  clear HNy HNn HE
                  go_wp2
                  go_roundw
                  case rel => exact ⟨k, nx, by omega, by go_num, by go_num, HN2, trivial⟩
                  case measure => simp [intOf] <;> omega
            | false =>
              have HHk := Lib.hid hHk
              clear hHk
              go_wp2_with (go_at_call 62; refine (HAB.out _ _ false (own_rd ho) HHk.out).mono ?_; rintro e w9 ⟨rfl, rfl⟩)
              go_loopw [7, 8] (fun rq iq wr => ∃ i : Nat, i ≤ xs.length ∧ iq = .int .i64 i ∧ rq = .bool (!((xs.take i).any (clashB L k))) ∧ wo = wr) (fun _ iq _ => xs.length - (intOf iq).toNat)
              case atStart => exact ⟨0, by omega, rfl, rfl, rfl⟩
              case round =>
                obtain ⟨i, hi, rfl, rfl, rfl⟩ := hrel
                have m1r := cell_below' m1 hb
                by_cases hil : i < xs.length
                · obtain ⟨b, off, rfl, c0, c1⟩ := Rd.pr (hx0.below hb) hil
                  have hiI : (i : Int) < (xs.length : Int) := by omega
                  have HAt := Lib.hid (any_take_succ (clashB L k) xs i hil)
                  have HCx : Hid (clashB L k xs[i] = (xs[i].b == (k : Int) && !hasK L xs[i].a)) := rfl
                  generalize xs[i] = x at *
                  generalize (xs.take i).any (clashB L k) = u at *
                  cases u with
                  | true =>
                    go_wp2_with fail
                    go_roundw
                    case rel => exact ⟨i + 1, by omega, by go_num, by rw [HAt.out]; simp, trivial⟩
                    case measure => simp [intOf]; omega
                  | false =>
                    by_cases hq : x.b = (k : Int)
                    · have hq' : (x.b != (k : Int)) = false := by simp [hq]
                      have HC2 : Hid (clashB L k x = !hasK L x.a) := HCx.out.trans (by rw [hq]; simp)
                      clear hq HCx
                      generalize hHa : hasK L x.a = z at *
                      have HHa := Lib.hid hHa
                      clear hHa
                      go_wp2_with (go_at_call 62; refine (HAB.out _ _ z (own_rd ho) HHa.out).mono ?_; rintro e w9 ⟨rfl, rfl⟩)
                      go_roundw
                      case rel => exact ⟨i + 1, by omega, by go_num, by rw [HAt.out, HC2.out]; simp, trivial⟩
                      case measure => simp [intOf]; omega
                    · have hq' : (x.b != (k : Int)) = true := by simp [hq]
                      have HC2 : Hid (clashB L k x = false) := HCx.out.trans (by rw [beq_eq_false_iff_ne.2 hq]; rfl)
                      clear hq HCx
                      go_wp2_with fail
                      go_roundw
                      case rel => exact ⟨i + 1, by omega, by go_num, by rw [HAt.out, HC2.out]; simp, trivial⟩
                      case measure => simp [intOf]; omega
                · have HE : Hid ((!((xs.take i).any (clashB L k))) = rb) := by show _ = _; rw [List.take_of_length_le (by omega), HRE.out]; rfl
                  clear HRE
                  generalize (xs.take i).any (clashB L k) = u at *
                  cases u with
                  | false =>
                    have HN2 := Lib.hid (HNy.out HE.out.symm)
                    clear HNy HNn HE
                    go_wp2
                    go_roundw
                    case rel => exact ⟨k, k, by omega, by go_num, by go_num, HN2, trivial⟩
                    case measure => simp [intOf] <;> omega
                  | true =>
                    have HN2 := Lib.hid (HNn.out HE.out.symm)
                    clear HNy HNn HE
                    go_wp2
                    go_roundw
                    case rel => exact ⟨k, nx, by omega, by go_num, by go_num, HN2, trivial⟩
                    case measure => simp [intOf] <;> omega
          · obtain rfl : m = 0 := by omega
            have HF := Lib.hid (HSu.out nx HN.out)
            have hbW := bnew hb (.cells #[.int .i64 nx] 3)
            have hoW := own_below ho (bnew (Below.refl wo.heap.size wo) (.cells #[.int .i64 nx] 3))
            have hrd : Rd (wo.alloc (.cells #[.int .i64 nx] 3)) (some ⟨wo.heap.size, 0, none⟩) [.int .i64 nx] := Rd.made
            rw [← hWS] at hoW
            have hneg : ¬ (0 : Int) ≤ ((0 : Nat) : Int) - 1 := by omega
            clear HN HSu HAB
            go_wp2_with (at_builtin; go_must (refine wpl_app rfl (.tmp 65) (.tmp 67) 33 rfl el_Int (v := .slice A' L.length c') rfl hoW rfl rfl hrd (by simp [Value.oneCell']) (by unfold maxLen; omega) (by omega) hbW.size ?_); intro A1 c1 w5 ho1 hg1 hor; have hb3 : Below W0.heap.size W0 w5 := hbW.grown hg1 hbW.size (fun k hk => (hoW.lt k hk).1); clear hor hg1)
            rw [hWS] at ho1
            go_roundg (gk - 1)
            case measure => omega
            case rel => exact ⟨A1, c1, L ++ [nx], by simp, HF, by simp; omega, by simp; omega, by (rw [intCells_append]; simpa [intCells] using ho1), hb3⟩
      · have HF : Hid (L = orderL xs K K) := by have := HL.out; rw [show L.length = K by omega] at this; exact this.symm
        clear HL
        go_wp2
        exact bodyPost_ret (v := .tuple #[.slice A' L.length c', .bool true]) (by simp [results, Try.results38, go_sem]) rfl ⟨A', c', by rw [HR.out, ← HF.out], by rw [HR.out, ← HF.out]; exact own_base ho (by omega), btr hb0 hb⟩
  · have HR := Lib.hid (HRE.out.trans (if_neg hm))
    by_cases hg : goodPc p = true
    · have hso : soundB p.over p.kinds.toNat = false := by
        have : ¬ (soundB p.over p.kinds.toNat = true) := fun h => hm (by simp only [okB]; rw [hg, h]; rfl)
        simpa using this
      have Hs2 := Lib.hid (Hs.out hg)
      rw [hg] at Hv
      rw [hso] at Hs2
      clear HRE hx hm hg hso Hs
      go_enter Try.func38, Try.ntmps38
      go_wp2_with (first | (go_at_call 52; refine (Hv.out _ hbE).mono ?_; rintro en w1 ⟨rfl, hb1⟩; have m0a := cell_below' m0e hb1; have m1a := cell_below' m1e hb1) | (go_at_call 57; refine (Hs2.out _ (btr hbE hb1)).mono ?_; rintro en w2 ⟨rfl, hb2⟩))
      have hbz := btr hbE (btr hb1 hb2)
      have wz := w2
      exact bodyPost_ret (v := .tuple #[.slice (some ⟨w.heap.size + 1, 0, none⟩) 0 0, .bool false]) (by simp [results, Try.results38, go_sem]) rfl ⟨some ⟨w.heap.size + 1, 0, none⟩, 0, by rw [HR.out]; rfl, by rw [HR.out]; exact own_base (own_below ho00 (btr hb1 hb2)) (by omega), hbz⟩
    · have hg' : goodPc p = false := by simpa using hg
      rw [hg'] at Hv
      clear HRE hx hm hg hg' Hs
      go_enter Try.func38, Try.ntmps38
      go_wp2_with (go_at_call 52; refine (Hv.out _ hbE).mono ?_; rintro en w1 ⟨rfl, hb1⟩)
      have hbz := btr hbE hb1
      exact bodyPost_ret (v := .tuple #[.slice (some ⟨w.heap.size + 1, 0, none⟩) 0 0, .bool false]) (by simp [results, Try.results38, go_sem]) rfl ⟨some ⟨w.heap.size + 1, 0, none⟩, 0, by rw [HR.out]; rfl, by rw [HR.out]; exact own_base (own_below ho00 hb1) (by omega), hbz⟩
end Go.Proofs.Ytdbcbaahjhaonaa
