/-
  Contracts of YieldsTo, BlockedKinds, IsSound. Conditions: lengths within Go's range.
-/
import Derived.Test.YtdbcbaahjhaonaaReach2
namespace Go.My
open Go.RowKit
def kindB (p : Prec) (k : Int) : Bool := goodPc p && inB k 0 (p.kinds - 1)
def blockP (xs : List Pr) (s k : Int) : Bool := k != s && !reachB xs s k
def yieldsR (p : Prec) (k : Int) : List Int × Bool := if kindB p k = true then (selTo (reachB p.over k) p.kinds.toNat, true) else ([], false)
def blockedR (p : Prec) (k : Int) : List Int × Bool := if kindB p k = true then (selTo (blockP p.over k) p.kinds.toNat, true) else ([], false)
def soundB (xs : List Pr) (K : Nat) : Bool := (kindsTo K).all fun k => !reachB xs k k
def soundR (p : Prec) : Bool × Bool := if goodPc p = true then (soundB p.over p.kinds.toNat, true) else (false, false)
theorem selTo_at (p : Int → Bool) (n : Nat) : selTo p (n + 1) = if p n = true then selTo p n ++ [(n : Int)] else selTo p n := rfl
theorem selTo_len' (p : Int → Bool) (n : Nat) : (selTo p n).length ≤ n := selTo_len p n
theorem hasK_selTo {p : Int → Bool} {n k : Nat} (hk : k < n) : hasK (selTo p n) (k : Int) = p k := by
  cases h : p k with
  | true => exact hasK_iff.2 (selTo_mem.2 ⟨by omega, by omega, h⟩)
  | false =>
    rw [← Bool.not_eq_true, hasK_iff, selTo_mem]
    rintro ⟨_, _, h2⟩; rw [h] at h2; cases h2
theorem soundB_no {xs : List Pr} {K k : Nat} (hk : k < K) (h : reachB xs k k = true) : soundB xs K = false := by
  unfold soundB
  rw [List.all_eq_false]
  exact ⟨k, kindsTo_mem.2 ⟨by omega, by omega⟩, by simp [h]⟩
theorem soundB_yes {xs : List Pr} {K : Nat} (h : ∀ k : Nat, k < K → reachB xs k k = false) : soundB xs K = true := by
  unfold soundB
  rw [List.all_eq_true]
  intro k hk
  obtain ⟨h0, h1⟩ := kindsTo_mem.1 hk
  obtain ⟨j, rfl⟩ : ∃ j : Nat, k = j := ⟨k.toNat, by omega⟩
  simp [h j (by omega)]
theorem soundB_acyc {xs : List Pr} {K : Nat} (hin : InK xs K) (h : soundB xs K = true) : Acyc xs := by
  intro k hk
  obtain ⟨h0, h1⟩ := plus_in (K := K) (fun x hx => (hin x hx).2) hk
  unfold soundB at h
  have := List.all_eq_true.1 h k (kindsTo_mem.2 ⟨h0, h1⟩)
  rw [reachB_true.2 hk] at this
  cases this
end Go.My
namespace Go.Proofs.Ytdbcbaahjhaonaa
open Go.RowKit Go.My
set_option maxHeartbeats 8000000 in
set_option maxRecDepth 100000 in
theorem yieldsT_any (A : Option Addr) (c : Nat) (p : Prec) (s : Int) (w : World) (hn : p.over.length ≤ maxLen) (_ : p.over.length ≤ c) (hx : Rd w A (prCells p.over)) :
    Calls Try.prog 22 #[.agg #[.int .i64 p.kinds, .slice A p.over.length c], .int .i64 s] w fun en w' => ∃ A' c', en = .returned (.tuple #[.slice A' (yieldsR p s).1.length c', .bool (yieldsR p s).2]) ∧ w'.ownsRow w.heap.size 3 1 (.slice A' (yieldsR p s).1.length c') (yieldsR p s).1.length (intCells (yieldsR p s).1) ∧ Below w.heap.size w w' := by
  obtain ⟨r, hr⟩ : ∃ r, r = yieldsR p s := ⟨_, rfl⟩
  rw [← hr]
  have hb0 : Below w.heap.size w (w.alloc (.cells #[.int .i64 p.kinds, .slice A p.over.length c] 27)) := bnew (Below.refl _ _) _
  have m0 : (w.alloc (.cells #[.int .i64 p.kinds, .slice A p.over.length c] 27)).cell? ⟨w.heap.size, 0, none⟩ = some (.int .i64 p.kinds) := (World.cell?_alloc_at _ _ _ _ rfl).trans rfl
  have m1 : (w.alloc (.cells #[.int .i64 p.kinds, .slice A p.over.length c] 27)).cell? ⟨w.heap.size, 1, none⟩ = some (.slice A p.over.length c) := (World.cell?_alloc_at _ _ _ _ rfl).trans rfl
  have Hv : Hid (∀ w1, Below w.heap.size w w1 → Calls Try.prog 17 #[.agg #[.int .i64 p.kinds, .slice A p.over.length c]] w1 fun e w' => e = .returned (.bool (goodPc p)) ∧ Below w1.heap.size w1 w') := fun w1 hb => isPrec_any A c p w1 hn (hx.below hb)
  unfold yieldsR at hr
  have HRE := Lib.hid hr
  clear hr hn
  by_cases hm : kindB p s = true
  · have HR := Lib.hid (HRE.out.trans (if_pos hm))
    obtain ⟨ks, xs⟩ := p
    simp only at hx Hv m0 m1 HR ⊢
    simp only [kindB, Bool.and_eq_true] at hm
    obtain ⟨hg, hki⟩ := hm
    obtain ⟨hk1, hk8, h16, hin, _⟩ := goodPc_in hg
    simp only at hk1 hk8 h16 hin
    obtain ⟨K, rfl⟩ : ∃ K : Nat, ks = (K : Int) := ⟨ks.toNat, by omega⟩
    simp only [Int.toNat_natCast] at hin
    have hKK : 1 ≤ K ∧ K ≤ 8 := ⟨by omega, by omega⟩
    have hki' : 0 ≤ s ∧ s ≤ (K : Int) - 1 := by simpa [inB] using hki
    have Hh : Hid (∀ w1, Calls Try.prog 55 #[.agg #[.int .i64 K, .slice A xs.length c], .int .i64 s] w1 fun e w' => e = .returned (.bool true) ∧ Below w1.heap.size w1 w') := fun w1 => by
      have := hasKind_any A c ⟨K, xs⟩ s w1 (by simp; omega)
      rwa [hki] at this
    have Hy : Hid (∀ w1, Below w.heap.size w w1 → _) := fun w1 hb => yieldsTo_any A c K xs s w1 hKK h16 (hx.below hb) hin
    have HRW : Hid (∀ (k : Nat) (h : k < (rowB (reachB xs s) K).length), (rowB (reachB xs s) K)[k] = reachB xs s k) := fun k h => rowB_get _ _ k h
    have hRL := rowB_len (reachB xs s) K
    simp only [Int.toNat_natCast] at HR
    clear HRE hx hin hki
    go_enter Try.func22, Try.ntmps22
    go_wp2_with (first | (go_at_call 17; refine (Hv.out _ hb0).mono ?_; rintro en w1 ⟨rfl, hb1⟩; have m0a := cell_below' m0 hb1; have m1a := cell_below' m1 hb1) | (go_at_call 55; refine (Hh.out _).mono ?_; rintro en w2 ⟨rfl, hb2⟩; have hb02 := btr hb1 hb2; have m0b := cell_below' m0a (btr hb2 (bnew (Below.refl w2.heap.size w2) (.cells #[] 3))); have m1b := cell_below' m1a (btr hb2 (bnew (Below.refl w2.heap.size w2) (.cells #[] 3)))) | (go_at_call 61; refine (Hy.out _ (btr hb0 (bnew hb02 (.cells #[] 3)))).mono ?_; rintro en w4 ⟨A4, rfl, ho4, hb4⟩))
    have hbE := bnew hb02 (.cells #[] 3)
    have ho0 := own_below (own_lit (e := 3) (size := 1) (B := w.heap.size) (w := w2) #[] 0 (Nat.le_trans hb0.size hb02.size) (by unfold maxLen; omega) rfl) hb4
    have hb04 := btr hb0 (btr hbE hb4)
    have hRT := own_rd ho4
    have HTb : Hid (∀ ad, A4 = some ad → ad.block < w4.heap.size ∧ w2.heap.size < ad.block) := fun ad e => by
      have h := ho4.lt ad.block (by rw [e]; rfl)
      have h2 := h.1
      simp at h2
      exact ⟨h.2, by omega⟩
    have HT0 : Hid (∀ ad, A4 = some ad → some ad.block ≠ (Value.slice (some ⟨w2.heap.size, 0, none⟩) 0 0).ownBlock) := fun ad e h => by
      have := HTb.out ad e
      simp [Value.ownBlock] at h; omega
    clear hb0 hb1 hb2 hb02 hbE ho4 hb4 Hv Hh Hy m0 m1 m0a m1a m0b m1b hg
    go_loopw [6, 23] (fun out i wr => ∃ k : Nat, ∃ (A' : Option Addr) (c' : Nat) (L : List Int), k ≤ K ∧ i = .int .i64 k ∧ out = .slice A' L.length c' ∧ Hid (selTo (reachB xs s) k = L) ∧ L.length ≤ k ∧ wr.ownsRow w.heap.size 3 1 (.slice A' L.length c') L.length (intCells L) ∧ Rd wr A4 (bCells (rowB (reachB xs s) K)) ∧ Hid (∀ ad, A4 = some ad → some ad.block ≠ (Value.slice A' L.length c').ownBlock) ∧ w4.heap.size ≤ wr.heap.size ∧ Below w.heap.size w wr) (fun _ i _ => K - (intOf i).toNat)
    case atStart => exact ⟨0, some ⟨w2.heap.size, 0, none⟩, 0, [], by omega, rfl, rfl, rfl, by simp, ho0, hRT, HT0, Nat.le_refl _, hb04⟩
    case round =>
      obtain ⟨k, A', c', L, hk, rfl, rfl, HP, hLk, ho, hT, HTn, hsz, hb⟩ := hrel
      clear ho0 hRT HT0 hb04
      by_cases hlt : k < K
      · obtain ⟨b, off, rfl, d0⟩ := Rd.bools hT (by rw [hRL]; exact hlt)
        rw [HRW.out k _] at d0
        have hkI : (k : Int) < (K : Int) := by omega
        have HN := Lib.hid (selTo_at (reachB xs s) k)
        have hTW := hT.alloc (.cells #[.int .i64 k] 3)
        have hszW : w4.heap.size ≤ (wr.alloc (.cells #[.int .i64 k] 3)).heap.size := by simp; omega
        have hbW := bnew hb (.cells #[.int .i64 k] 3)
        have hoW := own_below ho (bnew (Below.refl wr.heap.size wr) (.cells #[.int .i64 k] 3))
        have hrd : Rd (wr.alloc (.cells #[.int .i64 k] 3)) (some ⟨wr.heap.size, 0, none⟩) [.int .i64 k] := Rd.made
        by_cases hu : reachB xs s k = true
        · rw [hu] at d0
          have HY : Hid (selTo (reachB xs s) (k + 1) = L ++ [(k : Int)]) := HN.out.trans (by rw [if_pos (hu), HP.out])
          clear HN HP
          go_wp2_with (at_builtin; go_must (refine wpl_app rfl (.tmp 29) (.tmp 31) 33 rfl el_Int (v := .slice A' L.length c') rfl hoW rfl rfl hrd (by simp [Value.oneCell']) (by unfold maxLen; omega) (by omega) hbW.size ?_); intro A1 c1 w5 ho1 hg1 hor; have hb3 : Below w.heap.size w w5 := hbW.grown hg1 hbW.size (fun k hk => (hoW.lt k hk).1); have hT3 := hTW.grown hg1 HTn.out; have hsz3 := Nat.le_trans hszW hg1.size; have HOR := Lib.hid hor; clear hor hg1)
          have HT3 : Hid (∀ ad, some (⟨b, off, none⟩ : Addr) = some ad → some ad.block ≠ (Value.slice A1 (L ++ [(k : Int)]).length c1).ownBlock) := fun ad e => by
            have e2 : (Value.slice A1 (L ++ [(k : Int)]).length c1).ownBlock = (Value.slice A1 (L.length + 1) c1).ownBlock := by simp
            rw [e2]
            rcases HOR.out with h | h
            · rw [h]; exact HTn.out ad e
            · rw [h]; intro h2
              have := HTb.out ad e
              simp at h2; omega
          clear HOR hoW hTW hrd hbW hszW
          go_roundw
          case rel => exact ⟨k + 1, A1, c1, L ++ [(k : Int)], by omega, by go_num, by simp, HY, by simp; omega, by (rw [intCells_append]; simpa [intCells] using ho1), hT3, HT3, hsz3, hb3⟩
          case measure => simp [intOf]; omega
        · have hu' : reachB xs s k = false := by simpa using hu
          rw [hu'] at d0
          have HY : Hid (selTo (reachB xs s) (k + 1) = L) := HN.out.trans (by rw [if_neg (hu), HP.out])
          clear HN HP hTW hszW hbW hoW hrd
          go_wp2
          go_roundw
          case rel => exact ⟨k + 1, A', c', L, by omega, by go_num, rfl, HY, by omega, ho, hT, HTn, hsz, hb⟩
          case measure => simp [intOf]; omega
      · have HF : Hid (L = selTo (reachB xs s) K) := by have := HP.out; rw [show k = K by omega] at this; exact this.symm
        clear HP
        go_wp2
        exact bodyPost_ret (v := .tuple #[.slice A' L.length c', .bool true]) (by simp [results, Try.results22, go_sem]) rfl ⟨A', c', by rw [HR.out, HF.out], by rw [HR.out, ← HF.out]; exact ho, hb⟩
  · have HR := Lib.hid (HRE.out.trans (if_neg hm))
    obtain ⟨ks, xs⟩ := p
    simp only at hx Hv m0 m1 HR ⊢
    clear HRE hx
    by_cases hg : goodPc ⟨ks, xs⟩ = true
    · have hk18 := (goodPc_in hg).1
      have hk88 := (goodPc_in hg).2.1
      have hki : inB s 0 (ks - 1) = false := by
        have : ¬ (inB s 0 (ks - 1) = true) := fun h => hm (by simp only [kindB]; rw [hg]; exact h)
        simpa using this
      have Hh : Hid (∀ w1, Calls Try.prog 55 #[.agg #[.int .i64 ks, .slice A xs.length c], .int .i64 s] w1 fun e w' => e = .returned (.bool false) ∧ Below w1.heap.size w1 w') := fun w1 => by
        have := hasKind_any A c ⟨ks, xs⟩ s w1 ⟨hk18, hk88⟩
        rwa [hki] at this
      clear hm hki
      go_enter Try.func22, Try.ntmps22
      go_wp2_with (first | (go_at_call 17; refine (Hv.out _ hb0).mono ?_; rintro en w1 ⟨rfl, hb1⟩; have m0a := cell_below' m0 hb1; have m1a := cell_below' m1 hb1) | (go_at_call 55; refine (Hh.out _).mono ?_; rintro en w2 ⟨rfl, hb2⟩))
      exact bodyPost_ret (v := .tuple #[.slice none 0 0, .bool false]) (by simp [results, Try.results22, go_sem]) rfl ⟨none, 0, by rw [HR.out]; rfl, by rw [HR.out]; exact own_nil, btr hb0 (btr hb1 hb2)⟩
    · have hg' : goodPc ⟨ks, xs⟩ = false := by simpa using hg
      clear hm hg
      go_enter Try.func22, Try.ntmps22
      go_wp2_with (go_at_call 17; refine (Hv.out _ hb0).mono ?_; rintro en w1 ⟨rfl, hb1⟩)
      exact bodyPost_ret (v := .tuple #[.slice none 0 0, .bool false]) (by simp [results, Try.results22, go_sem]) rfl ⟨none, 0, by rw [HR.out]; rfl, by rw [HR.out]; exact own_nil, btr hb0 hb1⟩
set_option maxHeartbeats 8000000 in
set_option maxRecDepth 100000 in
theorem blocked_any (A : Option Addr) (c : Nat) (p : Prec) (s : Int) (w : World) (hn : p.over.length ≤ maxLen) (_ : p.over.length ≤ c) (hx : Rd w A (prCells p.over)) :
    Calls Try.prog 28 #[.agg #[.int .i64 p.kinds, .slice A p.over.length c], .int .i64 s] w fun en w' => ∃ A' c', en = .returned (.tuple #[.slice A' (blockedR p s).1.length c', .bool (blockedR p s).2]) ∧ w'.ownsRow w.heap.size 3 1 (.slice A' (blockedR p s).1.length c') (blockedR p s).1.length (intCells (blockedR p s).1) ∧ Below w.heap.size w w' := by
  obtain ⟨r, hr⟩ : ∃ r, r = blockedR p s := ⟨_, rfl⟩
  rw [← hr]
  have hb0 : Below w.heap.size w (w.alloc (.cells #[.int .i64 p.kinds, .slice A p.over.length c] 27)) := bnew (Below.refl _ _) _
  have m0 : (w.alloc (.cells #[.int .i64 p.kinds, .slice A p.over.length c] 27)).cell? ⟨w.heap.size, 0, none⟩ = some (.int .i64 p.kinds) := (World.cell?_alloc_at _ _ _ _ rfl).trans rfl
  have m1 : (w.alloc (.cells #[.int .i64 p.kinds, .slice A p.over.length c] 27)).cell? ⟨w.heap.size, 1, none⟩ = some (.slice A p.over.length c) := (World.cell?_alloc_at _ _ _ _ rfl).trans rfl
  have Hv : Hid (∀ w1, Below w.heap.size w w1 → Calls Try.prog 17 #[.agg #[.int .i64 p.kinds, .slice A p.over.length c]] w1 fun e w' => e = .returned (.bool (goodPc p)) ∧ Below w1.heap.size w1 w') := fun w1 hb => isPrec_any A c p w1 hn (hx.below hb)
  unfold blockedR at hr
  have HRE := Lib.hid hr
  clear hr hn
  by_cases hm : kindB p s = true
  · have HR := Lib.hid (HRE.out.trans (if_pos hm))
    obtain ⟨ks, xs⟩ := p
    simp only at hx Hv m0 m1 HR ⊢
    simp only [kindB, Bool.and_eq_true] at hm
    obtain ⟨hg, hki⟩ := hm
    obtain ⟨hk1, hk8, h16, hin, _⟩ := goodPc_in hg
    simp only at hk1 hk8 h16 hin
    obtain ⟨K, rfl⟩ : ∃ K : Nat, ks = (K : Int) := ⟨ks.toNat, by omega⟩
    simp only [Int.toNat_natCast] at hin
    have hKK : 1 ≤ K ∧ K ≤ 8 := ⟨by omega, by omega⟩
    have hki' : 0 ≤ s ∧ s ≤ (K : Int) - 1 := by simpa [inB] using hki
    have Hh : Hid (∀ w1, Calls Try.prog 55 #[.agg #[.int .i64 K, .slice A xs.length c], .int .i64 s] w1 fun e w' => e = .returned (.bool true) ∧ Below w1.heap.size w1 w') := fun w1 => by
      have := hasKind_any A c ⟨K, xs⟩ s w1 (by simp; omega)
      rwa [hki] at this
    have Hy : Hid (∀ w1, Below w.heap.size w w1 → _) := fun w1 hb => yieldsTo_any A c K xs s w1 hKK h16 (hx.below hb) hin
    have HRW : Hid (∀ (k : Nat) (h : k < (rowB (reachB xs s) K).length), (rowB (reachB xs s) K)[k] = reachB xs s k) := fun k h => rowB_get _ _ k h
    have hRL := rowB_len (reachB xs s) K
    simp only [Int.toNat_natCast] at HR
    clear HRE hx hin hki
    go_enter Try.func28, Try.ntmps28
    go_wp2_with (first | (go_at_call 17; refine (Hv.out _ hb0).mono ?_; rintro en w1 ⟨rfl, hb1⟩; have m0a := cell_below' m0 hb1; have m1a := cell_below' m1 hb1) | (go_at_call 55; refine (Hh.out _).mono ?_; rintro en w2 ⟨rfl, hb2⟩; have hb02 := btr hb1 hb2; have m0b := cell_below' m0a (btr hb2 (bnew (Below.refl w2.heap.size w2) (.cells #[] 3))); have m1b := cell_below' m1a (btr hb2 (bnew (Below.refl w2.heap.size w2) (.cells #[] 3)))) | (go_at_call 61; refine (Hy.out _ (btr hb0 (bnew hb02 (.cells #[] 3)))).mono ?_; rintro en w4 ⟨A4, rfl, ho4, hb4⟩))
    have hbE := bnew hb02 (.cells #[] 3)
    have ho0 := own_below (own_lit (e := 3) (size := 1) (B := w.heap.size) (w := w2) #[] 0 (Nat.le_trans hb0.size hb02.size) (by unfold maxLen; omega) rfl) hb4
    have hb04 := btr hb0 (btr hbE hb4)
    have hRT := own_rd ho4
    have HTb : Hid (∀ ad, A4 = some ad → ad.block < w4.heap.size ∧ w2.heap.size < ad.block) := fun ad e => by
      have h := ho4.lt ad.block (by rw [e]; rfl)
      have h2 := h.1
      simp at h2
      exact ⟨h.2, by omega⟩
    have HT0 : Hid (∀ ad, A4 = some ad → some ad.block ≠ (Value.slice (some ⟨w2.heap.size, 0, none⟩) 0 0).ownBlock) := fun ad e h => by
      have := HTb.out ad e
      simp [Value.ownBlock] at h; omega
    clear hb0 hb1 hb2 hb02 hbE ho4 hb4 Hv Hh Hy m0 m1 m0a m1a m0b m1b hg
    go_loopw [6, 23] (fun out i wr => ∃ k : Nat, ∃ (A' : Option Addr) (c' : Nat) (L : List Int), k ≤ K ∧ i = .int .i64 k ∧ out = .slice A' L.length c' ∧ Hid (selTo (blockP xs s) k = L) ∧ L.length ≤ k ∧ wr.ownsRow w.heap.size 3 1 (.slice A' L.length c') L.length (intCells L) ∧ Rd wr A4 (bCells (rowB (reachB xs s) K)) ∧ Hid (∀ ad, A4 = some ad → some ad.block ≠ (Value.slice A' L.length c').ownBlock) ∧ w4.heap.size ≤ wr.heap.size ∧ Below w.heap.size w wr) (fun _ i _ => K - (intOf i).toNat)
    case atStart => exact ⟨0, some ⟨w2.heap.size, 0, none⟩, 0, [], by omega, rfl, rfl, rfl, by simp, ho0, hRT, HT0, Nat.le_refl _, hb04⟩
    case round =>
      obtain ⟨k, A', c', L, hk, rfl, rfl, HP, hLk, ho, hT, HTn, hsz, hb⟩ := hrel
      clear ho0 hRT HT0 hb04
      by_cases hlt : k < K
      · obtain ⟨b, off, rfl, d0⟩ := Rd.bools hT (by rw [hRL]; exact hlt)
        rw [HRW.out k _] at d0
        have hkI : (k : Int) < (K : Int) := by omega
        have HN := Lib.hid (selTo_at (blockP xs s) k)
        have hTW := hT.alloc (.cells #[.int .i64 k] 3)
        have hszW : w4.heap.size ≤ (wr.alloc (.cells #[.int .i64 k] 3)).heap.size := by simp; omega
        have hbW := bnew hb (.cells #[.int .i64 k] 3)
        have hoW := own_below ho (bnew (Below.refl wr.heap.size wr) (.cells #[.int .i64 k] 3))
        have hrd : Rd (wr.alloc (.cells #[.int .i64 k] 3)) (some ⟨wr.heap.size, 0, none⟩) [.int .i64 k] := Rd.made
        by_cases hq : (k : Int) = s
        · have hq' : ((k : Int) != s) = false := by simp [hq]
          have hpb : ¬ blockP xs s k = true := by simp [blockP, hq]
          have Hpb := Lib.hid hpb
          clear hpb hq
          generalize reachB xs s k = u at *
          have HY : Hid (selTo (blockP xs s) (k + 1) = L) := HN.out.trans (by rw [if_neg (Hpb.out), HP.out])
          clear HN HP hTW hszW hbW hoW hrd
          go_wp2
          go_roundw
          case rel => exact ⟨k + 1, A', c', L, by omega, by go_num, rfl, HY, by omega, ho, hT, HTn, hsz, hb⟩
          case measure => simp [intOf]; omega
        · have hq' : ((k : Int) != s) = true := by simp [hq]
          by_cases hu : reachB xs s k = true
          · rw [hu] at d0
            have Hpb : Hid (¬ blockP xs s k = true) := by show ¬ _; simp [blockP, hu]
            clear hq hu
            have HY : Hid (selTo (blockP xs s) (k + 1) = L) := HN.out.trans (by rw [if_neg (Hpb.out), HP.out])
            clear HN HP hTW hszW hbW hoW hrd
            go_wp2
            go_roundw
            case rel => exact ⟨k + 1, A', c', L, by omega, by go_num, rfl, HY, by omega, ho, hT, HTn, hsz, hb⟩
            case measure => simp [intOf]; omega
          · have hu' : reachB xs s k = false := by simpa using hu
            rw [hu'] at d0
            have Hpb : Hid (blockP xs s k = true) := by show _ = _; simp [blockP, hu', hq]
            clear hq hu hu'
            have HY : Hid (selTo (blockP xs s) (k + 1) = L ++ [(k : Int)]) := HN.out.trans (by rw [if_pos (Hpb.out), HP.out])
            clear HN HP
            go_wp2_with (at_builtin; go_must (refine wpl_app rfl (.tmp 35) (.tmp 37) 33 rfl el_Int (v := .slice A' L.length c') rfl hoW rfl rfl hrd (by simp [Value.oneCell']) (by unfold maxLen; omega) (by omega) hbW.size ?_); intro A1 c1 w5 ho1 hg1 hor; have hb3 : Below w.heap.size w w5 := hbW.grown hg1 hbW.size (fun k hk => (hoW.lt k hk).1); have hT3 := hTW.grown hg1 HTn.out; have hsz3 := Nat.le_trans hszW hg1.size; have HOR := Lib.hid hor; clear hor hg1)
            have HT3 : Hid (∀ ad, some (⟨b, off, none⟩ : Addr) = some ad → some ad.block ≠ (Value.slice A1 (L ++ [(k : Int)]).length c1).ownBlock) := fun ad e => by
              have e2 : (Value.slice A1 (L ++ [(k : Int)]).length c1).ownBlock = (Value.slice A1 (L.length + 1) c1).ownBlock := by simp
              rw [e2]
              rcases HOR.out with h | h
              · rw [h]; exact HTn.out ad e
              · rw [h]; intro h2
                have := HTb.out ad e
                simp at h2; omega
            clear HOR hoW hTW hrd hbW hszW
            go_roundw
            case rel => exact ⟨k + 1, A1, c1, L ++ [(k : Int)], by omega, by go_num, by simp, HY, by simp; omega, by (rw [intCells_append]; simpa [intCells] using ho1), hT3, HT3, hsz3, hb3⟩
            case measure => simp [intOf]; omega
      · have HF : Hid (L = selTo (blockP xs s) K) := by have := HP.out; rw [show k = K by omega] at this; exact this.symm
        clear HP
        go_wp2
        exact bodyPost_ret (v := .tuple #[.slice A' L.length c', .bool true]) (by simp [results, Try.results28, go_sem]) rfl ⟨A', c', by rw [HR.out, HF.out], by rw [HR.out, ← HF.out]; exact ho, hb⟩
  · have HR := Lib.hid (HRE.out.trans (if_neg hm))
    obtain ⟨ks, xs⟩ := p
    simp only at hx Hv m0 m1 HR ⊢
    clear HRE hx
    by_cases hg : goodPc ⟨ks, xs⟩ = true
    · have hk18 := (goodPc_in hg).1
      have hk88 := (goodPc_in hg).2.1
      have hki : inB s 0 (ks - 1) = false := by
        have : ¬ (inB s 0 (ks - 1) = true) := fun h => hm (by simp only [kindB]; rw [hg]; exact h)
        simpa using this
      have Hh : Hid (∀ w1, Calls Try.prog 55 #[.agg #[.int .i64 ks, .slice A xs.length c], .int .i64 s] w1 fun e w' => e = .returned (.bool false) ∧ Below w1.heap.size w1 w') := fun w1 => by
        have := hasKind_any A c ⟨ks, xs⟩ s w1 ⟨hk18, hk88⟩
        rwa [hki] at this
      clear hm hki
      go_enter Try.func28, Try.ntmps28
      go_wp2_with (first | (go_at_call 17; refine (Hv.out _ hb0).mono ?_; rintro en w1 ⟨rfl, hb1⟩; have m0a := cell_below' m0 hb1; have m1a := cell_below' m1 hb1) | (go_at_call 55; refine (Hh.out _).mono ?_; rintro en w2 ⟨rfl, hb2⟩))
      exact bodyPost_ret (v := .tuple #[.slice none 0 0, .bool false]) (by simp [results, Try.results28, go_sem]) rfl ⟨none, 0, by rw [HR.out]; rfl, by rw [HR.out]; exact own_nil, btr hb0 (btr hb1 hb2)⟩
    · have hg' : goodPc ⟨ks, xs⟩ = false := by simpa using hg
      clear hm hg
      go_enter Try.func28, Try.ntmps28
      go_wp2_with (go_at_call 17; refine (Hv.out _ hb0).mono ?_; rintro en w1 ⟨rfl, hb1⟩)
      exact bodyPost_ret (v := .tuple #[.slice none 0 0, .bool false]) (by simp [results, Try.results28, go_sem]) rfl ⟨none, 0, by rw [HR.out]; rfl, by rw [HR.out]; exact own_nil, btr hb0 hb1⟩
set_option maxHeartbeats 2000000 in
theorem l4Kind_any (A : Option Addr) (c : Nat) (p : Prec) (s : Int) (w : World) (hn : p.over.length ≤ maxLen) (hx : Rd w A (prCells p.over)) :
    Calls Try.prog 59 #[.agg #[.int .i64 p.kinds, .slice A p.over.length c], .int .i64 s] w fun e w' => e = .returned (.bool (kindB p s)) ∧ Below w.heap.size w w' := by
  have hb0 : Below w.heap.size w (w.alloc (.cells #[.int .i64 p.kinds, .slice A p.over.length c] 27)) := bnew (Below.refl _ _) _
  have m0 : (w.alloc (.cells #[.int .i64 p.kinds, .slice A p.over.length c] 27)).cell? ⟨w.heap.size, 0, none⟩ = some (.int .i64 p.kinds) := (World.cell?_alloc_at _ _ _ _ rfl).trans rfl
  have m1 : (w.alloc (.cells #[.int .i64 p.kinds, .slice A p.over.length c] 27)).cell? ⟨w.heap.size, 1, none⟩ = some (.slice A p.over.length c) := (World.cell?_alloc_at _ _ _ _ rfl).trans rfl
  have Hv := Lib.hid (l4Good_any A c p (w.alloc (.cells #[.int .i64 p.kinds, .slice A p.over.length c] 27)) hn (hx.below hb0))
  have HK : Hid (kindB p s = (goodPc p && inB s 0 (p.kinds - 1))) := rfl
  by_cases hg : goodPc p = true
  · have hk18 := (goodPc_in hg).1
    have hk88 := (goodPc_in hg).2.1
    have hw : IntKind.i64.wrap (p.kinds - 1) = p.kinds - 1 := by rw [IntKind.wrap_i64]; omega
    rw [hg, Bool.true_and] at HK
    rw [hg] at Hv
    clear hg hx
    generalize kindB p s = r at *
    go_enter Try.func59, Try.ntmps59
    go_wp2_with (first | (go_at_call 52; refine Hv.out.mono ?_; rintro e w1 ⟨rfl, hb1⟩; have m0a := cell_below' m0 hb1) | (go_at_call 84; refine (l1In_any _ _ _ _).mono ?_; rintro e w2 ⟨rfl, rfl⟩))
    go_ret
    exact ⟨by rw [HK.out]; rfl, btr hb0 hb1⟩
  · have hg' : goodPc p = false := by simpa using hg
    rw [hg', Bool.false_and] at HK
    rw [hg'] at Hv
    clear hg hg' hx
    generalize kindB p s = r at *
    go_enter Try.func59, Try.ntmps59
    go_wp2_with (go_at_call 52; refine Hv.out.mono ?_; rintro e w1 ⟨rfl, hb1⟩)
    go_ret
    exact ⟨by rw [HK.out]; rfl, btr hb0 hb1⟩
set_option maxHeartbeats 8000000 in
set_option maxRecDepth 100000 in
theorem specYields_any (A : Option Addr) (c : Nat) (p : Prec) (s : Int) (w : World) (hn : p.over.length ≤ maxLen) (_ : p.over.length ≤ c) (hx : Rd w A (prCells p.over)) :
    Calls Try.prog 21 #[.agg #[.int .i64 p.kinds, .slice A p.over.length c], .int .i64 s] w fun en w' => ∃ A' c', en = .returned (.tuple #[.slice A' (yieldsR p s).1.length c', .bool (yieldsR p s).2]) ∧ w'.ownsRow w.heap.size 3 1 (.slice A' (yieldsR p s).1.length c') (yieldsR p s).1.length (intCells (yieldsR p s).1) ∧ Below w.heap.size w w' := by
  obtain ⟨r, hr⟩ : ∃ r, r = yieldsR p s := ⟨_, rfl⟩
  rw [← hr]
  have hb0 : Below w.heap.size w (w.alloc (.cells #[.int .i64 p.kinds, .slice A p.over.length c] 27)) := bnew (Below.refl _ _) _
  have m0 : (w.alloc (.cells #[.int .i64 p.kinds, .slice A p.over.length c] 27)).cell? ⟨w.heap.size, 0, none⟩ = some (.int .i64 p.kinds) := (World.cell?_alloc_at _ _ _ _ rfl).trans rfl
  have m1 : (w.alloc (.cells #[.int .i64 p.kinds, .slice A p.over.length c] 27)).cell? ⟨w.heap.size, 1, none⟩ = some (.slice A p.over.length c) := (World.cell?_alloc_at _ _ _ _ rfl).trans rfl
  have Hv : Hid (∀ w1, Below w.heap.size w w1 → Calls Try.prog 59 #[.agg #[.int .i64 p.kinds, .slice A p.over.length c], .int .i64 s] w1 fun e w' => e = .returned (.bool (kindB p s)) ∧ Below w1.heap.size w1 w') := fun w1 hb => l4Kind_any A c p s w1 hn (hx.below hb)
  unfold yieldsR at hr
  have HRE := Lib.hid hr
  clear hr hn
  by_cases hm : kindB p s = true
  · have HR := Lib.hid (HRE.out.trans (if_pos hm))
    rw [hm] at Hv
    obtain ⟨ks, xs⟩ := p
    simp only at hx Hv m0 m1 HR ⊢
    simp only [kindB, Bool.and_eq_true] at hm
    obtain ⟨hg, hki⟩ := hm
    obtain ⟨hk1, hk8, h16, hin, _⟩ := goodPc_in hg
    simp only at hk1 hk8 h16 hin
    obtain ⟨K, rfl⟩ : ∃ K : Nat, ks = (K : Int) := ⟨ks.toNat, by omega⟩
    simp only [Int.toNat_natCast] at hin
    have hKK : 1 ≤ K ∧ K ≤ 8 := ⟨by omega, by omega⟩
    have Hy : Hid (∀ w1, Below w.heap.size w w1 → _) := fun w1 hb => l4Reach_any A c K xs s w1 hKK h16 (hx.below hb) hin
    simp only [Int.toNat_natCast] at HR
    clear HRE hx hin hki
    generalize selTo (reachB xs s) K = ys at *
    go_enter Try.func21, Try.ntmps21
    go_wp2_with (first | (go_at_call 59; refine (Hv.out _ hb0).mono ?_; rintro en w1 ⟨rfl, hb1⟩; have m0a := cell_below' m0 hb1; have m1a := cell_below' m1 hb1) | (go_at_call 60; refine (Hy.out _ (btr hb0 hb1)).mono ?_; rintro en w4 ⟨A4, c4, rfl, ho4, hb4⟩))
    exact bodyPost_ret (v := .tuple #[.slice A4 ys.length c4, .bool true]) (by simp [results, Try.results21, go_sem]) rfl ⟨A4, c4, by rw [HR.out], by rw [HR.out]; exact own_base ho4 (btr hb0 hb1).size, btr hb0 (btr hb1 hb4)⟩
  · have HR := Lib.hid (HRE.out.trans (if_neg hm))
    have hm' : kindB p s = false := by simpa using hm
    rw [hm'] at Hv
    clear HRE hx hm hm'
    go_enter Try.func21, Try.ntmps21
    go_wp2_with (go_at_call 59; refine (Hv.out _ hb0).mono ?_; rintro en w1 ⟨rfl, hb1⟩)
    exact bodyPost_ret (v := .tuple #[.slice (some ⟨w1.heap.size, 0, none⟩) 0 0, .bool false]) (by simp [results, Try.results21, go_sem]) rfl ⟨some ⟨w1.heap.size, 0, none⟩, 0, by rw [HR.out]; rfl, by rw [HR.out]; exact own_lit (e := 3) (size := 1) (w := w1) #[] 0 (btr hb0 hb1).size (by unfold maxLen; omega) rfl, bnew (btr hb0 hb1) _⟩
set_option maxHeartbeats 8000000 in
set_option maxRecDepth 100000 in
theorem specBlocked_any (A : Option Addr) (c : Nat) (p : Prec) (s : Int) (w : World) (hn : p.over.length ≤ maxLen) (_ : p.over.length ≤ c) (hx : Rd w A (prCells p.over)) :
    Calls Try.prog 27 #[.agg #[.int .i64 p.kinds, .slice A p.over.length c], .int .i64 s] w fun en w' => ∃ A' c', en = .returned (.tuple #[.slice A' (blockedR p s).1.length c', .bool (blockedR p s).2]) ∧ w'.ownsRow w.heap.size 3 1 (.slice A' (blockedR p s).1.length c') (blockedR p s).1.length (intCells (blockedR p s).1) ∧ Below w.heap.size w w' := by
  obtain ⟨r, hr⟩ : ∃ r, r = blockedR p s := ⟨_, rfl⟩
  rw [← hr]
  have hb0 : Below w.heap.size w (w.alloc (.cells #[.int .i64 p.kinds, .slice A p.over.length c] 27)) := bnew (Below.refl _ _) _
  have m0 : (w.alloc (.cells #[.int .i64 p.kinds, .slice A p.over.length c] 27)).cell? ⟨w.heap.size, 0, none⟩ = some (.int .i64 p.kinds) := (World.cell?_alloc_at _ _ _ _ rfl).trans rfl
  have m1 : (w.alloc (.cells #[.int .i64 p.kinds, .slice A p.over.length c] 27)).cell? ⟨w.heap.size, 1, none⟩ = some (.slice A p.over.length c) := (World.cell?_alloc_at _ _ _ _ rfl).trans rfl
  have Hv : Hid (∀ w1, Below w.heap.size w w1 → Calls Try.prog 59 #[.agg #[.int .i64 p.kinds, .slice A p.over.length c], .int .i64 s] w1 fun e w' => e = .returned (.bool (kindB p s)) ∧ Below w1.heap.size w1 w') := fun w1 hb => l4Kind_any A c p s w1 hn (hx.below hb)
  unfold blockedR at hr
  have HRE := Lib.hid hr
  clear hr hn
  have hbE := bnew (Below.refl (w.alloc (.cells #[.int .i64 p.kinds, .slice A p.over.length c] 27)).heap.size (w.alloc (.cells #[.int .i64 p.kinds, .slice A p.over.length c] 27))) (.cells #[] 3)
  have m0e := cell_below' m0 hbE
  have m1e := cell_below' m1 hbE
  have ho00 := own_lit (e := 3) (size := 1) (B := (w.alloc (.cells #[.int .i64 p.kinds, .slice A p.over.length c] 27)).heap.size) (w := (w.alloc (.cells #[.int .i64 p.kinds, .slice A p.over.length c] 27))) #[] 0 (Nat.le_refl _) (by unfold maxLen; omega) rfl
  have hWS : (w.alloc (.cells #[.int .i64 p.kinds, .slice A p.over.length c] 27)).heap.size = w.heap.size + 1 := by simp
  by_cases hm : kindB p s = true
  · have HR := Lib.hid (HRE.out.trans (if_pos hm))
    rw [hm] at Hv
    obtain ⟨ks, xs⟩ := p
    simp only at hx Hv m0 m1 m0e m1e ho00 hbE hb0 hWS HR ⊢
    simp only [kindB, Bool.and_eq_true] at hm
    obtain ⟨hg, hki⟩ := hm
    obtain ⟨hk1, hk8, h16, hin, _⟩ := goodPc_in hg
    simp only at hk1 hk8 h16 hin
    obtain ⟨K, rfl⟩ : ∃ K : Nat, ks = (K : Int) := ⟨ks.toNat, by omega⟩
    simp only [Int.toNat_natCast] at hin
    have hKK : 1 ≤ K ∧ K ≤ 8 := ⟨by omega, by omega⟩
    have Hy : Hid (∀ w1, Below w.heap.size w w1 → _) := fun w1 hb => l4Reach_any A c K xs s w1 hKK h16 (hx.below hb) hin
    simp only [Int.toNat_natCast] at HR
    clear HRE hx hin hki
    have HHS : Hid (∀ k : Nat, k < K → hasK (selTo (reachB xs s) K) (k : Int) = reachB xs s k) := fun k hk => hasK_selTo hk
    have hyl := selTo_len (reachB xs s) K
    generalize selTo (reachB xs s) K = ys at *
    go_enter Try.func27, Try.ntmps27
    go_wp2_with (first | (go_at_call 59; refine (Hv.out _ (btr hb0 hbE)).mono ?_; rintro en w1 ⟨rfl, hb1⟩; have m0a := cell_below' m0e hb1; have m1a := cell_below' m1e hb1) | (go_at_call 60; refine (Hy.out _ (btr hb0 (btr hbE hb1))).mono ?_; rintro en w4 ⟨A4, c4, rfl, ho4, hb4⟩))
    have ho0 := own_below (own_below ho00 hb1) hb4
    have hb04 := btr (btr hbE hb1) hb4
    have hRT := own_rd ho4
    have HTb : Hid (∀ ad, A4 = some ad → ad.block < w4.heap.size ∧ w.heap.size + 1 < ad.block) := fun ad e => by
      have h := ho4.lt ad.block (by rw [e]; rfl)
      have h2 := hb1.size
      simp at h2
      exact ⟨h.2, by have := h.1; omega⟩
    have HT0 : Hid (∀ ad, A4 = some ad → some ad.block ≠ (Value.slice (some ⟨w.heap.size + 1, 0, none⟩) 0 0).ownBlock) := fun ad e h => by
      have := HTb.out ad e
      simp [Value.ownBlock] at h; omega
    clear hb1 hbE ho4 hb4 Hv Hy m0e m1e m0a m1a ho00 m1
    generalize (w.alloc (.cells #[.int .i64 (K : Int), .slice A xs.length c] 27)) = W0 at *
    rw [hWS] at ho0
    go_loopw [6, 8] (fun out i wr => ∃ k : Nat, ∃ (A' : Option Addr) (c' : Nat) (L : List Int), k ≤ K ∧ i = .int .i64 k ∧ out = .slice A' L.length c' ∧ Hid (selTo (blockP xs s) k = L) ∧ L.length ≤ k ∧ wr.ownsRow (w.heap.size + 1) 3 1 (.slice A' L.length c') L.length (intCells L) ∧ Rd wr A4 (intCells ys) ∧ Hid (∀ ad, A4 = some ad → some ad.block ≠ (Value.slice A' L.length c').ownBlock) ∧ w4.heap.size ≤ wr.heap.size ∧ Below W0.heap.size W0 wr) (fun _ i _ => K - (intOf i).toNat)
    case atStart => exact ⟨0, some ⟨w.heap.size + 1, 0, none⟩, 0, [], by omega, rfl, rfl, rfl, by simp, ho0, hRT, HT0, Nat.le_refl _, hb04⟩
    case round =>
      obtain ⟨k, A', c', L, hk, rfl, rfl, HP, hLk, ho, hT, HTn, hsz, hb⟩ := hrel
      clear ho0 hRT HT0 hb04
      have m0r := cell_below' m0 hb
      by_cases hlt : k < K
      · have hkI : (k : Int) < (K : Int) := by omega
        have HN := Lib.hid (selTo_at (blockP xs s) k)
        have HLH : Hid (∀ w1, Rd w1 A4 (intCells ys) → Calls Try.prog 62 #[.slice A4 ys.length c4, .int .i64 k] w1 fun e w' => e = .returned (.bool (reachB xs s k)) ∧ w1 = w') := fun w1 hr => by
          have := l1Has_any A4 c4 ys k w1 (by unfold maxLen; omega) hr
          rwa [show (ys.any fun y => y == (k : Int)) = reachB xs s k from HHS.out k hlt] at this
        have hTW := hT.alloc (.cells #[.int .i64 k] 3)
        have hszW : w4.heap.size ≤ (wr.alloc (.cells #[.int .i64 k] 3)).heap.size := by simp; omega
        have hbW := bnew hb (.cells #[.int .i64 k] 3)
        have hoW := own_below ho (bnew (Below.refl wr.heap.size wr) (.cells #[.int .i64 k] 3))
        have hrd : Rd (wr.alloc (.cells #[.int .i64 k] 3)) (some ⟨wr.heap.size, 0, none⟩) [.int .i64 k] := Rd.made
        rw [← hWS] at hoW
        by_cases hq : (k : Int) = s
        · have hq' : ((k : Int) != s) = false := by simp [hq]
          have Hpb : Hid (¬ blockP xs s k = true) := by show ¬ _; simp [blockP, hq]
          clear hq
          generalize reachB xs s k = u at *
          have HY : Hid (selTo (blockP xs s) (k + 1) = L) := HN.out.trans (by rw [if_neg Hpb.out, HP.out])
          clear HN HP hTW hszW hbW hoW hrd
          go_wp2_with (go_at_call 62; refine (HLH.out _ hT).mono ?_; rintro e w9 ⟨rfl, rfl⟩)
          go_roundw
          case rel => exact ⟨k + 1, A', c', L, by omega, by go_num, rfl, HY, by omega, ho, hT, HTn, hsz, hb⟩
          case measure => simp [intOf]; omega
        · have hq' : ((k : Int) != s) = true := by simp [hq]
          by_cases hu : reachB xs s k = true
          · rw [hu] at HLH
            have Hpb : Hid (¬ blockP xs s k = true) := by show ¬ _; simp [blockP, hu]
            clear hq hu
            have HY : Hid (selTo (blockP xs s) (k + 1) = L) := HN.out.trans (by rw [if_neg Hpb.out, HP.out])
            clear HN HP hTW hszW hbW hoW hrd
            go_wp2_with (go_at_call 62; refine (HLH.out _ hT).mono ?_; rintro e w9 ⟨rfl, rfl⟩)
            go_roundw
            case rel => exact ⟨k + 1, A', c', L, by omega, by go_num, rfl, HY, by omega, ho, hT, HTn, hsz, hb⟩
            case measure => simp [intOf]; omega
          · have hu' : reachB xs s k = false := by simpa using hu
            rw [hu'] at HLH
            have Hpb : Hid (blockP xs s k = true) := by show _ = _; simp [blockP, hu', hq]
            clear hq hu hu'
            have HY : Hid (selTo (blockP xs s) (k + 1) = L ++ [(k : Int)]) := HN.out.trans (by rw [if_pos Hpb.out, HP.out])
            clear HN HP
            go_wp2_with (first | (go_at_call 62; refine (HLH.out _ hT).mono ?_; rintro e w9 ⟨rfl, rfl⟩) | (at_builtin; refine wpl_app rfl (.tmp 33) (.tmp 35) 33 rfl el_Int (v := .slice A' L.length c') rfl hoW rfl rfl hrd (by simp [Value.oneCell']) (by unfold maxLen; omega) (by omega) hbW.size ?_; intro A1 c1 w5 ho1 hg1 hor; have hb3 : Below W0.heap.size W0 w5 := hbW.grown hg1 hbW.size (fun k hk => (hoW.lt k hk).1); have hT3 := hTW.grown hg1 HTn.out; have hsz3 := Nat.le_trans hszW hg1.size; have HOR := Lib.hid hor; clear hor hg1))
            have HT3 : Hid (∀ ad, A4 = some ad → some ad.block ≠ (Value.slice A1 (L ++ [(k : Int)]).length c1).ownBlock) := fun ad e => by
              have e2 : (Value.slice A1 (L ++ [(k : Int)]).length c1).ownBlock = (Value.slice A1 (L.length + 1) c1).ownBlock := by simp
              rw [e2]
              rcases HOR.out with h | h
              · rw [h]; exact HTn.out ad e
              · rw [h]; intro h2
                have := HTb.out ad e
                simp at h2; omega
            clear HOR hoW hTW hrd hbW hszW
            rw [hWS] at ho1
            go_roundw
            case rel => exact ⟨k + 1, A1, c1, L ++ [(k : Int)], by omega, by go_num, by simp, HY, by simp; omega, by (rw [intCells_append]; simpa [intCells] using ho1), hT3, HT3, hsz3, hb3⟩
            case measure => simp [intOf]; omega
      · have HF : Hid (L = selTo (blockP xs s) K) := by have := HP.out; rw [show k = K by omega] at this; exact this.symm
        clear HP
        go_wp2
        exact bodyPost_ret (v := .tuple #[.slice A' L.length c', .bool true]) (by simp [results, Try.results27, go_sem]) rfl ⟨A', c', by rw [HR.out, HF.out], by rw [HR.out, ← HF.out]; exact own_base ho (by omega), btr hb0 hb⟩
  · have HR := Lib.hid (HRE.out.trans (if_neg hm))
    have hm' : kindB p s = false := by simpa using hm
    rw [hm'] at Hv
    clear HRE hx hm hm'
    go_enter Try.func27, Try.ntmps27
    go_wp2_with (go_at_call 59; refine (Hv.out _ (btr hb0 hbE)).mono ?_; rintro en w1 ⟨rfl, hb1⟩)
    rw [hWS] at ho00
    exact bodyPost_ret (v := .tuple #[.slice (some ⟨w.heap.size + 1, 0, none⟩) 0 0, .bool false]) (by simp [results, Try.results27, go_sem]) rfl ⟨some ⟨w.heap.size + 1, 0, none⟩, 0, by rw [HR.out]; rfl, by rw [HR.out]; exact own_base (own_below ho00 hb1) (by omega), btr hb0 (btr hbE hb1)⟩
set_option maxHeartbeats 4000000 in
set_option maxRecDepth 100000 in
theorem isSound_any (A : Option Addr) (c K : Nat) (xs : List Pr) (w : World) (hKK : 1 ≤ K ∧ K ≤ 8) (hn : xs.length ≤ 16) (hx : Rd w A (prCells xs)) (hin : InK xs K) :
    Calls Try.prog 58 #[.agg #[.int .i64 K, .slice A xs.length c]] w fun e w' => e = .returned (.bool (soundB xs K)) ∧ Below w.heap.size w w' := by
  have hb0 : Below w.heap.size w (w.alloc (.cells #[.int .i64 K, .slice A xs.length c] 27)) := bnew (Below.refl _ _) _
  have m0 : (w.alloc (.cells #[.int .i64 K, .slice A xs.length c] 27)).cell? ⟨w.heap.size, 0, none⟩ = some (.int .i64 K) := (World.cell?_alloc_at _ _ _ _ rfl).trans rfl
  have m1 : (w.alloc (.cells #[.int .i64 K, .slice A xs.length c] 27)).cell? ⟨w.heap.size, 1, none⟩ = some (.slice A xs.length c) := (World.cell?_alloc_at _ _ _ _ rfl).trans rfl
  have hx0 := hx.below hb0
  have HSN : Hid (∀ k : Nat, k < K → reachB xs k k = true → soundB xs K = false) := fun k hk h => soundB_no hk h
  have HSY := Lib.hid (@soundB_yes xs K)
  have HIN := Lib.hid hin
  generalize soundB xs K = r at *
  clear hx hin
  go_enter Try.func58, Try.ntmps58
  go_wp2_with fail
  generalize w.alloc (.cells #[.int .i64 K, .slice A xs.length c] 27) = W0 at *
  go_loopw [6] (fun i wr => ∃ k : Nat, k ≤ K ∧ i = .int .i64 k ∧ Hid (∀ j : Nat, j < k → reachB xs j j = false) ∧ Below W0.heap.size W0 wr) (fun i _ => K - (intOf i).toNat)
  case atStart => exact ⟨0, by omega, rfl, by show ∀ j : Nat, j < 0 → _; intro j hj; omega, Below.refl _ _⟩
  case round =>
    obtain ⟨k, hk, rfl, H, hb⟩ := hrel
    have m0r := cell_below' m0 hb
    have m1r := cell_below' m1 hb
    by_cases hlt : k < K
    · have hkI : (k : Int) < (K : Int) := by omega
      have Hy := Lib.hid (yieldsTo_any A c K xs k wr hKK hn (hx0.below hb) HIN.out)
      have HG : Hid ((rowB (reachB xs k) K)[k]? = some (reachB xs k k)) := by show _ = _; rw [List.getElem?_eq_getElem (by rw [rowB_len]; exact hlt), rowB_get]
      have hRL := rowB_len (reachB xs k) K
      have HSNk := Lib.hid (HSN.out k hlt)
      have HSt : Hid (reachB xs k k = false → ∀ j : Nat, j < k + 1 → reachB xs j j = false) := fun h j hj => by
        by_cases e : j = k
        · subst e; exact h
        · exact H.out j (by omega)
      generalize rowB (reachB xs k) K = row at *
      generalize reachB xs k k = u at *
      clear H
      cases u with
      | true =>
        have HF := Lib.hid (HSNk.out rfl)
        clear HSNk HSt HSN HSY
        go_wp2_with (go_at_call 61; refine Hy.out.mono ?_; rintro en w4 ⟨A4, rfl, ho4, hb4⟩; obtain ⟨b4, off4, rfl, d4⟩ := Rd.bools (own_rd ho4) (by rw [hRL]; exact hlt); rw [show row[k] = _ from Option.some.inj ((List.getElem?_eq_getElem (by rw [hRL]; exact hlt)).symm.trans HG.out)] at d4)
        go_ret
        exact ⟨by rw [HF.out]; rfl, btr hb0 (btr hb hb4)⟩
      | false =>
        have HS2 := Lib.hid (HSt.out rfl)
        clear HSNk HSt HSN HSY
        go_wp2_with (go_at_call 61; refine Hy.out.mono ?_; rintro en w4 ⟨A4, rfl, ho4, hb4⟩; obtain ⟨b4, off4, rfl, d4⟩ := Rd.bools (own_rd ho4) (by rw [hRL]; exact hlt); rw [show row[k] = _ from Option.some.inj ((List.getElem?_eq_getElem (by rw [hRL]; exact hlt)).symm.trans HG.out)] at d4)
        go_roundw
        case rel => exact ⟨k + 1, by omega, by go_num, HS2, btr hb hb4⟩
        case measure => simp [intOf]; omega
    · have HF := Lib.hid (HSY.out (fun j hj => H.out j (by omega)))
      clear H HSN HSY
      go_wp2
      go_ret
      exact ⟨by rw [HF.out]; rfl, btr hb0 hb⟩
set_option maxHeartbeats 4000000 in
set_option maxRecDepth 100000 in
theorem l4Sound_any (A : Option Addr) (c K : Nat) (xs : List Pr) (w : World) (hKK : 1 ≤ K ∧ K ≤ 8) (hn : xs.length ≤ 16) (hx : Rd w A (prCells xs)) (hin : InK xs K) :
    Calls Try.prog 57 #[.agg #[.int .i64 K, .slice A xs.length c]] w fun e w' => e = .returned (.bool (soundB xs K)) ∧ Below w.heap.size w w' := by
  have hb0 : Below w.heap.size w (w.alloc (.cells #[.int .i64 K, .slice A xs.length c] 27)) := bnew (Below.refl _ _) _
  have m0 : (w.alloc (.cells #[.int .i64 K, .slice A xs.length c] 27)).cell? ⟨w.heap.size, 0, none⟩ = some (.int .i64 K) := (World.cell?_alloc_at _ _ _ _ rfl).trans rfl
  have m1 : (w.alloc (.cells #[.int .i64 K, .slice A xs.length c] 27)).cell? ⟨w.heap.size, 1, none⟩ = some (.slice A xs.length c) := (World.cell?_alloc_at _ _ _ _ rfl).trans rfl
  have hx0 := hx.below hb0
  have HSN : Hid (∀ k : Nat, k < K → reachB xs k k = true → soundB xs K = false) := fun k hk h => soundB_no hk h
  have HSY := Lib.hid (@soundB_yes xs K)
  have HIN := Lib.hid hin
  generalize soundB xs K = r at *
  clear hx hin
  go_enter Try.func57, Try.ntmps57
  go_wp2_with fail
  generalize w.alloc (.cells #[.int .i64 K, .slice A xs.length c] 27) = W0 at *
  go_loopw [3] (fun i wr => ∃ k : Nat, k ≤ K ∧ i = .int .i64 k ∧ Hid (∀ j : Nat, j < k → reachB xs j j = false) ∧ Below W0.heap.size W0 wr) (fun i _ => K - (intOf i).toNat)
  case atStart => exact ⟨0, by omega, rfl, by show ∀ j : Nat, j < 0 → _; intro j hj; omega, Below.refl _ _⟩
  case round =>
    obtain ⟨k, hk, rfl, H, hb⟩ := hrel
    have m0r := cell_below' m0 hb
    have m1r := cell_below' m1 hb
    by_cases hlt : k < K
    · have hkI : (k : Int) < (K : Int) := by omega
      have Hy := Lib.hid (l4Reach_any A c K xs k wr hKK hn (hx0.below hb) HIN.out)
      have HG : Hid (hasK (selTo (reachB xs k) K) (k : Int) = reachB xs k k) := hasK_selTo hlt
      have hRL := selTo_len (reachB xs k) K
      have HSNk := Lib.hid (HSN.out k hlt)
      have HSt : Hid (reachB xs k k = false → ∀ j : Nat, j < k + 1 → reachB xs j j = false) := fun h j hj => by
        by_cases e : j = k
        · subst e; exact h
        · exact H.out j (by omega)
      generalize selTo (reachB xs k) K = row at *
      generalize reachB xs k k = u at *
      clear H
      cases u with
      | true =>
        have HF := Lib.hid (HSNk.out rfl)
        clear HSNk HSt HSN HSY
        go_wp2_with (first | (go_at_call 60; refine Hy.out.mono ?_; rintro en w4 ⟨A4, c4, rfl, ho4, hb4⟩) | (go_at_call 62; refine (l1Has_any A4 c4 row k _ (by unfold maxLen; omega) (own_rd ho4)).mono ?_; rintro en w5 ⟨rfl, rfl⟩; rw [show (row.any fun y => y == (k : Int)) = _ from HG.out]))
        go_ret
        exact ⟨by rw [HF.out]; rfl, btr hb0 (btr hb hb4)⟩
      | false =>
        have HS2 := Lib.hid (HSt.out rfl)
        clear HSNk HSt HSN HSY
        go_wp2_with (first | (go_at_call 60; refine Hy.out.mono ?_; rintro en w4 ⟨A4, c4, rfl, ho4, hb4⟩) | (go_at_call 62; refine (l1Has_any A4 c4 row k _ (by unfold maxLen; omega) (own_rd ho4)).mono ?_; rintro en w5 ⟨rfl, rfl⟩; rw [show (row.any fun y => y == (k : Int)) = _ from HG.out]))
        go_roundw
        case rel => exact ⟨k + 1, by omega, by go_num, HS2, btr hb hb4⟩
        case measure => simp [intOf]; omega
    · have HF := Lib.hid (HSY.out (fun j hj => H.out j (by omega)))
      clear H HSN HSY
      go_wp2
      go_ret
      exact ⟨by rw [HF.out]; rfl, btr hb0 hb⟩
set_option maxHeartbeats 2000000 in
theorem IsSound_any (A : Option Addr) (c : Nat) (p : Prec) (w : World) (hn : p.over.length ≤ maxLen) (_ : p.over.length ≤ c) (hx : Rd w A (prCells p.over)) :
    Calls Try.prog 20 #[.agg #[.int .i64 p.kinds, .slice A p.over.length c]] w fun e w' => e = .returned (.tuple #[.bool (soundR p).1, .bool (soundR p).2]) ∧ Below w.heap.size w w' := by
  have hb0 : Below w.heap.size w (w.alloc (.cells #[.int .i64 p.kinds, .slice A p.over.length c] 27)) := bnew (Below.refl _ _) _
  have m0 : (w.alloc (.cells #[.int .i64 p.kinds, .slice A p.over.length c] 27)).cell? ⟨w.heap.size, 0, none⟩ = some (.int .i64 p.kinds) := (World.cell?_alloc_at _ _ _ _ rfl).trans rfl
  have m1 : (w.alloc (.cells #[.int .i64 p.kinds, .slice A p.over.length c] 27)).cell? ⟨w.heap.size, 1, none⟩ = some (.slice A p.over.length c) := (World.cell?_alloc_at _ _ _ _ rfl).trans rfl
  have Hv := Lib.hid (isPrec_any A c p (w.alloc (.cells #[.int .i64 p.kinds, .slice A p.over.length c] 27)) hn (hx.below hb0))
  obtain ⟨r, hr⟩ : ∃ r, r = soundR p := ⟨_, rfl⟩
  rw [← hr]
  unfold soundR at hr
  have HRE := Lib.hid hr
  clear hr
  by_cases hg : goodPc p = true
  · have HR := Lib.hid (HRE.out.trans (if_pos hg))
    rw [hg] at Hv
    obtain ⟨hk1, hk8, h16, hin, _⟩ := goodPc_in hg
    obtain ⟨ks, xs⟩ := p
    simp only at hk1 hk8 h16 hin hx Hv m0 m1 HR ⊢
    obtain ⟨K, rfl⟩ : ∃ K : Nat, ks = (K : Int) := ⟨ks.toNat, by omega⟩
    simp only [Int.toNat_natCast] at hin HR
    have Hs : Hid (∀ w1, Below w.heap.size w w1 → _) := fun w1 hb => isSound_any A c K xs w1 ⟨by omega, by omega⟩ h16 (hx.below hb) hin
    clear HRE hx hin hg
    generalize soundB xs K = u at *
    go_enter Try.func20, Try.ntmps20
    go_wp2_with (first | (go_at_call 17; refine Hv.out.mono ?_; rintro e w1 ⟨rfl, hb1⟩; have m0a := cell_below' m0 hb1; have m1a := cell_below' m1 hb1) | (go_at_call 58; refine (Hs.out _ (btr hb0 hb1)).mono ?_; rintro e w2 ⟨rfl, hb2⟩))
    exact bodyPost_ret (v := .tuple #[.bool u, .bool true]) (by simp [results, Try.results20, go_sem]) rfl ⟨by rw [HR.out], btr hb0 (btr hb1 hb2)⟩
  · have HR := Lib.hid (HRE.out.trans (if_neg hg))
    have hg' : goodPc p = false := by simpa using hg
    rw [hg'] at Hv
    clear HRE hx hg hg'
    go_enter Try.func20, Try.ntmps20
    go_wp2_with (go_at_call 17; refine Hv.out.mono ?_; rintro e w1 ⟨rfl, hb1⟩)
    exact bodyPost_ret (v := .tuple #[.bool false, .bool false]) (by simp [results, Try.results20, go_sem]) rfl ⟨by rw [HR.out], btr hb0 hb1⟩
set_option maxHeartbeats 2000000 in
theorem specIsSound_any (A : Option Addr) (c : Nat) (p : Prec) (w : World) (hn : p.over.length ≤ maxLen) (_ : p.over.length ≤ c) (hx : Rd w A (prCells p.over)) :
    Calls Try.prog 19 #[.agg #[.int .i64 p.kinds, .slice A p.over.length c]] w fun e w' => e = .returned (.tuple #[.bool (soundR p).1, .bool (soundR p).2]) ∧ Below w.heap.size w w' := by
  have hb0 : Below w.heap.size w (w.alloc (.cells #[.int .i64 p.kinds, .slice A p.over.length c] 27)) := bnew (Below.refl _ _) _
  have m0 : (w.alloc (.cells #[.int .i64 p.kinds, .slice A p.over.length c] 27)).cell? ⟨w.heap.size, 0, none⟩ = some (.int .i64 p.kinds) := (World.cell?_alloc_at _ _ _ _ rfl).trans rfl
  have m1 : (w.alloc (.cells #[.int .i64 p.kinds, .slice A p.over.length c] 27)).cell? ⟨w.heap.size, 1, none⟩ = some (.slice A p.over.length c) := (World.cell?_alloc_at _ _ _ _ rfl).trans rfl
  have Hv := Lib.hid (l4Good_any A c p (w.alloc (.cells #[.int .i64 p.kinds, .slice A p.over.length c] 27)) hn (hx.below hb0))
  obtain ⟨r, hr⟩ : ∃ r, r = soundR p := ⟨_, rfl⟩
  rw [← hr]
  unfold soundR at hr
  have HRE := Lib.hid hr
  clear hr
  by_cases hg : goodPc p = true
  · have HR := Lib.hid (HRE.out.trans (if_pos hg))
    rw [hg] at Hv
    obtain ⟨hk1, hk8, h16, hin, _⟩ := goodPc_in hg
    obtain ⟨ks, xs⟩ := p
    simp only at hk1 hk8 h16 hin hx Hv m0 m1 HR ⊢
    obtain ⟨K, rfl⟩ : ∃ K : Nat, ks = (K : Int) := ⟨ks.toNat, by omega⟩
    simp only [Int.toNat_natCast] at hin HR
    have Hs : Hid (∀ w1, Below w.heap.size w w1 → _) := fun w1 hb => l4Sound_any A c K xs w1 ⟨by omega, by omega⟩ h16 (hx.below hb) hin
    clear HRE hx hin hg
    generalize soundB xs K = u at *
    go_enter Try.func19, Try.ntmps19
    go_wp2_with (first | (go_at_call 52; refine Hv.out.mono ?_; rintro e w1 ⟨rfl, hb1⟩; have m0a := cell_below' m0 hb1; have m1a := cell_below' m1 hb1) | (go_at_call 57; refine (Hs.out _ (btr hb0 hb1)).mono ?_; rintro e w2 ⟨rfl, hb2⟩))
    exact bodyPost_ret (v := .tuple #[.bool u, .bool true]) (by simp [results, Try.results19, go_sem]) rfl ⟨by rw [HR.out], btr hb0 (btr hb1 hb2)⟩
  · have HR := Lib.hid (HRE.out.trans (if_neg hg))
    have hg' : goodPc p = false := by simpa using hg
    rw [hg'] at Hv
    clear HRE hx hg hg'
    go_enter Try.func19, Try.ntmps19
    go_wp2_with (go_at_call 52; refine Hv.out.mono ?_; rintro e w1 ⟨rfl, hb1⟩)
    exact bodyPost_ret (v := .tuple #[.bool false, .bool false]) (by simp [results, Try.results19, go_sem]) rfl ⟨by rw [HR.out], btr hb0 hb1⟩
end Go.Proofs.Ytdbcbaahjhaonaa
