/-
  Contracts of RanksOf. Conditions: lengths within Go's range.
-/
import Derived.Test.YtdbcbaahjhaonaaReach3
namespace Go.My
open Go.RowKit
def okB (p : Prec) : Bool := goodPc p && soundB p.over p.kinds.toNat
def ranksR (p : Prec) : List Int × Bool := if okB p = true then (ranksL p.over p.kinds.toNat, true) else ([], false)
theorem ranksL_succ (f : Int → Int) (n : Nat) : (List.range (n + 1)).map (fun (k : Nat) => f k) = (List.range n).map (fun (k : Nat) => f k) ++ [f n] := by
  rw [List.range_succ, List.map_append]; rfl
/-- What the reference's list of ranks keeps behind i pairs of a round. -/
structure Relax (xs : List Pr) (K step i : Nat) (out : List Int) : Prop where
  len : out.length = K
  up : ∀ (k : Nat) (h : k < out.length), out[k] ≤ rankB xs K k
  lo : ∀ (k : Nat) (h : k < out.length), rankB xs step k ≤ out[k]
  lo2 : ∀ (k : Nat) (h : k < out.length), rankFold (rankB xs step) k (xs.take i) 0 ≤ out[k]
theorem relax_start (xs : List Pr) (K : Nat) : Relax xs K 0 0 (List.replicate K 0) where
  len := by simp
  up := by intro k h; rw [List.getElem_replicate]; exact (rankB_le xs K k).1
  lo := by intro k h; rw [List.getElem_replicate]; exact Int.le_refl _
  lo2 := by intro k h; rw [List.getElem_replicate]; exact Int.le_refl _
theorem relax_next {xs : List Pr} {K step : Nat} {out : List Int} (h : Relax xs K step xs.length out) : Relax xs K (step + 1) 0 out where
  len := h.len
  up := h.up
  lo := by
    intro k hk
    have := h.lo2 k hk
    rwa [List.take_length, ← rankB_succ] at this
  lo2 := by
    intro k hk
    have := h.lo k hk
    have h2 := (rankB_le xs step k).1
    exact Int.le_trans h2 this
theorem relax_put {xs : List Pr} {K step i : Nat} {out : List Int} (h : Relax xs K step i out) (hin : InK xs K) (ha : Acyc xs) (hK : 1 ≤ K) (hi : i < xs.length) {na nb : Nat} (ea : xs[i].a = na) (eb : xs[i].b = nb) (hna : na < out.length) (hnb : nb < out.length) :
    Relax xs K step (i + 1) (out.set nb (max out[nb] (out[na] + 1))) where
  len := by rw [List.length_set]; exact h.len
  up := by
    intro k hk
    rw [List.getElem_set]
    split
    · rename_i e
      subst e
      have h1 := h.up nb hnb
      have h2 := h.up na hna
      have h3 := rankB_edge hin ha hK (List.getElem_mem hi)
      rw [ea, eb] at h3
      omega
    · exact h.up k _
  lo := by
    intro k hk
    rw [List.getElem_set]
    split
    · rename_i e
      subst e
      have := h.lo nb hnb
      omega
    · exact h.lo k _
  lo2 := by
    intro k hk
    rw [List.take_succ_eq_append_getElem hi, rankFold_snoc, List.getElem_set]
    by_cases e : nb = k
    · subst e
      rw [if_pos eb, if_pos rfl, ea]
      have h1 := h.lo2 nb hnb
      have h2 := h.lo na hna
      omega
    · rw [if_neg (by rw [eb]; omega), if_neg e]
      exact h.lo2 k _
theorem relax_end {xs : List Pr} {K i : Nat} {out : List Int} (h : Relax xs K K i out) : out = ranksL xs K := by
  apply List.ext_getElem (by rw [h.len, ranksL_len])
  intro k h1 h2
  have a := h.up k h1
  have b := h.lo k h1
  simp only [ranksL, List.getElem_map, List.getElem_range]
  omega
theorem relax_in {xs : List Pr} {K step i : Nat} {out : List Int} (h : Relax xs K step i out) {k : Nat} (hk : k < out.length) : 0 ≤ out[k] ∧ out[k] ≤ K := by
  have a := h.up k hk
  have b := h.lo k hk
  have c := (rankB_le xs step k).1
  have d := (rankB_le xs K k).2
  omega
theorem zeros_cells (n : Nat) : List.replicate n (Value.int .i64 0) = intCells (List.replicate n 0) := by simp [intCells]
theorem intCells_set (xs : List Int) (k : Nat) (v : Int) : (intCells xs).set k (.int .i64 v) = intCells (xs.set k v) := by simp [intCells, List.map_set]
end Go.My
namespace Go.Proofs.Ytdbcbaahjhaonaa
open Go.RowKit Go.My
set_option maxHeartbeats 4000000 in
set_option maxRecDepth 100000 in
theorem rankOf_step (A : Option Addr) (c K : Nat) (xs : List Pr) (k : Int) (g : Int → Int) (w : World) (hn : xs.length ≤ 16) (hx : Rd w A (prCells xs)) (hg : ∀ x ∈ xs, 0 ≤ g x.a ∧ g x.a ≤ 20)
    (hrec : ∀ x ∈ xs, x.b = k → ∀ w1, Below w.heap.size w w1 → Calls Try.prog 74 #[.agg #[.int .i64 K, .slice A xs.length c], .int .i64 x.a] w1 fun e w' => e = .returned (.int .i64 (g x.a)) ∧ Below w1.heap.size w1 w') :
    Calls Try.prog 74 #[.agg #[.int .i64 K, .slice A xs.length c], .int .i64 k] w fun e w' => e = .returned (.int .i64 (rankFold g k xs 0)) ∧ Below w.heap.size w w' := by
  have hb0 : Below w.heap.size w (w.alloc (.cells #[.int .i64 K, .slice A xs.length c] 27)) := bnew (Below.refl _ _) _
  have m0 : (w.alloc (.cells #[.int .i64 K, .slice A xs.length c] 27)).cell? ⟨w.heap.size, 0, none⟩ = some (.int .i64 K) := (World.cell?_alloc_at _ _ _ _ rfl).trans rfl
  have m1 : (w.alloc (.cells #[.int .i64 K, .slice A xs.length c] 27)).cell? ⟨w.heap.size, 1, none⟩ = some (.slice A xs.length c) := (World.cell?_alloc_at _ _ _ _ rfl).trans rfl
  have hx0 := hx.below hb0
  have HG := Lib.hid hg
  have HR := Lib.hid hrec
  clear hx hg hrec
  go_enter Try.func74, Try.ntmps74
  go_wp2_with fail
  generalize w.alloc (.cells #[.int .i64 K, .slice A xs.length c] 27) = W0 at *
  go_loopw [5, 11] (fun q i wr => ∃ j : Nat, ∃ r : Int, j ≤ xs.length ∧ i = .int .i64 j ∧ q = .int .i64 r ∧ Hid (rankFold g k (xs.take j) 0 = r) ∧ 0 ≤ r ∧ r ≤ 30 ∧ Below W0.heap.size W0 wr) (fun _ i _ => xs.length - (intOf i).toNat)
  case atStart => exact ⟨0, 0, by omega, rfl, rfl, rfl, by omega, by omega, Below.refl _ _⟩
  case round =>
    obtain ⟨j, r, hj, rfl, rfl, H, hr0, hr1, hb⟩ := hrel
    have m0r := cell_below' m0 hb
    have m1r := cell_below' m1 hb
    by_cases hjl : j < xs.length
    · obtain ⟨b, off, rfl, c0, c1⟩ := Rd.pr (hx0.below hb) hjl
      have HN : Hid (rankFold g k (xs.take (j + 1)) 0 = if xs[j].b = k then max r (g xs[j].a + 1) else r) := by show _ = _; rw [List.take_succ_eq_append_getElem hjl, rankFold_snoc, H.out]
      have hgx := HG.out xs[j] (List.getElem_mem hjl)
      have HRx := Lib.hid (HR.out xs[j] (List.getElem_mem hjl))
      generalize xs[j] = x at *
      have hbw := bnew (Below.refl wr.heap.size wr) (.cells #[.int .i64 x.a, .int .i64 x.b] 52)
      have n0 : (wr.alloc (.cells #[.int .i64 x.a, .int .i64 x.b] 52)).cell? ⟨wr.heap.size, 0, none⟩ = some (.int .i64 x.a) := (World.cell?_alloc_at _ _ _ _ rfl).trans rfl
      have n1 : (wr.alloc (.cells #[.int .i64 x.a, .int .i64 x.b] 52)).cell? ⟨wr.heap.size, 1, none⟩ = some (.int .i64 x.b) := (World.cell?_alloc_at _ _ _ _ rfl).trans rfl
      have hbn := btr hb hbw
      have m0n := cell_below' m0r hbw
      have m1n := cell_below' m1r hbw
      have hjI : (j : Int) < (xs.length : Int) := by omega
      clear H hbw
      by_cases hk : x.b = k
      · have HN2 := Lib.hid (HN.out.trans (if_pos hk))
        have HC := Lib.hid (HRx.out hk _ (btr hb0 hbn))
        have hk' : (x.b == k) = true := by simp [hk]
        clear HN HRx hk
        generalize g x.a = v at *
        have hw : IntKind.i64.wrap (v + 1) = v + 1 := by rw [IntKind.wrap_i64]; omega
        go_wp2_with (go_at_call 74; refine HC.out.mono ?_; rintro e w2 ⟨rfl, hb2⟩)
        all_goals
          have hb3 := btr hbn hb2
          go_roundw
          case rel => exact ⟨j + 1, max r (v + 1), by omega, by go_num, by first | rfl | (congr 1; omega), HN2, by omega, by omega, hb3⟩
          case measure => simp [intOf]; omega
      · have HN2 := Lib.hid (HN.out.trans (if_neg hk))
        have hk' : (x.b == k) = false := by simp [hk]
        clear HN HRx hk
        go_wp2
        go_roundw
        case rel => exact ⟨j + 1, r, by omega, by go_num, rfl, HN2, hr0, hr1, hbn⟩
        case measure => simp [intOf]; omega
    · have HF : Hid (rankFold g k xs 0 = r) := by have := H.out; rwa [List.take_of_length_le (by omega)] at this
      clear H
      go_wp2
      go_ret
      exact ⟨by rw [HF.out]; rfl, btr hb0 hb⟩
theorem rankOf_any (A : Option Addr) (c K : Nat) (xs : List Pr) (hn : xs.length ≤ 16) : ∀ (f : Nat) (_ : f ≤ 10) (k : Int) (w : World) (_ : Rd w A (prCells xs)) (_ : Up xs f k),
    Calls Try.prog 74 #[.agg #[.int .i64 K, .slice A xs.length c], .int .i64 k] w fun e w' => e = .returned (.int .i64 (rankB xs (f + 1) k)) ∧ Below w.heap.size w w'
  | 0, _, k, w, hx, hu => by
    rw [rankB_succ]
    exact rankOf_step A c K xs k (rankB xs 0) w hn hx (fun x _ => by simp [rankB]) (fun x hm e => absurd e (hu x hm))
  | f + 1, hf, k, w, hx, hu => by
    rw [rankB_succ]
    exact rankOf_step A c K xs k (rankB xs (f + 1)) w hn hx (fun x _ => by have := rankB_le xs (f + 1) x.a; omega) (fun x hm e w1 hb => rankOf_any A c K xs hn f (by omega) x.a w1 (hx.below hb) (hu x hm e))
set_option maxHeartbeats 8000000 in
set_option maxRecDepth 100000 in
theorem ranksOf_any (A : Option Addr) (c : Nat) (p : Prec) (w : World) (hn : p.over.length ≤ maxLen) (_ : p.over.length ≤ c) (hx : Rd w A (prCells p.over)) :
    Calls Try.prog 37 #[.agg #[.int .i64 p.kinds, .slice A p.over.length c]] w fun en w' => ∃ A' c', en = .returned (.tuple #[.slice A' (ranksR p).1.length c', .bool (ranksR p).2]) ∧ w'.ownsRow w.heap.size 3 1 (.slice A' (ranksR p).1.length c') (ranksR p).1.length (intCells (ranksR p).1) ∧ Below w.heap.size w w' := by
  obtain ⟨r, hr⟩ : ∃ r, r = ranksR p := ⟨_, rfl⟩
  rw [← hr]
  have hb0 : Below w.heap.size w (w.alloc (.cells #[.int .i64 p.kinds, .slice A p.over.length c] 27)) := bnew (Below.refl _ _) _
  have m0 : (w.alloc (.cells #[.int .i64 p.kinds, .slice A p.over.length c] 27)).cell? ⟨w.heap.size, 0, none⟩ = some (.int .i64 p.kinds) := (World.cell?_alloc_at _ _ _ _ rfl).trans rfl
  have m1 : (w.alloc (.cells #[.int .i64 p.kinds, .slice A p.over.length c] 27)).cell? ⟨w.heap.size, 1, none⟩ = some (.slice A p.over.length c) := (World.cell?_alloc_at _ _ _ _ rfl).trans rfl
  have Hv : Hid (∀ w1, Below w.heap.size w w1 → Calls Try.prog 17 #[.agg #[.int .i64 p.kinds, .slice A p.over.length c]] w1 fun e w' => e = .returned (.bool (goodPc p)) ∧ Below w1.heap.size w1 w') := fun w1 hb => isPrec_any A c p w1 hn (hx.below hb)
  have Hs : Hid (goodPc p = true → ∀ w1, Below w.heap.size w w1 → Calls Try.prog 58 #[.agg #[.int .i64 p.kinds, .slice A p.over.length c]] w1 fun e w' => e = .returned (.bool (soundB p.over p.kinds.toNat)) ∧ Below w1.heap.size w1 w') := fun hg w1 hb => by
    obtain ⟨hk1, hk8, h16, hin, _⟩ := goodPc_in hg
    have := isSound_any A c p.kinds.toNat p.over w1 ⟨by omega, by omega⟩ h16 (hx.below hb) hin
    rwa [show ((p.kinds.toNat : Nat) : Int) = p.kinds by omega] at this
  unfold ranksR at hr
  have HRE := Lib.hid hr
  clear hr hn
  by_cases hm : okB p = true
  · have HR := Lib.hid (HRE.out.trans (if_pos hm))
    have Hs2 := Lib.hid (Hs.out (by simp only [okB, Bool.and_eq_true] at hm; exact hm.1))
    obtain ⟨ks, xs⟩ := p
    simp only at hx Hv Hs2 m0 m1 HR ⊢
    simp only [okB, Bool.and_eq_true] at hm
    obtain ⟨hg, hso⟩ := hm
    obtain ⟨hk1, hk8, h16, hin, _⟩ := goodPc_in hg
    simp only at hk1 hk8 h16 hin hso
    obtain ⟨K, rfl⟩ : ∃ K : Nat, ks = (K : Int) := ⟨ks.toNat, by omega⟩
    simp only [Int.toNat_natCast] at hin hso
    have hKK : 1 ≤ K ∧ K ≤ 8 := ⟨by omega, by omega⟩
    have hac := soundB_acyc hin hso
    simp only [Int.toNat_natCast] at HR Hs2
    rw [hg] at Hv
    rw [hso] at Hs2
    have Hk : Hid (∀ k : Nat, k < K → ∀ w1, Below w.heap.size w w1 → Calls Try.prog 74 #[.agg #[.int .i64 K, .slice A xs.length c], .int .i64 k] w1 fun e w' => e = .returned (.int .i64 (rankB xs K k)) ∧ Below w1.heap.size w1 w') := fun k hk w1 hb => by
      have := rankOf_any A c K xs h16 (K - 1) (by omega) k w1 (hx.below hb) (up_all hin hac hKK.1 ⟨by omega, by omega⟩)
      rwa [show K - 1 + 1 = K by omega] at this
    clear HRE hx hin hac hg hso Hs
    go_enter Try.func37, Try.ntmps37
    go_wp2_with (first | (go_at_call 17; refine (Hv.out _ hb0).mono ?_; rintro en w1 ⟨rfl, hb1⟩; have m0a := cell_below' m0 hb1; have m1a := cell_below' m1 hb1) | (go_at_call 58; refine (Hs2.out _ (btr hb0 hb1)).mono ?_; rintro en w2 ⟨rfl, hb2⟩; have hb02 := btr hb1 hb2; have m0b := cell_below' m0a (btr hb2 (bnew (Below.refl w2.heap.size w2) (.cells #[] 3)))))
    have hWS : (w.alloc (.cells #[.int .i64 (K : Int), .slice A xs.length c] 27)).heap.size = w.heap.size + 1 := by simp
    have hbE := bnew hb02 (.cells #[] 3)
    generalize w.alloc (.cells #[.int .i64 (K : Int), .slice A xs.length c] 27) = W0 at *
    have ho0 := own_lit (e := 3) (size := 1) (B := W0.heap.size) (w := w2) #[] 0 hb02.size (by unfold maxLen; omega) rfl
    clear hb1 hb2 hb02 Hv Hs2 m0a m1a m0b
    go_loopw [4, 17] (fun out i wr => ∃ k : Nat, ∃ (A' : Option Addr) (c' : Nat) (L : List Int), k ≤ K ∧ i = .int .i64 k ∧ out = .slice A' L.length c' ∧ Hid ((List.range k).map (fun (j : Nat) => rankB xs K j) = L) ∧ L.length = k ∧ wr.ownsRow W0.heap.size 3 1 (.slice A' L.length c') L.length (intCells L) ∧ Below W0.heap.size W0 wr) (fun _ i _ => K - (intOf i).toNat)
    case atStart => exact ⟨0, some ⟨w2.heap.size, 0, none⟩, 0, [], by omega, rfl, rfl, rfl, rfl, ho0, hbE⟩
    case round =>
      obtain ⟨k, A', c', L, hk, rfl, rfl, HP, hLk, ho, hb⟩ := hrel
      clear ho0 hbE
      have m0r := cell_below' m0 hb
      have m1r := cell_below' m1 hb
      by_cases hlt : k < K
      · have hkI : (k : Int) < (K : Int) := by omega
        have HN : Hid ((List.range (k + 1)).map (fun (j : Nat) => rankB xs K j) = L ++ [rankB xs K k]) := (ranksL_succ (rankB xs K) k).trans (by rw [HP.out])
        have Hkk := Lib.hid (Hk.out k hlt)
        generalize rankB xs K k = v at *
        have HLk := Lib.hid hLk
        have hLk' : L.length ≤ k := by omega
        clear HP hLk
        go_wp2_with (first | (go_at_call 74; refine (Hkk.out _ (btr hb0 hb)).mono ?_; rintro e w3 ⟨rfl, hb3⟩; have hb4 := bnew (btr hb hb3) (.cells #[.int .i64 v] 3); have ho4 := own_below ho (btr hb3 (bnew (Below.refl w3.heap.size w3) (.cells #[.int .i64 v] 3))); have hrd : Rd (w3.alloc (.cells #[.int .i64 v] 3)) (some ⟨w3.heap.size, 0, none⟩) [.int .i64 v] := Rd.made) | (at_builtin; go_must (refine wpl_app rfl (.tmp 20) (.tmp 24) 33 rfl el_Int (v := .slice A' L.length c') rfl ho4 rfl rfl hrd (by simp [Value.oneCell']) (by unfold maxLen; omega) (by omega) hb4.size ?_); intro A1 c1 w5 ho1 hg1 hor; have hb5 : Below W0.heap.size W0 w5 := hb4.grown hg1 hb4.size (fun k hk => (ho4.lt k hk).1); clear hor hg1))
        clear ho4 hb4 hrd
        go_roundw
        case rel => exact ⟨k + 1, A1, c1, L ++ [v], by omega, by go_num, by simp, HN, (by have := HLk.out; simp; omega), by (rw [intCells_append]; simpa [intCells] using ho1), hb5⟩
        case measure => simp [intOf]; omega
      · have HF : Hid (L = ranksL xs K) := by have := HP.out; rw [show k = K by omega] at this; exact this.symm
        clear HP
        go_wp2
        exact bodyPost_ret (v := .tuple #[.slice A' L.length c', .bool true]) (by simp [results, Try.results37, go_sem]) rfl ⟨A', c', by rw [HR.out, HF.out], by rw [HR.out, ← HF.out]; exact own_base ho (by omega), btr hb0 hb⟩
  · have HR := Lib.hid (HRE.out.trans (if_neg hm))
    by_cases hg : goodPc p = true
    · have hso : soundB p.over p.kinds.toNat = false := by
        have : ¬ (soundB p.over p.kinds.toNat = true) := fun h => hm (by simp only [okB]; rw [hg, h]; rfl)
        simpa using this
      have Hs2 := Lib.hid (Hs.out hg)
      rw [hg] at Hv
      rw [hso] at Hs2
      clear HRE hx hm hg hso Hs
      go_enter Try.func37, Try.ntmps37
      go_wp2_with (first | (go_at_call 17; refine (Hv.out _ hb0).mono ?_; rintro en w1 ⟨rfl, hb1⟩; have m0a := cell_below' m0 hb1; have m1a := cell_below' m1 hb1) | (go_at_call 58; refine (Hs2.out _ (btr hb0 hb1)).mono ?_; rintro en w2 ⟨rfl, hb2⟩))
      have hbz := btr hb0 (btr hb1 hb2)
      have wz := w2
      exact bodyPost_ret (v := .tuple #[.slice none 0 0, .bool false]) (by simp [results, Try.results37, go_sem]) rfl ⟨none, 0, by rw [HR.out]; rfl, by rw [HR.out]; exact own_nil, hbz⟩
    · have hg' : goodPc p = false := by simpa using hg
      rw [hg'] at Hv
      clear HRE hx hm hg hg' Hs
      go_enter Try.func37, Try.ntmps37
      go_wp2_with (go_at_call 17; refine (Hv.out _ hb0).mono ?_; rintro en w1 ⟨rfl, hb1⟩)
      have hbz := btr hb0 hb1
      exact bodyPost_ret (v := .tuple #[.slice none 0 0, .bool false]) (by simp [results, Try.results37, go_sem]) rfl ⟨none, 0, by rw [HR.out]; rfl, by rw [HR.out]; exact own_nil, hbz⟩
theorem zi_Int : (Try.prog.info? 3).map (fun i => (i.zero, i.size, i.bytes)) = some (some (.int .i64 0), 1, 8) := by kernel_rfl
set_option maxHeartbeats 8000000 in
set_option maxRecDepth 100000 in
theorem specRanksOf_any (A : Option Addr) (c : Nat) (p : Prec) (w : World) (hn : p.over.length ≤ maxLen) (_ : p.over.length ≤ c) (hx : Rd w A (prCells p.over)) :
    Calls Try.prog 36 #[.agg #[.int .i64 p.kinds, .slice A p.over.length c]] w fun en w' => ∃ A' c', en = .returned (.tuple #[.slice A' (ranksR p).1.length c', .bool (ranksR p).2]) ∧ w'.ownsRow w.heap.size 3 1 (.slice A' (ranksR p).1.length c') (ranksR p).1.length (intCells (ranksR p).1) ∧ Below w.heap.size w w' := by
  obtain ⟨r, hr⟩ : ∃ r, r = ranksR p := ⟨_, rfl⟩
  rw [← hr]
  have hb0 : Below w.heap.size w (w.alloc (.cells #[.int .i64 p.kinds, .slice A p.over.length c] 27)) := bnew (Below.refl _ _) _
  have m0 : (w.alloc (.cells #[.int .i64 p.kinds, .slice A p.over.length c] 27)).cell? ⟨w.heap.size, 0, none⟩ = some (.int .i64 p.kinds) := (World.cell?_alloc_at _ _ _ _ rfl).trans rfl
  have m1 : (w.alloc (.cells #[.int .i64 p.kinds, .slice A p.over.length c] 27)).cell? ⟨w.heap.size, 1, none⟩ = some (.slice A p.over.length c) := (World.cell?_alloc_at _ _ _ _ rfl).trans rfl
  have Hv : Hid (∀ w1, Below w.heap.size w w1 → Calls Try.prog 52 #[.agg #[.int .i64 p.kinds, .slice A p.over.length c]] w1 fun e w' => e = .returned (.bool (goodPc p)) ∧ Below w1.heap.size w1 w') := fun w1 hb => l4Good_any A c p w1 hn (hx.below hb)
  have Hs : Hid (goodPc p = true → ∀ w1, Below w.heap.size w w1 → Calls Try.prog 57 #[.agg #[.int .i64 p.kinds, .slice A p.over.length c]] w1 fun e w' => e = .returned (.bool (soundB p.over p.kinds.toNat)) ∧ Below w1.heap.size w1 w') := fun hg w1 hb => by
    obtain ⟨hk1, hk8, h16, hin, _⟩ := goodPc_in hg
    have := l4Sound_any A c p.kinds.toNat p.over w1 ⟨by omega, by omega⟩ h16 (hx.below hb) hin
    rwa [show ((p.kinds.toNat : Nat) : Int) = p.kinds by omega] at this
  unfold ranksR at hr
  have HRE := Lib.hid hr
  clear hr hn
  by_cases hm : okB p = true
  · have HR := Lib.hid (HRE.out.trans (if_pos hm))
    have Hs2 := Lib.hid (Hs.out (by simp only [okB, Bool.and_eq_true] at hm; exact hm.1))
    obtain ⟨ks, xs⟩ := p
    simp only at hx Hv Hs2 m0 m1 HR ⊢
    simp only [okB, Bool.and_eq_true] at hm
    obtain ⟨hg, hso⟩ := hm
    obtain ⟨hk1, hk8, h16, hin, _⟩ := goodPc_in hg
    simp only at hk1 hk8 h16 hin hso
    obtain ⟨K, rfl⟩ : ∃ K : Nat, ks = (K : Int) := ⟨ks.toNat, by omega⟩
    simp only [Int.toNat_natCast] at hin hso
    have hKK : 1 ≤ K ∧ K ≤ 8 := ⟨by omega, by omega⟩
    have hac := soundB_acyc hin hso
    simp only [Int.toNat_natCast] at HR Hs2
    rw [hg] at Hv
    rw [hso] at Hs2
    have hx0 := hx.below hb0
    have HIN := Lib.hid hin
    have HAC := Lib.hid hac
    have HST := Lib.hid (relax_start xs K)
    clear HRE hx hin hac hg hso Hs
    go_enter Try.func36, Try.ntmps36
    go_wp2_with (first | (go_at_call 52; refine (Hv.out _ hb0).mono ?_; rintro en w1 ⟨rfl, hb1⟩; have m0a := cell_below' m0 hb1; have m1a := cell_below' m1 hb1) | (go_at_call 57; refine (Hs2.out _ (btr hb0 hb1)).mono ?_; rintro en w2 ⟨rfl, hb2⟩; have hb02 := btr hb1 hb2; have m0b := cell_below' m0a hb2) | (at_make; refine wpl_makez rfl (.tmp 19) (.tmp 19) 33 rfl Try.underlying33 zi_Int rfl rfl rfl rfl rfl (by omega) (by unfold maxLen; omega) hb02.size ?_; intro w3 ho3 hg3))
    have hWS : (w.alloc (.cells #[.int .i64 (K : Int), .slice A xs.length c] 27)).heap.size = w.heap.size + 1 := by simp
    generalize w.alloc (.cells #[.int .i64 (K : Int), .slice A xs.length c] 27) = W0 at *
    have hb03 : Below W0.heap.size W0 w3 := hb02.grown hg3 hb02.size (by simp)
    rw [zeros_cells] at ho3
    have hg2 : W0.heap.size ≤ w2.heap.size := hb02.size
    generalize w2.heap.size = g0 at *
    clear hb1 hb2 hb02 Hv Hs2 m0a m1a m0b hg3
    go_loopw [5] (fun st wr => ∃ n : Nat, ∃ out : List Int, n ≤ K ∧ st = .int .i64 n ∧ Hid (Relax xs K n 0 out) ∧ wr.ownsRow W0.heap.size 3 1 (.slice (some ⟨g0, 0, none⟩) K K) K (intCells out) ∧ Below W0.heap.size W0 wr) (fun st _ => K - (intOf st).toNat)
    case atStart => exact ⟨0, List.replicate K 0, by omega, rfl, HST, ho3, hb03⟩
    case round =>
      obtain ⟨n, out, hnK, rfl, HX, ho, hb⟩ := hrel
      clear ho3 hb03 HST
      have m0r := cell_below' m0 hb
      by_cases hlt : n < K
      · have hnI : (n : Int) < (K : Int) := by omega
        go_wp2_with fail
        clear m0r
        obtain ⟨wo, hwo⟩ : ∃ q, q = wr := ⟨_, rfl⟩
        subst hwo
        go_loopw [6] (fun i wr => ∃ j : Nat, ∃ out : List Int, j ≤ xs.length ∧ i = .int .i64 j ∧ Hid (Relax xs K n j out) ∧ wr.ownsRow W0.heap.size 3 1 (.slice (some ⟨g0, 0, none⟩) K K) K (intCells out) ∧ Below W0.heap.size W0 wr) (fun i _ => xs.length - (intOf i).toNat)
        case atStart => exact ⟨0, out, by omega, rfl, HX, ho, hb⟩
        case round =>
          clear HX ho hb
          obtain ⟨j, out, hj, rfl, HX, ho, hb⟩ := hrel
          have m1r := cell_below' m1 hb
          by_cases hjl : j < xs.length
          · obtain ⟨b, off, rfl, c0, c1⟩ := Rd.pr (hx0.below hb) hjl
            obtain ⟨na, hna⟩ : ∃ na : Nat, xs[j].a = na := ⟨xs[j].a.toNat, by have := (HIN.out xs[j] (List.getElem_mem hjl)).1; omega⟩
            obtain ⟨nb, hnb⟩ : ∃ nb : Nat, xs[j].b = nb := ⟨xs[j].b.toNat, by have := (HIN.out xs[j] (List.getElem_mem hjl)).2; omega⟩
            have hnaK : na < K := by have := (HIN.out xs[j] (List.getElem_mem hjl)).1; omega
            have hnbK : nb < K := by have := (HIN.out xs[j] (List.getElem_mem hjl)).2; omega
            have hlen := HX.out.len
            have hal : na < out.length := by omega
            have hbl : nb < out.length := by omega
            have HXn := Lib.hid (relax_put HX.out HIN.out HAC.out hKK.1 hjl hna hnb hal hbl)
            have hra := relax_in HX.out hal
            have f0 : wr.cell? ⟨g0, na, none⟩ = some (.int .i64 out[na]) := by
              rw [own_cell ho (by rw [intCells_len]; omega)]; simp [intCells]
            have f1 : wr.cell? ⟨g0, nb, none⟩ = some (.int .i64 out[nb]) := by
              rw [own_cell ho (by rw [intCells_len]; omega)]; simp [intCells]
            have ho5 := fun v => own_set ho nb (.int .i64 v)
            simp only [intCells_set] at ho5
            have z1 := ho.frozenAt nb
            rw [hna] at c0
            rw [hnb] at c1
            have gc0 := cell_after c0
            have gc1 := cell_after c1
            have gm1 := cell_after m1r
            have hjI : (j : Int) < (xs.length : Int) := by omega
            have hnaI : (na : Int) < (K : Int) := by omega
            have hnbI : (nb : Int) < (K : Int) := by omega
            generalize out[na] = u at *
            generalize out[nb] = v at *
            have hw : IntKind.i64.wrap (u + 1) = u + 1 := by rw [IntKind.wrap_i64]; omega
            have HO5 := Lib.hid (ho5 (max v (u + 1)))
            have HLM : Hid (∀ w1, Calls Try.prog 73 #[.int .i64 v, .int .i64 (u + 1)] w1 fun e w' => e = .returned (.int .i64 (max v (u + 1))) ∧ w' = w1) := fun w1 => (l1Most_any v (u + 1) w1).mono fun _ _ h => ⟨h.1, h.2.symm⟩
            clear hna hnb HX c0 c1 ho5
            generalize max v (u + 1) = mx at *
            go_wp2_with fail
            refine wp_region_after (by kernel_rfl) (by kernel_rfl) ?_
            repeat (go_big_quiet_step (fail))
            refine wpQuiet_nil ?_
            intro nq
            have hb2 := btr hb nq.bel
            have f0' := cell_below' f0 nq.bel
            have f1' := cell_below' f1 nq.bel
            have ho2 := own_below ho nq.bel
            clear f0 f1 ho hb gc0 gc1 gm1 m1r z1 HO5
            generalize nq.val = wq at *
            clear nq
            have ho5 := own_set ho2 nb (.int .i64 mx)
            rw [intCells_set] at ho5
            have z1 : wq.drew.frozen? ⟨g0, nb, none⟩ = false := ho2.frozenAt nb
            have e0 : wq.drew.cell? ⟨g0, na, none⟩ = some (.int .i64 u) := f0'
            have e1 : wq.drew.cell? ⟨g0, nb, none⟩ = some (.int .i64 v) := f1'
            have hb5 : Below W0.heap.size W0 (wq.drew.setCell ⟨g0, nb, none⟩ (.int .i64 mx)) := hb2.drew.setCell hg2 _
            clear f0' f1' hb2
            go_wp2_with fail
            refine wp_region_tail 13 (by kernel_rfl) (by kernel_rfl) ?_
            simp only [List.take_succ_cons, List.take_zero, List.drop_succ_cons, List.drop_zero]
            repeat (go_big_quiet_step (fail))
            go_big_quiet_want
            go_big_quiet_op
            apply Exists.intro
            refine ⟨?_, ?_⟩
            · exact HLM.out _
            go_big_quiet_on
            repeat (go_big_quiet_step (fail))
            refine wpQuiet_nil ?_
            go_wp2_with fail
            go_roundw
            case rel => exact ⟨j + 1, out.set nb mx, by omega, by go_num, HXn, ho5, hb5⟩
            case measure => simp [intOf]; omega
          · have HXn : Hid (Relax xs K (n + 1) 0 out) := relax_next (by have := HX.out; rwa [show j = xs.length by omega] at this)
            clear HX
            go_wp2
            go_roundw
            case rel => exact ⟨n + 1, out, by omega, by go_num, HXn, ho, hb⟩
            case measure => simp [intOf]; omega
      · have HF : Hid (intCells out = intCells (ranksL xs K)) := by show _ = _; rw [show out = ranksL xs K from relax_end (i := 0) (by have := HX.out; rwa [show n = K by omega] at this)]
        have hRL := Lib.hid (ranksL_len xs K)
        clear HX
        rw [HF.out] at ho
        go_wp2
        exact bodyPost_ret (v := .tuple #[.slice (some ⟨g0, 0, none⟩) K K, .bool true]) (by simp [results, Try.results36, go_sem]) rfl ⟨_, K, by rw [HR.out, hRL.out], by rw [HR.out]; simp only; rw [hRL.out]; exact own_base ho (by omega), btr hb0 hb⟩
  · have HR := Lib.hid (HRE.out.trans (if_neg hm))
    by_cases hg : goodPc p = true
    · have hso : soundB p.over p.kinds.toNat = false := by
        have : ¬ (soundB p.over p.kinds.toNat = true) := fun h => hm (by simp only [okB]; rw [hg, h]; rfl)
        simpa using this
      have Hs2 := Lib.hid (Hs.out hg)
      rw [hg] at Hv
      rw [hso] at Hs2
      clear HRE hx hm hg hso Hs
      go_enter Try.func36, Try.ntmps36
      go_wp2_with (first | (go_at_call 52; refine (Hv.out _ hb0).mono ?_; rintro en w1 ⟨rfl, hb1⟩; have m0a := cell_below' m0 hb1; have m1a := cell_below' m1 hb1) | (go_at_call 57; refine (Hs2.out _ (btr hb0 hb1)).mono ?_; rintro en w2 ⟨rfl, hb2⟩))
      have hbz := btr hb0 (btr hb1 hb2)
      have wz := w2
      exact bodyPost_ret (v := .tuple #[.slice (some ⟨w2.heap.size, 0, none⟩) 0 0, .bool false]) (by simp [results, Try.results36, go_sem]) rfl ⟨some ⟨w2.heap.size, 0, none⟩, 0, by rw [HR.out]; rfl, by rw [HR.out]; exact own_lit (e := 3) (size := 1) (w := w2) #[] 0 hbz.size (by unfold maxLen; omega) rfl, bnew hbz _⟩
    · have hg' : goodPc p = false := by simpa using hg
      rw [hg'] at Hv
      clear HRE hx hm hg hg' Hs
      go_enter Try.func36, Try.ntmps36
      go_wp2_with (go_at_call 52; refine (Hv.out _ hb0).mono ?_; rintro en w1 ⟨rfl, hb1⟩)
      have hbz := btr hb0 hb1
      exact bodyPost_ret (v := .tuple #[.slice (some ⟨w1.heap.size, 0, none⟩) 0 0, .bool false]) (by simp [results, Try.results36, go_sem]) rfl ⟨some ⟨w1.heap.size, 0, none⟩, 0, by rw [HR.out]; rfl, by rw [HR.out]; exact own_lit (e := 3) (size := 1) (w := w1) #[] 0 hbz.size (by unfold maxLen; omega) rfl, bnew hbz _⟩
end Go.Proofs.Ytdbcbaahjhaonaa
