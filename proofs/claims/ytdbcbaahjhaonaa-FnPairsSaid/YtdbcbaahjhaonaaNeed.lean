/-
  Contracts of NeedlessPairs. Conditions: lengths within Go's range.
-/
import Derived.Test.YtdbcbaahjhaonaaRanks
import Derived.Test.YtdbcbaahjhaonaaSlPr
namespace Go.My
open Go.RowKit
def delAt {α : Type} (xs : List α) (k : Nat) : List α := xs.take k ++ xs.drop (k + 1)
theorem delAt_len {α : Type} (xs : List α) (k : Nat) (hk : k < xs.length) : (delAt xs k).length = xs.length - 1 := by
  simp [delAt]; omega
def needAt (xs : List Pr) (n : Nat) : List Pr := match xs[n]? with
  | some x => if reachB (delAt xs n) x.a x.b = true then [x] else []
  | none => []
def needL (xs : List Pr) : Nat → List Pr
  | 0 => []
  | n + 1 => needL xs n ++ needAt xs n
theorem needAt_len (xs : List Pr) (n : Nat) : (needAt xs n).length ≤ 1 := by
  unfold needAt; split
  · split <;> simp
  · simp
theorem needL_len (xs : List Pr) (n : Nat) : (needL xs n).length ≤ n := by
  induction n with
  | zero => simp [needL]
  | succ n ih =>
    have := needAt_len xs n
    simp only [needL, List.length_append]; omega
theorem needL_yes {xs : List Pr} {n : Nat} (hn : n < xs.length) (h : reachB (delAt xs n) xs[n].a xs[n].b = true) : needL xs (n + 1) = needL xs n ++ [xs[n]] := by
  simp [needL, needAt, List.getElem?_eq_getElem hn, h]
theorem needL_no {xs : List Pr} {n : Nat} (hn : n < xs.length) (h : ¬ reachB (delAt xs n) xs[n].a xs[n].b = true) : needL xs (n + 1) = needL xs n := by
  simp [needL, needAt, List.getElem?_eq_getElem hn, h]
theorem delAt_in {xs : List Pr} {K : Nat} (h : InK xs K) (n : Nat) : InK (delAt xs n) K := fun x hx => by
  rcases List.mem_append.1 hx with hx | hx
  · exact h x (List.mem_of_mem_take hx)
  · exact h x (List.mem_of_mem_drop hx)
def needR (p : Prec) : List Pr × Bool := if okB p = true then (needL p.over p.over.length, true) else ([], false)
theorem needR_len (p : Prec) : (needR p).1.length ≤ 16 := by
  unfold needR
  split
  · rename_i hq
    simp only [okB, Bool.and_eq_true] at hq
    have h1 := (goodPc_in hq.1).2.2.1
    exact Nat.le_trans (needL_len _ _) h1
  · simp
theorem own_set_ne {w : World} {B : Nat} {e : TypeId} {size n : Nat} {v : Value} {xs : List Value} (h : w.ownsRow B e size v n xs) {g : Nat} (hne : some g ≠ v.ownBlock) (j : Nat) (u : Value) : (w.setCell ⟨g, j, none⟩ u).ownsRow B e size v n xs :=
  h.kept (grown_set (World.grownBy.refl w (some g)) j u) (.inr (Ne.symm hne))
theorem ne_own_len {A : Option Addr} {n m c g : Nat} (h : some g ≠ (Value.slice A n c).ownBlock) : some g ≠ (Value.slice A m c).ownBlock := by revert h; cases A <;> simp [Value.ownBlock]
theorem two_set {w : World} {g : Nat} {a b u v : Value} (h0 : w.cell? ⟨g, 0, none⟩ = some a) (h1 : w.cell? ⟨g, 1, none⟩ = some b) :
    ((w.setCell ⟨g, 0, none⟩ u).setCell ⟨g, 1, none⟩ v).cell? ⟨g, 0, none⟩ = some u ∧ ((w.setCell ⟨g, 0, none⟩ u).setCell ⟨g, 1, none⟩ v).cell? ⟨g, 1, none⟩ = some v :=
  ⟨(World.cell?_setCell_other _ _ _ _ (by simp)).trans (World.cell?_setCell_same _ _ _ h0), World.cell?_setCell_same _ _ _ (u := b) ((World.cell?_setCell_other _ _ _ _ (by simp)).trans h1)⟩
end Go.My
namespace Go.Proofs.Ytdbcbaahjhaonaa
open Go.RowKit Go.My
set_option maxHeartbeats 8000000 in
set_option maxRecDepth 100000 in
theorem needP_any (A : Option Addr) (c : Nat) (p : Prec) (w : World) (hn : p.over.length ≤ maxLen) (_ : p.over.length ≤ c) (hx : Rd w A (prCells p.over)) :
    Calls Try.prog 30 #[.agg #[.int .i64 p.kinds, .slice A p.over.length c]] w fun en w' => ∃ A' c', en = .returned (.tuple #[.slice A' (needR p).1.length c', .bool (needR p).2]) ∧ w'.ownsRow w.heap.size 52 2 (.slice A' (needR p).1.length c') (needR p).1.length (prCells (needR p).1) ∧ Below w.heap.size w w' := by
  obtain ⟨r, hr⟩ : ∃ r, r = needR p := ⟨_, rfl⟩
  rw [← hr]
  have hb0 : Below w.heap.size w (w.alloc (.cells #[.int .i64 p.kinds, .slice A p.over.length c] 27)) := bnew (Below.refl _ _) _
  have m0 : (w.alloc (.cells #[.int .i64 p.kinds, .slice A p.over.length c] 27)).cell? ⟨w.heap.size, 0, none⟩ = some (.int .i64 p.kinds) := (World.cell?_alloc_at _ _ _ _ rfl).trans rfl
  have m1 : (w.alloc (.cells #[.int .i64 p.kinds, .slice A p.over.length c] 27)).cell? ⟨w.heap.size, 1, none⟩ = some (.slice A p.over.length c) := (World.cell?_alloc_at _ _ _ _ rfl).trans rfl
  have Hv : Hid (∀ w1, Below w.heap.size w w1 → Calls Try.prog 17 #[.agg #[.int .i64 p.kinds, .slice A p.over.length c]] w1 fun e w' => e = .returned (.bool (goodPc p)) ∧ Below w1.heap.size w1 w') := fun w1 hb => isPrec_any A c p w1 hn (hx.below hb)
  have Hs : Hid (goodPc p = true → ∀ w1, Below w.heap.size w w1 → Calls Try.prog 58 #[.agg #[.int .i64 p.kinds, .slice A p.over.length c]] w1 fun e w' => e = .returned (.bool (soundB p.over p.kinds.toNat)) ∧ Below w1.heap.size w1 w') := fun hg w1 hb => by
    obtain ⟨hk1, hk8, h16, hin, _⟩ := goodPc_in hg
    have := isSound_any A c p.kinds.toNat p.over w1 ⟨by omega, by omega⟩ h16 (hx.below hb) hin
    rwa [show ((p.kinds.toNat : Nat) : Int) = p.kinds by omega] at this
  unfold needR at hr
  have HRE := Lib.hid hr
  clear hr hn
  by_cases hm : okB p = true
  · have HR := Lib.hid (HRE.out.trans (if_pos hm))
    have Hs2 := Lib.hid (Hs.out (by simp only [okB, Bool.and_eq_true] at hm; exact hm.1))
    obtain ⟨ks, xs⟩ := p
    simp only at hx Hv Hs2 m0 m1 HR ⊢
    simp only [okB, Bool.and_eq_true] at hm
    obtain ⟨hg, hso⟩ := hm
    obtain ⟨hk1, hk8, h16, hin, _⟩ := goodPc_in hg
    simp only at hk1 hk8 h16 hin hso
    obtain ⟨K, rfl⟩ : ∃ K : Nat, ks = (K : Int) := ⟨ks.toNat, by omega⟩
    simp only [Int.toNat_natCast] at hin hso
    have hKK : 1 ≤ K ∧ K ≤ 8 := ⟨by omega, by omega⟩
    have hac := soundB_acyc hin hso
    simp only [Int.toNat_natCast] at Hs2
    rw [hg] at Hv
    rw [hso] at Hs2
    have hx0 := hx.below hb0
    have HIN := Lib.hid hin
    clear HRE hx hin hac hg hso Hs
    go_enter Try.func30, Try.ntmps30
    go_wp2_with (first | (go_at_call 17; refine (Hv.out _ hb0).mono ?_; rintro en w1 ⟨rfl, hb1⟩; have m0a := cell_below' m0 hb1; have m1a := cell_below' m1 hb1) | (go_at_call 58; refine (Hs2.out _ (btr hb0 hb1)).mono ?_; rintro en w2 ⟨rfl, hb2⟩; have hb02 := btr hb1 hb2; have m1b := cell_below' m1a (btr hb2 (bnew (Below.refl w2.heap.size w2) (.cells #[] 52)))))
    have hWS : (w.alloc (.cells #[.int .i64 (K : Int), .slice A xs.length c] 27)).heap.size = w.heap.size + 1 := by simp
    generalize w.alloc (.cells #[.int .i64 (K : Int), .slice A xs.length c] 27) = W0 at *
    have ho0 := own_lit (e := 52) (size := 2) (B := W0.heap.size) (w := w2) #[] 0 hb02.size (by unfold maxLen; omega) rfl
    have hbE := bnew hb02 (.cells #[] 52)
    clear hb1 hb2 hb02 Hv Hs2 m0a m1a m1b
    go_loopw [4, 20] (fun out i wr => ∃ k : Nat, ∃ (A' : Option Addr) (c' : Nat) (L : List Pr), k ≤ xs.length ∧ i = .int .i64 k ∧ out = .slice A' L.length c' ∧ Hid (needL xs k = L) ∧ L.length ≤ k ∧ wr.ownsRow W0.heap.size 52 2 (.slice A' L.length c') L.length (prCells L) ∧ Below W0.heap.size W0 wr) (fun _ i _ => xs.length - (intOf i).toNat)
    case atStart => exact ⟨0, some ⟨w2.heap.size, 0, none⟩, 0, [], by omega, rfl, rfl, rfl, by simp, ho0, hbE⟩
    case round =>
      obtain ⟨k, A', c', L, hk, rfl, rfl, HP, hLk, ho, hb⟩ := hrel
      clear ho0 hbE
      have m0r := cell_below' m0 hb
      have m1r := cell_below' m1 hb
      by_cases hlt : k < xs.length
      · obtain ⟨b, off, eA, c0, c1⟩ := Rd.pr (hx0.below hb) hlt
        have HNy := Lib.hid (fun h => (needL_yes hlt h).trans (by rw [HP.out]))
        have HNn := Lib.hid (fun h => (needL_no hlt h).trans HP.out)
        have hsin := HIN.out xs[k] (List.getElem_mem hlt)
        have HDI := Lib.hid (delAt_in HIN.out k)
        have hdl := delAt_len xs k hlt
        have HDd : Hid (delAt xs k = xs.take k ++ xs.drop (k + 1)) := rfl
        generalize xs[k] = s at *
        obtain ⟨nb, hnb⟩ : ∃ nb : Nat, s.b = nb := ⟨s.b.toNat, by omega⟩
        have hnbK : nb < K := by omega
        have hkI : (k : Int) < (xs.length : Int) := by omega
        have hkw : IntKind.i64.wrap ((k : Int) + 1) = (k : Int) + 1 := by rw [IntKind.wrap_i64]; omega
        have hbw := bnew (Below.refl wr.heap.size wr) (.cells #[.int .i64 s.a, .int .i64 s.b] 52)
        have n0 : (wr.alloc (.cells #[.int .i64 s.a, .int .i64 s.b] 52)).cell? ⟨wr.heap.size, 0, none⟩ = some (.int .i64 s.a) := (World.cell?_alloc_at _ _ _ _ rfl).trans rfl
        have n1 : (wr.alloc (.cells #[.int .i64 s.a, .int .i64 s.b] 52)).cell? ⟨wr.heap.size, 1, none⟩ = some (.int .i64 s.b) := (World.cell?_alloc_at _ _ _ _ rfl).trans rfl
        rw [hnb] at n1
        have m0n := cell_below' m0r hbw
        have m1n := cell_below' m1r hbw
        have hoN := own_below ho hbw
        have hbN := btr hb hbw
        have hxN := hx0.below hbN
        have HD5 : Hid (∀ (w1 : World) (A5 : Option Addr) (c5 : Nat), w1.ownsRow wr.heap.size 52 2 (.slice A5 xs.length c5) xs.length (prCells xs) → Calls Try.prog 63 #[.slice A5 xs.length c5, .int .i64 k, .int .i64 ((k : Int) + 1)] w1 (RowRet w1 wr.heap.size 52 2 A5 c5 (delAt xs k).length (prCells (delAt xs k)) (Value.slice A5 xs.length c5).ownBlock)) := fun w1 A5 c5 ho => by
          have := delete_Pr A5 c5 wr.heap.size xs (delAt xs k) k (k + 1) w1 (by omega) (by omega) (by omega) ho HDd
          rwa [show ((k + 1 : Nat) : Int) = (k : Int) + 1 by omega] at this
        have HCl : Hid (∀ w1, Below (wr.alloc (.cells #[.int .i64 s.a, .int .i64 s.b] 52)).heap.size (wr.alloc (.cells #[.int .i64 s.a, .int .i64 s.b] 52)) w1 → Calls Try.prog 64 #[.slice A xs.length c] w1 (RowRetE w1 w1.heap.size 52 2 xs.length (prCells xs) none)) := fun w1 hb1 => clone_Pr A c xs w1 (by omega) (hxN.below hb1)
        have hwlt : wr.heap.size < (wr.alloc (.cells #[.int .i64 s.a, .int .i64 s.b] 52)).heap.size := by simp
        subst eA
        rw [hnb] at hbN hoN m0n m1n n0 hwlt HCl
        go_wp2_with fail
        generalize wr.alloc (.cells #[.int .i64 s.a, .int .i64 nb] 52) = wN at *
        have hbA : Below wN.heap.size wN wN.drew := (Below.refl _ _).drew
        have hbZ := bnew hbA (.cells #[.int .i64 0, .slice none 0 0] 27)
        have m0d : wN.drew.cell? ⟨w.heap.size, 0, none⟩ = some (.int .i64 K) := m0n
        have m1d : wN.drew.cell? ⟨w.heap.size, 1, none⟩ = some (.slice (some ⟨b, off, none⟩) xs.length c) := m1n
        clear hbw c0 c1
        go_region_held3 (fun w' => w'.cell? ⟨w.heap.size, 0, none⟩ = some (.int .i64 K) ∧ w'.cell? ⟨w.heap.size, 1, none⟩ = some (.slice (some ⟨b, off, none⟩) xs.length c)) ((first | exact ⟨m0d, m1d⟩ | exact ⟨cell_below' m0n (((hb6).setCell (by have := hb5.size; have := hb6.size; simp <;> omega) _).setCell (by have := hb5.size; have := hb6.size; simp <;> omega) _), cell_below' m1n (((hb6).setCell (by have := hb5.size; have := hb6.size; simp <;> omega) _).setCell (by have := hb5.size; have := hb6.size; simp <;> omega) _)⟩ | exact ⟨cell_below' m0n (((bnew hb6 (.cells #[.int .i64 0, .slice none 0 0] 27)).setCell (by have := hb5.size; have := hb6.size; simp <;> omega) _).setCell (by have := hb5.size; have := hb6.size; simp <;> omega) _), cell_below' m1n (((bnew hb6 (.cells #[.int .i64 0, .slice none 0 0] 27)).setCell (by have := hb5.size; have := hb6.size; simp <;> omega) _).setCell (by have := hb5.size; have := hb6.size; simp <;> omega) _)⟩ | go_keep)) ((first | (go_at_call 64; refine (HCl.out _ (by first | exact hbA | exact hbZ)).mono ?_; rintro en w5 ⟨A5, c5, rfl, ho5, hg5⟩; have hb5 : Below wN.heap.size wN w5 := btr (by first | exact hbA | exact hbZ) (below_grown hg5 (Nat.le_refl _) (by simp)); have m0d := cell_below' m0n hb5; have m1d := cell_below' m1n hb5; (first | (have BZ5 := (Blk.made (w := wN.drew) (g := wN.heap.size) (e := 27) #[.int .i64 0, .slice none 0 0] rfl).grown hg5 (by simp); have BZ5' := (Blk.made (w := wN.drew) (g := wN.drew.heap.size) (e := 27) #[.int .i64 0, .slice none 0 0] rfl).grown hg5 (by simp)) | skip)) | (go_at_call 63; refine (HD5.out _ _ _ (by first | exact own_base ho5 (by simp; omega) | exact own_base (own_below ho5 (bnew (Below.refl _ _) (.cells #[.int .i64 0, .slice none 0 0] 27))) (by simp; omega))).mono ?_; rintro en w6 ⟨rfl, ho6, hg6⟩; have hb6 : Below wN.heap.size wN w6 := (by first | exact hb5.grown hg6 hb5.size (own_blk (own_base ho5 (by simp <;> omega))) | exact (bnew hb5 (.cells #[.int .i64 0, .slice none 0 0] 27)).grown hg6 (by have := hb5.size; simp <;> omega) (own_blk (own_base ho5 (by simp <;> omega)))); have m0d := cell_below' m0n hb6; have m1d := cell_below' m1n hb6; (first | (have BZ6' := BZ5'.grown hg6 (fun e => by have := (ho5.lt _ e.symm).1; simp at this; omega); have jz0 := BZ6'.cell (j := 0) rfl; have jz1 := BZ6'.cell (j := 1) rfl; have yz0 := BZ6'.frozen 0; have yz1 := BZ6'.frozen 1) | skip); (first | (have BZ6 := BZ5.grown hg6 (fun e => by have := (ho5.lt _ e.symm).1; simp at this; omega)) | (have BZ6 := (Blk.made (w := w5) (e := 27) #[.int .i64 0, .slice none 0 0] rfl).grown hg6 (own_ne2 ho5)) | skip); (first | (have kz0 := BZ6.cell (j := 0) rfl; have kz1 := BZ6.cell (j := 1) rfl; have zz0 := BZ6.frozen 0; have zz1 := BZ6.frozen 1) | skip))))
        all_goals rw [hdl] at ho6
        all_goals first | (have q0 : (w6.alloc (.cells #[.int .i64 K, .slice A5 (xs.length - 1) c5] 27)).cell? ⟨w6.heap.size, 0, none⟩ = some (.int .i64 K) := (World.cell?_alloc_at _ _ _ _ rfl).trans rfl; have q1 : (w6.alloc (.cells #[.int .i64 K, .slice A5 (xs.length - 1) c5] 27)).cell? ⟨w6.heap.size, 1, none⟩ = some (.slice A5 (xs.length - 1) c5) := (World.cell?_alloc_at _ _ _ _ rfl).trans rfl; have ho7 := own_below ho6 (bnew (Below.refl w6.heap.size w6) (.cells #[.int .i64 K, .slice A5 (xs.length - 1) c5] 27)); have hb7 := bnew hb6 (.cells #[.int .i64 K, .slice A5 (xs.length - 1) c5] 27); clear hb6; change Exit.then _ _ _ _ (w6.alloc (.cells #[.int .i64 K, .slice A5 (xs.length - 1) c5] 27)); generalize w6.alloc (.cells #[.int .i64 K, .slice A5 (xs.length - 1) c5] 27) = w7 at q0 q1 ho7 hb7 ⊢; generalize w6.heap.size = zb at q0 q1 ⊢) | (have hne : some w5.heap.size ≠ (Value.slice A5 (xs.length - 1) c5).ownBlock := ne_own_len (own_ne2 ho5); obtain ⟨q0, q1⟩ := two_set (u := .int .i64 K) (v := .slice A5 (xs.length - 1) c5) kz0 kz1; have ho7 := own_set_ne (own_set_ne ho6 hne 0 (.int .i64 K)) hne 1 (.slice A5 (xs.length - 1) c5); have hb7 : Below wN.heap.size wN ((w6.setCell ⟨w5.heap.size, 0, none⟩ (.int .i64 K)).setCell ⟨w5.heap.size, 1, none⟩ (.slice A5 (xs.length - 1) c5)) := (hb6.setCell (by have := hb5.size; have := hb6.size; simp <;> omega) _).setCell (by have := hb5.size; have := hb6.size; simp <;> omega) _; clear hne hb6; change Exit.then _ _ _ _ ((w6.setCell ⟨w5.heap.size, 0, none⟩ (.int .i64 K)).setCell ⟨w5.heap.size, 1, none⟩ (.slice A5 (xs.length - 1) c5)); generalize ((w6.setCell ⟨w5.heap.size, 0, none⟩ (.int .i64 K)).setCell ⟨w5.heap.size, 1, none⟩ (.slice A5 (xs.length - 1) c5)) = w7 at q0 q1 ho7 hb7 ⊢; generalize w5.heap.size = zb at q0 q1 ⊢) | (have hne : some wN.heap.size ≠ (Value.slice A5 (xs.length - 1) c5).ownBlock := ne_own_len (own_ne ho5 (by simp)); obtain ⟨q0, q1⟩ := two_set (u := .int .i64 K) (v := .slice A5 (xs.length - 1) c5) kz0 kz1; have ho7 := own_set_ne (own_set_ne ho6 hne 0 (.int .i64 K)) hne 1 (.slice A5 (xs.length - 1) c5); have hb7 : Below wN.heap.size wN ((w6.setCell ⟨wN.heap.size, 0, none⟩ (.int .i64 K)).setCell ⟨wN.heap.size, 1, none⟩ (.slice A5 (xs.length - 1) c5)) := (hb6.setCell (by have := hb5.size; have := hb6.size; simp <;> omega) _).setCell (by have := hb5.size; have := hb6.size; simp <;> omega) _; clear hne hb6; change Exit.then _ _ _ _ ((w6.setCell ⟨wN.heap.size, 0, none⟩ (.int .i64 K)).setCell ⟨wN.heap.size, 1, none⟩ (.slice A5 (xs.length - 1) c5)); generalize ((w6.setCell ⟨wN.heap.size, 0, none⟩ (.int .i64 K)).setCell ⟨wN.heap.size, 1, none⟩ (.slice A5 (xs.length - 1) c5)) = w7 at q0 q1 ho7 hb7 ⊢; generalize wN.heap.size = zb at q0 q1 ⊢)
        all_goals
          have hyA : Hid (∀ w1 : World, Below w7.heap.size w7 w1 → Calls Try.prog 61 #[.agg #[.int .i64 K, .slice A5 (xs.length - 1) c5], .int .i64 s.a] w1 fun e w' => ∃ A', e = .returned (.slice A' K K) ∧ w'.ownsRow w1.heap.size 4 1 (.slice A' K K) K (bCells (rowB (reachB (delAt xs k) s.a) K)) ∧ Below w1.heap.size w1 w') := fun w1 hb1 => by
            have := yieldsTo_any A5 c5 K (delAt xs k) s.a w1 hKK (by omega) ((own_rd ho7).below hb1) HDI.out
            rwa [hdl] at this
          have n07 := cell_below' n0 hb7
          have n17 := cell_below' n1 hb7
          have hoL := own_below hoN hb7
          have hbL : Below W0.heap.size W0 w7 := btr hbN hb7
          clear n0 n1 m0n m1n ho7 HDI HDd HCl HD5 hoN hbN
          have hRL : (rowB (reachB (delAt xs k) s.a) K).length = K := by simp [rowB]
          have hG : (rowB (reachB (delAt xs k) s.a) K)[nb]? = some (reachB (delAt xs k) s.a s.b) := by rw [hnb, List.getElem?_eq_getElem (by rw [hRL]; exact hnbK)]; simp [rowB]
          have HG := Lib.hid hG
          have HRL := Lib.hid hRL
          generalize rowB (reachB (delAt xs k) s.a) K = row at *
          generalize hrb : reachB (delAt xs k) s.a s.b = rb at *
          have z0 : w7.drew.cell? ⟨zb, 0, none⟩ = some (.int .i64 K) := q0
          have z1 : w7.drew.cell? ⟨zb, 1, none⟩ = some (.slice A5 (xs.length - 1) c5) := q1
          have z2 : w7.drew.cell? ⟨wr.heap.size, 0, none⟩ = some (.int .i64 s.a) := n07
          have z3 : w7.drew.cell? ⟨wr.heap.size, 1, none⟩ = some (.int .i64 nb) := n17
          clear hRL hG
        all_goals go_wp2_with fail
        all_goals go_region_with ((first | (go_at_call 61; refine (hyA.out _ (Below.refl _ _).drew).mono ?_; rintro en w8 ⟨A8, rfl, ho8, hb8⟩; obtain ⟨b4, off4, rfl, d4⟩ := Rd.bools (own_rd ho8) (by rw [HRL.out]; exact hnbK); rw [show row[nb]'(by rw [HRL.out]; exact hnbK) = _ from Option.some.inj ((List.getElem?_eq_getElem (by rw [HRL.out]; exact hnbK)).symm.trans HG.out)] at d4; have z0 := cell_below' z0 hb8; have z1 := cell_below' z1 hb8; have z2 := cell_below' z2 hb8; have z3 := cell_below' z3 hb8)))
        all_goals
          have hb78 : Below w7.heap.size w7 w8 := btr (Below.refl _ _).drew hb8
          have hbL8 := btr hbL hb78
          have hoL8 := own_below hoL hb78
          have hrdA : Rd (w8.alloc (.cells #[.int .i64 s.a, .int .i64 nb] 52)) (some ⟨w8.heap.size, 0, none⟩) [.int .i64 s.a, .int .i64 nb] := Rd.made
          have hbA8 := bnew hbL8 (.cells #[.int .i64 s.a, .int .i64 nb] 52)
          have hoA8 := own_below hoL8 (bnew (Below.refl w8.heap.size w8) (.cells #[.int .i64 s.a, .int .i64 nb] 52))
          clear q0 q1 n07 n17 hoL hbL HRL HG hyA d4 ho8 hb8 hb78
          cases rb
        all_goals first
          | (have HS := Lib.hid (HNn.out (by simp))
             clear HNn HNy
             go_wp2_with fail
             go_roundw
             case rel => exact ⟨k + 1, A', c', L, by omega, by go_num, rfl, HS, by omega, hoL8, hbL8⟩
             case measure => simp [intOf]; omega)
          | (have HS := Lib.hid (HNy.out rfl)
             clear HNn HNy
             go_wp2_with (at_builtin; go_must (refine wpl_app rfl (.tmp 43) (.tmp 45) 22 rfl el_Pr (v := .slice A' L.length c') rfl hoA8 rfl rfl hrdA (by simp [Value.oneCell']) (by unfold maxLen; omega) (by omega) hbA8.size ?_); intro A1 c1 w9 ho1 hg1 hor; have hb9 : Below W0.heap.size W0 w9 := hbA8.grown hg1 hbA8.size (fun k hk => (hoA8.lt k hk).1); clear hor hg1)
             go_roundw
             case rel => exact ⟨k + 1, A1, c1, L ++ [s], by omega, by go_num, by simp, HS, (by simp; omega), (by rw [prCells_append]; simpa [prCells, Pr.cells, hnb] using ho1), hb9⟩
             case measure => simp [intOf]; omega)
      · have HF : Hid (L = needL xs xs.length) := by have := HP.out; rw [show k = xs.length by omega] at this; exact this.symm
        clear HP
        go_wp2
        exact bodyPost_ret (v := .tuple #[.slice A' L.length c', .bool true]) (by simp [results, Try.results30, go_sem]) rfl ⟨A', c', by rw [HR.out, HF.out], by rw [HR.out]; exact (by rw [← HF.out]; exact own_base ho (by omega)), btr hb0 hb⟩
  · have HR := Lib.hid (HRE.out.trans (if_neg hm))
    by_cases hg : goodPc p = true
    · have hso : soundB p.over p.kinds.toNat = false := by
        have : ¬ (soundB p.over p.kinds.toNat = true) := fun h => hm (by simp only [okB]; rw [hg, h]; rfl)
        simpa using this
      have Hs2 := Lib.hid (Hs.out hg)
      rw [hg] at Hv
      rw [hso] at Hs2
      clear HRE hx hm hg hso Hs
      go_enter Try.func30, Try.ntmps30
      go_wp2_with (first | (go_at_call 17; refine (Hv.out _ hb0).mono ?_; rintro en w1 ⟨rfl, hb1⟩; have m0a := cell_below' m0 hb1; have m1a := cell_below' m1 hb1) | (go_at_call 58; refine (Hs2.out _ (btr hb0 hb1)).mono ?_; rintro en w2 ⟨rfl, hb2⟩))
      have hbz := btr hb0 (btr hb1 hb2)
      have wz := w2
      exact bodyPost_ret (v := .tuple #[.slice none 0 0, .bool false]) (by simp [results, Try.results30, go_sem]) rfl ⟨none, 0, by rw [HR.out]; rfl, by rw [HR.out]; exact own_nil, hbz⟩
    · have hg' : goodPc p = false := by simpa using hg
      rw [hg'] at Hv
      clear HRE hx hm hg hg' Hs
      go_enter Try.func30, Try.ntmps30
      go_wp2_with (go_at_call 17; refine (Hv.out _ hb0).mono ?_; rintro en w1 ⟨rfl, hb1⟩)
      have hbz := btr hb0 hb1
      exact bodyPost_ret (v := .tuple #[.slice none 0 0, .bool false]) (by simp [results, Try.results30, go_sem]) rfl ⟨none, 0, by rw [HR.out]; rfl, by rw [HR.out]; exact own_nil, hbz⟩
end Go.Proofs.Ytdbcbaahjhaonaa
