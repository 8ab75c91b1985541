/-
  Contracts of the reference's search for the least cycle. Conditions: lengths within Go's range.
-/
import Derived.Test.YtdbcbaahjhaonaaCyc2
namespace Go.My
open Go.RowKit
/-- What a search hands back: a list and whether there is one. -/
def tupS (cons : List Nat) (B : Nat) (e : TypeId) (r : Option (List Int)) : LS where
  cons := cons
  ok u := ∃ A n c, u = .tuple #[.slice A n c, .bool r.isSome]
  V u w := ∃ A n c, u = .tuple #[.slice A n c, .bool r.isSome] ∧ ∀ m, r = some m → n = m.length ∧ w.ownsRow B e 1 (.slice A m.length c) m.length (intCells m)
  fp u := if r.isSome = true then (match u with | .tuple vs => (vs.getD 0 undef).ownBlock.toList | _ => []) else []
  loc u w w' h hb hsz := by
    obtain ⟨A, n, c, rfl, h2⟩ := h
    refine ⟨A, n, c, rfl, fun m hm => ?_⟩
    obtain ⟨rfl, ho⟩ := h2 m hm
    refine ⟨rfl, (rowS [] B e 1 m.length (intCells m)).loc _ w w' ho (fun g hg => hb g ?_) hsz⟩
    rw [hm]; exact hg
  ne := ⟨.tuple #[.slice none 0 0, .bool r.isSome], none, 0, 0, rfl⟩
/-- The first kind from k on that gives a cycle. -/
def someFrom (g : Int → Option (List Int)) (k : Nat) (K : Nat) : Option (List Int) := ((kindsTo K).drop k).findSome? g
theorem ob_tup {P : Program} {w0 : World} {F : List Nat} {τ : Nat → Option LS} {U : Nat → Value} {a : Go.Act} {B : Nat} {e : TypeId} {size n : Nat} {xs : List Value} {r : Option (List Int)} {o : Oper} {cd : List Nat} (d : Nat) (hd : τ d = some (rowS cd B e size n xs))
    (h : ∀ w, ClP w0 F w → w.ownsRow B e size (U d) n xs → stepTo P o a w (fun u w' => ∃ A n' c', u = .tuple #[.slice A n' c', .bool r.isSome] ∧ (∀ m, r = some m → n' = m.length ∧ w'.ownsRow B e 1 (.slice A m.length c') m.length (intCells m) ∧ (∀ k, (Value.slice A n' c').ownBlock = some k → (U d).ownBlock = some k ∨ w.heap.size ≤ k)) ∧ Below w.heap.size w w')) :
    Ob P w0 F τ (tupS [d] B e r) o a U := fun w hw hf => by
  have hown : w.ownsRow B e size (U d) n xs := (hf.1 d (by simp [tupS]) _ hd).1
  have h1 := h w hw hown
  unfold stepTo at h1 ⊢
  have fin : ∀ u w', (∃ A n' c', u = .tuple #[.slice A n' c', .bool r.isSome] ∧ (∀ m, r = some m → n' = m.length ∧ w'.ownsRow B e 1 (.slice A m.length c') m.length (intCells m) ∧ (∀ k, (Value.slice A n' c').ownBlock = some k → (U d).ownBlock = some k ∨ w.heap.size ≤ k)) ∧ Below w.heap.size w w') → Owes τ (tupS [d] B e r) U w u w' := fun u w' ⟨A, n', c', hu, hm, hb⟩ => by
    subst hu
    refine ⟨⟨A, n', c', rfl⟩, ⟨A, n', c', rfl, fun m hr => ⟨(hm m hr).1, (hm m hr).2.1⟩⟩, hb.os, hb.tape, hb.output, hb.size, fun g hg _ => hb.block g hg, fun g hg => ?_⟩
    cases r with
    | none => simp [tupS] at hg
    | some m =>
      obtain ⟨rfl, ho, hk⟩ := hm m rfl
      have hg' : (Value.slice A m.length c').ownBlock = some g := mem_toList.1 hg
      refine ⟨(ho.lt g hg').2, ?_⟩
      rcases hk g hg' with h | h
      · exact .inr ⟨d, by simp [tupS], _, hd, mem_toList.2 h⟩
      · exact .inl h
  generalize (execOp a.eval o).run P w = rr at *
  cases rr with
  | ok nx w' =>
    cases nx <;> simp only [stepUpon] at h1 ⊢
    case value u => exact fin _ _ h1
    case skip => exact fin _ _ h1
    case enter f args => exact h1.mono fun e w'' ⟨u, he, hR⟩ => ⟨u, he, fin _ _ hR⟩
  | halt x w' => simp only [stepUpon] at h1
theorem kindsTo_at {k K : Nat} (hk : k < K) : (kindsTo K).drop k = (k : Int) :: (kindsTo K).drop (k + 1) := by
  rw [List.drop_eq_getElem_cons (by rw [kindsTo_len]; exact hk)]
  simp [kindsTo]
theorem someFrom_at {g : Int → Option (List Int)} {k K : Nat} (hk : k < K) : someFrom g k K = (match g k with | some m => some m | none => someFrom g (k + 1) K) := by
  unfold someFrom
  rw [kindsTo_at hk, List.findSome?_cons]
  cases g k <;> rfl
theorem someFrom_end {g : Int → Option (List Int)} {k K : Nat} (hk : K ≤ k) : someFrom g k K = none := by
  unfold someFrom
  rw [List.drop_of_length_le (by rw [kindsTo_len]; exact hk)]; rfl
end Go.My
namespace Go.Proofs.Ytdbcbaahjhaonaa
open Go.RowKit Go.My
theorem l1Own_any (A : Option Addr) (c : Nat) (xs : List Int) (w : World) (hn : xs.length ≤ 2097152) (hx : Rd w A (intCells xs)) :
    Calls Try.prog 87 #[.slice A xs.length c] w fun e w' => ∃ A' c', e = .returned (.slice A' xs.length c') ∧ w'.ownsRow w.heap.size 3 1 (.slice A' xs.length c') xs.length (intCells xs) ∧ Below w.heap.size w w' := by
  have ho := own_lit (e := 3) (size := 1) (B := w.heap.size) (w := w) #[] 0 (Nat.le_refl _) (by unfold maxLen; omega) rfl
  have hb := bnew (Below.refl w.heap.size w) (.cells #[] 3)
  have hr := hx.below hb
  have hl : (intCells xs).length = xs.length * 1 := by simp [intCells]
  have h1 : ∀ u ∈ intCells xs, u.oneCell' = true := by intro u hu; simp only [intCells, List.mem_map] at hu; obtain ⟨z, _, rfl⟩ := hu; rfl
  clear hx
  go_enter Try.func87, Try.ntmps87
  go_wp2_with (at_builtin; refine wpl_app rfl (.tmp 3) (.tmp 4) 33 rfl el_Int rfl ho rfl hl hr h1 (by unfold maxLen; omega) (by omega) hb.size ?_; intro A1 c1 w1 ho1 hg1 _)
  simp only [Nat.zero_add, List.nil_append] at ho1
  exact bodyPost_ret (v := .slice A1 xs.length c1) (by simp [results, Try.results87, go_sem]) rfl ⟨A1, c1, rfl, ho1, hb.grown hg1 hb.size (fun k hk => (ho.lt k hk).1)⟩
/-- What the search does. -/
def SeekAt (xs : List Pr) (K : Nat) (A : Option Addr) (c f : Nat) : Prop := ∀ (w : World) (l : List Int) (Al : Option Addr) (cl B : Nat), (f = 0 → 0 < l.length) → l.length + f ≤ 8 → Rd w A (prCells xs) → w.ownsRow B 3 1 (.slice Al l.length cl) l.length (intCells l) → B ≤ w.heap.size →
  Calls Try.prog 66 #[.agg #[.int .i64 K, .slice A xs.length c], .slice Al l.length cl, .int .i64 ((l.length + f : Nat) : Int)] w fun e w' => ∃ A' n' c', e = .returned (.tuple #[.slice A' n' c', .bool (cycF xs K f l).isSome]) ∧ (∀ m, cycF xs K f l = some m → n' = m.length ∧ w'.ownsRow B 3 1 (.slice A' m.length c') m.length (intCells m) ∧ (∀ k, (Value.slice A' n' c').ownBlock = some k → (Value.slice Al l.length cl).ownBlock = some k ∨ w.heap.size ≤ k)) ∧ Below w.heap.size w w'
set_option maxHeartbeats 8000000 in
set_option maxRecDepth 100000 in
theorem seek_zero (xs : List Pr) (K : Nat) (A : Option Addr) (c : Nat) (hn : xs.length ≤ 16) : SeekAt xs K A c 0 := by
  intro w l Al cl B h0 h8 hx ho hBw
  have hl := h0 rfl
  have hb0 : Below w.heap.size w (w.alloc (.cells #[.int .i64 K, .slice A xs.length c] 27)) := bnew (Below.refl _ _) _
  have m0 : (w.alloc (.cells #[.int .i64 K, .slice A xs.length c] 27)).cell? ⟨w.heap.size, 0, none⟩ = some (.int .i64 K) := (World.cell?_alloc_at _ _ _ _ rfl).trans rfl
  have m1 : (w.alloc (.cells #[.int .i64 K, .slice A xs.length c] 27)).cell? ⟨w.heap.size, 1, none⟩ = some (.slice A xs.length c) := (World.cell?_alloc_at _ _ _ _ rfl).trans rfl
  obtain ⟨n1, hn1⟩ : ∃ n1, l.length = n1 + 1 := ⟨l.length - 1, by omega⟩
  have hln : (l.length : Int) - 1 = (n1 : Int) := by omega
  have hn1l : n1 < l.length := by omega
  have hn1I : (n1 : Int) < (l.length : Int) := by omega
  have h0I : (0 : Int) < (l.length : Int) := by omega
  obtain ⟨gl, eAl, _, _⟩ := own_at ho hl
  subst eAl
  have hLA : l[n1]'hn1l = lastI l := by rw [← lastI_get hl]; congr 1; omega
  have hHD : l[0]'hl = headI l := headI_get hl
  have t0 : w.cell? ⟨gl, 0, none⟩ = some (.int .i64 (headI l)) := by
    have := own_cell ho (j := 0) (by simpa [intCells] using hl)
    rw [this, ← hHD]; simp [intCells]
  have t1 : w.cell? ⟨gl, n1, none⟩ = some (.int .i64 (lastI l)) := by
    have := own_cell ho (j := n1) (by simpa [intCells] using hn1l)
    rw [this, ← hLA]; simp [intCells]
  have t0' := cell_below' t0 hb0
  have t1' := cell_below' t1 hb0
  have HF : Hid (cycF xs K 0 l = if dirB xs (lastI l) (headI l) = true then some l else none) := rfl
  have HD : Hid (∀ w1, Below w.heap.size w w1 → Calls Try.prog 77 #[.agg #[.int .i64 K, .slice A xs.length c], .int .i64 (lastI l), .int .i64 (headI l)] w1 fun e w' => e = .returned (.bool (dirB xs (lastI l) (headI l))) ∧ Below w1.heap.size w1 w') := fun w1 h1 => l4Direct_any A c K xs _ _ w1 (by unfold maxLen; omega) (hx.below h1)
  have ho0 := own_below ho hb0
  have hz : ((l.length + 0 : Nat) : Int) = (l.length : Int) := by omega
  rw [hz]
  clear hx ho t0 t1 hz h0 hn1 hLA hHD
  generalize cycF xs K 0 l = r at *
  generalize dirB xs (lastI l) (headI l) = u at *
  generalize lastI l = la at *
  generalize headI l = hd at *
  go_enter Try.func66, Try.ntmps66
  go_wp2_with fail
  generalize w.alloc (.cells #[.int .i64 K, .slice A xs.length c] 27) = W0 at *
  have g0 := cell_after m0
  have g1 := cell_after m1
  have g2 := cell_after t0'
  have g3 := cell_after t1'
  have HDq : Hid (∀ w1, Below W0.heap.size W0 w1 → _) := fun w1 h1 => HD.out w1 (btr hb0 h1)
  refine wp_region_after (by kernel_rfl) (by kernel_rfl) ?_
  repeat (go_big_quiet_step ((go_at_call 77; exact Calls.after (HDq.out _ (After.bel _)))))
  refine wpQuiet_nil ?_
  intro nq
  have hbe := btr hb0 nq.bel
  have hoe := own_below ho0 nq.bel
  go_wp2
  refine bodyPost_ret (v := .tuple #[.slice (some ⟨gl, 0, none⟩) l.length cl, .bool u]) (by simp [results, Try.results66, go_sem]) rfl ?_
  rw [HF.out]
  cases u with
  | true => exact ⟨_, _, _, rfl, fun m hm => by cases hm; exact ⟨rfl, hoe, fun k hk => .inl hk⟩, hbe⟩
  | false => exact ⟨_, _, _, rfl, (fun m hm => by cases hm), hbe⟩
set_option maxHeartbeats 16000000 in
set_option maxRecDepth 100000 in
theorem seek_step (xs : List Pr) (K : Nat) (A : Option Addr) (c f : Nat) (hn : xs.length ≤ 16) (hK8 : K ≤ 8) (hIH : SeekAt xs K A c f) : SeekAt xs K A c (f + 1) := by
  intro w l Al cl B _ h8 hx ho hBw
  have IH := Lib.hid hIH
  obtain ⟨N, hN⟩ : ∃ N, l.length + (f + 1) = N := ⟨_, rfl⟩
  rw [hN]
  have hb0 : Below w.heap.size w (w.alloc (.cells #[.int .i64 K, .slice A xs.length c] 27)) := bnew (Below.refl _ _) _
  have m0 : (w.alloc (.cells #[.int .i64 K, .slice A xs.length c] 27)).cell? ⟨w.heap.size, 0, none⟩ = some (.int .i64 K) := (World.cell?_alloc_at _ _ _ _ rfl).trans rfl
  have m1 : (w.alloc (.cells #[.int .i64 K, .slice A xs.length c] 27)).cell? ⟨w.heap.size, 1, none⟩ = some (.slice A xs.length c) := (World.cell?_alloc_at _ _ _ _ rfl).trans rfl
  have hx0 := hx.below hb0
  have ho0 := own_below ho hb0
  have hne : ((l.length : Int) == (N : Int)) = false := by simp; omega
  have HF : Hid (cycF xs K (f + 1) l = someFrom (fun k => if (hasK l k || (!l.isEmpty && !dirB xs (lastI l) k)) = true then none else cycF xs K f (l ++ [k])) 0 K) := rfl
  clear hx ho hIH
  generalize cycF xs K (f + 1) l = r at *
  go_enter Try.func66, Try.ntmps66
  go_wp2_with fail
  generalize w.alloc (.cells #[.int .i64 K, .slice A xs.length c] 27) = W0 at *
  go_loopw [8] (fun q wr => ∃ k : Nat, k ≤ K ∧ q = .int .i64 k ∧ Hid (r = someFrom (fun k => if (hasK l k || (!l.isEmpty && !dirB xs (lastI l) k)) = true then none else cycF xs K f (l ++ [k])) k K) ∧ Below W0.heap.size W0 wr) (fun q _ => K - (intOf q).toNat)
  case atStart => exact ⟨0, by omega, rfl, HF, Below.refl _ _⟩
  case round =>
    obtain ⟨k, hk, rfl, H, hb⟩ := hrel
    have m0r := cell_below' m0 hb
    have m1r := cell_below' m1 hb
    by_cases hlt : k < K
    · have hkI : (k : Int) < (K : Int) := by omega
      have H1 := Lib.hid (H.out.trans (someFrom_at hlt))
      have HDq0 : Hid (∀ w1, Below wr.heap.size wr w1 → Calls Try.prog 77 #[.agg #[.int .i64 K, .slice A xs.length c], .int .i64 (lastI l), .int .i64 (k : Int)] w1 fun e w' => e = .returned (.bool (dirB xs (lastI l) k)) ∧ Below w1.heap.size w1 w') := fun w1 h1 => l4Direct_any A c K xs _ _ w1 (by unfold maxLen; omega) ((hx0.below hb).below h1)
      have HH0 : Hid (∀ w1, Below wr.heap.size wr w1 → Calls Try.prog 62 #[.slice Al l.length cl, .int .i64 (k : Int)] w1 fun e w' => e = .returned (.bool (hasK l k)) ∧ w1 = w') := fun w1 h1 => l1Has_any Al cl l k w1 (by unfold maxLen; omega) ((own_rd (own_below ho0 hb)).below h1)
      have g0 := cell_after m0r
      have g1 := cell_after m1r
      clear H HF
      by_cases h1 : hasK l k = true
      · have Hf : Hid (r = someFrom (fun k => if (hasK l k || (!l.isEmpty && !dirB xs (lastI l) k)) = true then none else cycF xs K f (l ++ [k])) (k + 1) K) := H1.out.trans (by simp [h1])
        have HH := HH0
        rw [h1] at HH
        clear H1 h1 HH0 HDq0
        go_wp2_with fail
        refine wp_region_after (by kernel_rfl) (by kernel_rfl) ?_
        repeat (go_big_quiet_step (((go_at_call 62; exact Calls.after_same (HH.out _ (After.bel _))))))
        refine wpQuiet_nil ?_
        intro nq
        have hb7 := nq.bel
        generalize nq.val = w7 at *
        clear g0 g1
        go_wp2
        go_roundw
        case rel => exact ⟨k + 1, by omega, by go_num, Hf, btr hb hb7⟩
        case measure => simp [intOf]; omega
      have h1' : hasK l k = false := by simpa using h1
      have HH := HH0
      rw [h1'] at HH
      clear HH0
      by_cases h0 : 0 < l.length
      · have h0I : (0 : Int) < (l.length : Int) := by omega
        have hl0 : l.isEmpty = false := by cases l with | nil => simp at h0 | cons y ys => rfl
        obtain ⟨n1, hn1⟩ : ∃ n1, l.length = n1 + 1 := ⟨l.length - 1, by omega⟩
        have hln : (l.length : Int) - 1 = (n1 : Int) := by omega
        have hn1l : n1 < l.length := by omega
        have hn1I : (n1 : Int) < (l.length : Int) := by omega
        obtain ⟨gl, eAl, _, _⟩ := own_at ho0 h0
        subst eAl
        have hLA : l[n1]'hn1l = lastI l := by rw [← lastI_get h0]; congr 1; omega
        have t1 : wr.cell? ⟨gl, n1, none⟩ = some (.int .i64 (lastI l)) := by
          have := own_cell (own_below ho0 hb) (j := n1) (by simpa [intCells] using hn1l)
          rw [this, ← hLA]; simp [intCells]
        have g2 := cell_after t1
        clear hn1 hLA t1
        by_cases h2 : dirB xs (lastI l) k = true
        · have Hn : Hid (r = match cycF xs K f (l ++ [(k : Int)]) with | some m => some m | none => someFrom (fun k => if (hasK l k || (!l.isEmpty && !dirB xs (lastI l) k)) = true then none else cycF xs K f (l ++ [k])) (k + 1) K) := H1.out.trans (by simp [h1', hl0, h2])
          have HDq := HDq0
          rw [h2] at HDq
          clear H1 h1 h1' h2 HDq0 hl0
          go_wp2_with fail
          refine wp_region_after (by kernel_rfl) (by kernel_rfl) ?_
          repeat (go_big_quiet_step (((first | (go_at_call 62; exact Calls.after_same (HH.out _ (After.bel _))) | (go_at_call 77; exact Calls.after (HDq.out _ (After.bel _)))))))
          refine wpQuiet_nil ?_
          intro nq
          have hb7 := nq.bel
          generalize nq.val = w7 at *
          clear g0 g1
          clear g2
          have m07 := cell_below' m0r hb7
          have m17 := cell_below' m1r hb7
          have hx7 := (hx0.below hb).below hb7
          have hol7 := own_below (own_below ho0 hb) hb7
          have hb07 := btr hb hb7
          clear m0r m1r hb hb7
          have HLc : Hid (∀ w1, ClP w7.drew [] w1 → Calls Try.prog 87 #[.slice (some ⟨gl, 0, none⟩) l.length cl] w1 fun e w2 => ∃ u, e = .returned u ∧ w2.ownsRow w1.heap.size 3 1 u l.length (intCells l) ∧ w1.grownBy w2 none) := fun w1 h1 => by
            refine (l1Own_any (some ⟨gl, 0, none⟩) cl l w1 (by omega) (((own_rd hol7).drew).below (clP_below h1))).mono ?_
            rintro e w2 ⟨A1, c1, rfl, ho, hb⟩
            exact ⟨_, rfl, ho, grown_of_below hb⟩
          have HCy : Hid (∀ w1 A6 c6, ClP w7.drew [] w1 → w1.ownsRow w7.drew.heap.size 3 1 (.slice A6 (l.length + 1) c6) (l.length + 1) (intCells l ++ [.int .i64 (k : Int)]) → Calls Try.prog 66 #[.agg #[.int .i64 K, .slice A xs.length c], .slice A6 (l.length + 1) c6, .int .i64 N] w1 fun e w' => ∃ u, e = .returned u ∧ (∃ A n' c', u = .tuple #[.slice A n' c', .bool (cycF xs K f (l ++ [(k : Int)])).isSome] ∧ (∀ m, cycF xs K f (l ++ [(k : Int)]) = some m → n' = m.length ∧ w'.ownsRow w7.drew.heap.size 3 1 (.slice A m.length c') m.length (intCells m) ∧ (∀ k', (Value.slice A n' c').ownBlock = some k' → (Value.slice A6 (l.length + 1) c6).ownBlock = some k' ∨ w1.heap.size ≤ k')) ∧ Below w1.heap.size w1 w')) := fun w1 A6 c6 h1 ho6 => by
            have hlen : (l ++ [(k : Int)]).length = l.length + 1 := by simp
            have hcl : intCells (l ++ [(k : Int)]) = intCells l ++ [.int .i64 (k : Int)] := by simp [intCells]
            have := IH.out w1 (l ++ [(k : Int)]) A6 c6 w7.drew.heap.size (fun _ => by rw [hlen]; omega) (by rw [hlen]; omega) ((hx7.drew).below (clP_below h1)) (by rw [hlen, hcl]; exact ho6) (by obtain ⟨Nn, e⟩ := h1; rw [e]; exact Nn.size)
            rw [hlen, show l.length + 1 + f = N by omega] at this
            refine this.mono ?_
            rintro e w' ⟨A', n', c', rfl, hm, hbb⟩
            exact ⟨_, rfl, A', n', c', rfl, hm, hbb⟩
          have g0 := cell_cl (w := w7.drew) m07
          have g1 := cell_cl (w := w7.drew) m17
          have hX1 : ([.int .i64 (k : Int)] : List Value).length = 1 * 1 := rfl
          go_wp2_with fail
          refine wp_loose0 (U := fun _ => undef) (τ := lk [(2, rowS [] w7.drew.heap.size 3 1 l.length (intCells l)), (4, rowS [] w7.drew.heap.size 3 1 1 [.int .i64 (k : Int)]), (5, rowS [2, 4] w7.drew.heap.size 3 1 (l.length + 1) (intCells l ++ [.int .i64 (k : Int)])), (7, tupS [5] w7.drew.heap.size 3 (cycF xs K f (l ++ [(k : Int)])))]) (F := []) (by kernel_rfl) (by kernel_rfl) (fits_of rfl (by kernel_rfl)) (inv_start (by intro r s h; have := lk_mem h; simp at this; (first | omega | (simp only [List.length_cons, List.length_nil]; omega)))) ?_
          refine wpL_quiet 2 rfl rfl ?_
          simp only [List.take_succ_cons, List.take_zero, List.drop_succ_cons, List.drop_zero]
          repeat (go_big_quiet_step (fail))
          refine wpQuiet_nil ?_
          refine gives_loose rfl (ob_row (Nat.le_refl _) (fun w1 h1 _ => by simp [stepTo, stepUpon, go_sem]; exact HLc.out w1 h1)) ?_
          rintro u2 ⟨A2, c2, rfl⟩
          simp only [Act.put, List.setIfInBounds_toArray, List.set_cons_zero, List.set_cons_succ]
          refine wpL_quiet 1 rfl rfl ?_
          simp only [List.take_succ_cons, List.take_zero, List.drop_succ_cons, List.drop_zero]
          repeat (go_big_quiet_step (fail))
          refine wpQuiet_nil ?_
          refine gives_loose rfl (ob_lit (cs := #[.int .i64 (k : Int)]) (Nat.le_refl _) (by unfold maxLen; omega) rfl (fun w1 _ => ?_)) ?_
          · go_simp
          rintro ux ⟨Ax, cx, rfl⟩
          simp only [Act.put, List.setIfInBounds_toArray, List.set_cons_zero, List.set_cons_succ]
          refine gives_loose rfl (ob_app (.tmp 55) (.tmp 57) 33 rfl el_Int 2 rfl rfl rfl hX1 (ds := [4]) (fun w1 _ hh => own_rd (hh 4 (by simp) _ rfl)) (by simp [Value.oneCell']) (by unfold maxLen; omega) (by omega) (Nat.le_refl _)) ?_
          rintro u5 ⟨A5, c5, rfl⟩
          simp only [Act.put, List.setIfInBounds_toArray, List.set_cons_zero, List.set_cons_succ]
          refine wpL_quiet 1 rfl rfl ?_
          simp only [List.take_succ_cons, List.take_zero, List.drop_succ_cons, List.drop_zero]
          repeat (go_big_quiet_step (fail))
          refine wpQuiet_nil ?_
          refine gives_loose rfl (ob_tup (cd := [2, 4]) 5 rfl (fun w1 h1 ho => by simp [stepTo, stepUpon, go_sem]; exact HCy.out w1 A5 c5 h1 ho)) ?_
          rintro u7 ⟨A7, n7, c7, rfl⟩
          simp only [Act.put, List.setIfInBounds_toArray, List.set_cons_zero, List.set_cons_succ]
          refine wpL_quiet 5 rfl rfl ?_
          simp only [List.take_succ_cons, List.take_zero, List.drop_succ_cons, List.drop_zero]
          repeat (go_big_quiet_step (fail))
          refine wpQuiet_nil ?_
          refine wpL_nil ?_
          intro w8 hEnd
          obtain ⟨A7', n7', c7', e7, h7⟩ := ends_get hEnd 7 rfl rfl
          have e7' : Value.tuple #[.slice A7 n7 c7, .bool (cycF xs K f (l ++ [(k : Int)])).isSome] = .tuple #[.slice A7' n7' c7', .bool (cycF xs K f (l ++ [(k : Int)])).isSome] := e7
          have hb78 : Below w7.heap.size w7 w8 := btr (Below.refl w7.heap.size w7).drew (ends_below hEnd)
          simp only [Value.tuple.injEq, Array.mk.injEq, List.cons.injEq, Value.slice.injEq, and_true] at e7'
          obtain ⟨rfl, rfl, rfl⟩ := e7'
          have hb08 := btr hb07 hb78
          have hw7 : w.heap.size ≤ w7.heap.size := Nat.le_trans hb0.size hb07.size
          clear hEnd e7 g0 g1 HLc HCy hb78 m07 m17 hx7 hol7
          generalize cycF xs K f (l ++ [(k : Int)]) = rk at *
          cases rk with
          | none =>
            clear h7
            go_wp2
            go_roundw
            case rel => exact ⟨k + 1, by omega, by go_num, Hn, hb08⟩
            case measure => simp [intOf]; omega
          | some m =>
            obtain ⟨e9, ho9⟩ := h7 m rfl
            subst e9
            go_wp2
            refine bodyPost_ret (v := .tuple #[.slice A7 m.length c7, .bool true]) (by simp [results, Try.results66, go_sem]) rfl ?_
            rw [Hn.out]
            exact ⟨_, _, _, rfl, fun m' hm' => by cases hm'; exact ⟨rfl, own_base ho9 (Nat.le_trans hBw hw7), fun k' hk' => .inr (Nat.le_trans hw7 (ho9.lt k' hk').1)⟩, btr hb0 hb08⟩
        · have h2' : dirB xs (lastI l) k = false := by simpa using h2
          have Hf : Hid (r = someFrom (fun k => if (hasK l k || (!l.isEmpty && !dirB xs (lastI l) k)) = true then none else cycF xs K f (l ++ [k])) (k + 1) K) := H1.out.trans (by simp [h1', hl0, h2'])
          have HDq := HDq0
          rw [h2'] at HDq
          clear H1 h1 h1' h2 h2' HDq0 hl0
          go_wp2_with fail
          refine wp_region_after (by kernel_rfl) (by kernel_rfl) ?_
          repeat (go_big_quiet_step (((first | (go_at_call 62; exact Calls.after_same (HH.out _ (After.bel _))) | (go_at_call 77; exact Calls.after (HDq.out _ (After.bel _)))))))
          refine wpQuiet_nil ?_
          intro nq
          have hb7 := nq.bel
          generalize nq.val = w7 at *
          clear g0 g1
          clear g2
          go_wp2
          go_roundw
          case rel => exact ⟨k + 1, by omega, by go_num, Hf, btr hb hb7⟩
          case measure => simp [intOf]; omega
      · have h0I : ¬ (0 : Int) < (l.length : Int) := by omega
        have hl0 : l.isEmpty = true := by cases l with | nil => rfl | cons y ys => simp at h0
        have hgt : decide ((0 : Int) < (l.length : Int)) = false := by simpa using h0I
        have Hn : Hid (r = match cycF xs K f (l ++ [(k : Int)]) with | some m => some m | none => someFrom (fun k => if (hasK l k || (!l.isEmpty && !dirB xs (lastI l) k)) = true then none else cycF xs K f (l ++ [k])) (k + 1) K) := H1.out.trans (by simp [h1', hl0])
        clear H1 h1 h1' HDq0 hl0
        go_wp2_with fail
        refine wp_region_after (by kernel_rfl) (by kernel_rfl) ?_
        repeat (go_big_quiet_step (((go_at_call 62; exact Calls.after_same (HH.out _ (After.bel _))))))
        refine wpQuiet_nil ?_
        intro nq
        have hb7 := nq.bel
        generalize nq.val = w7 at *
        clear g0 g1
        have m07 := cell_below' m0r hb7
        have m17 := cell_below' m1r hb7
        have hx7 := (hx0.below hb).below hb7
        have hol7 := own_below (own_below ho0 hb) hb7
        have hb07 := btr hb hb7
        clear m0r m1r hb hb7
        have HLc : Hid (∀ w1, ClP w7.drew [] w1 → Calls Try.prog 87 #[.slice Al l.length cl] w1 fun e w2 => ∃ u, e = .returned u ∧ w2.ownsRow w1.heap.size 3 1 u l.length (intCells l) ∧ w1.grownBy w2 none) := fun w1 h1 => by
          refine (l1Own_any Al cl l w1 (by omega) (((own_rd hol7).drew).below (clP_below h1))).mono ?_
          rintro e w2 ⟨A1, c1, rfl, ho, hb⟩
          exact ⟨_, rfl, ho, grown_of_below hb⟩
        have HCy : Hid (∀ w1 A6 c6, ClP w7.drew [] w1 → w1.ownsRow w7.drew.heap.size 3 1 (.slice A6 (l.length + 1) c6) (l.length + 1) (intCells l ++ [.int .i64 (k : Int)]) → Calls Try.prog 66 #[.agg #[.int .i64 K, .slice A xs.length c], .slice A6 (l.length + 1) c6, .int .i64 N] w1 fun e w' => ∃ u, e = .returned u ∧ (∃ A n' c', u = .tuple #[.slice A n' c', .bool (cycF xs K f (l ++ [(k : Int)])).isSome] ∧ (∀ m, cycF xs K f (l ++ [(k : Int)]) = some m → n' = m.length ∧ w'.ownsRow w7.drew.heap.size 3 1 (.slice A m.length c') m.length (intCells m) ∧ (∀ k', (Value.slice A n' c').ownBlock = some k' → (Value.slice A6 (l.length + 1) c6).ownBlock = some k' ∨ w1.heap.size ≤ k')) ∧ Below w1.heap.size w1 w')) := fun w1 A6 c6 h1 ho6 => by
          have hlen : (l ++ [(k : Int)]).length = l.length + 1 := by simp
          have hcl : intCells (l ++ [(k : Int)]) = intCells l ++ [.int .i64 (k : Int)] := by simp [intCells]
          have := IH.out w1 (l ++ [(k : Int)]) A6 c6 w7.drew.heap.size (fun _ => by rw [hlen]; omega) (by rw [hlen]; omega) ((hx7.drew).below (clP_below h1)) (by rw [hlen, hcl]; exact ho6) (by obtain ⟨Nn, e⟩ := h1; rw [e]; exact Nn.size)
          rw [hlen, show l.length + 1 + f = N by omega] at this
          refine this.mono ?_
          rintro e w' ⟨A', n', c', rfl, hm, hbb⟩
          exact ⟨_, rfl, A', n', c', rfl, hm, hbb⟩
        have g0 := cell_cl (w := w7.drew) m07
        have g1 := cell_cl (w := w7.drew) m17
        have hX1 : ([.int .i64 (k : Int)] : List Value).length = 1 * 1 := rfl
        go_wp2_with fail
        refine wp_loose0 (U := fun _ => undef) (τ := lk [(2, rowS [] w7.drew.heap.size 3 1 l.length (intCells l)), (4, rowS [] w7.drew.heap.size 3 1 1 [.int .i64 (k : Int)]), (5, rowS [2, 4] w7.drew.heap.size 3 1 (l.length + 1) (intCells l ++ [.int .i64 (k : Int)])), (7, tupS [5] w7.drew.heap.size 3 (cycF xs K f (l ++ [(k : Int)])))]) (F := []) (by kernel_rfl) (by kernel_rfl) (fits_of rfl (by kernel_rfl)) (inv_start (by intro r s h; have := lk_mem h; simp at this; (first | omega | (simp only [List.length_cons, List.length_nil]; omega)))) ?_
        refine wpL_quiet 2 rfl rfl ?_
        simp only [List.take_succ_cons, List.take_zero, List.drop_succ_cons, List.drop_zero]
        repeat (go_big_quiet_step (fail))
        refine wpQuiet_nil ?_
        refine gives_loose rfl (ob_row (Nat.le_refl _) (fun w1 h1 _ => by simp [stepTo, stepUpon, go_sem]; exact HLc.out w1 h1)) ?_
        rintro u2 ⟨A2, c2, rfl⟩
        simp only [Act.put, List.setIfInBounds_toArray, List.set_cons_zero, List.set_cons_succ]
        refine wpL_quiet 1 rfl rfl ?_
        simp only [List.take_succ_cons, List.take_zero, List.drop_succ_cons, List.drop_zero]
        repeat (go_big_quiet_step (fail))
        refine wpQuiet_nil ?_
        refine gives_loose rfl (ob_lit (cs := #[.int .i64 (k : Int)]) (Nat.le_refl _) (by unfold maxLen; omega) rfl (fun w1 _ => ?_)) ?_
        · go_simp
        rintro ux ⟨Ax, cx, rfl⟩
        simp only [Act.put, List.setIfInBounds_toArray, List.set_cons_zero, List.set_cons_succ]
        refine gives_loose rfl (ob_app (.tmp 55) (.tmp 57) 33 rfl el_Int 2 rfl rfl rfl hX1 (ds := [4]) (fun w1 _ hh => own_rd (hh 4 (by simp) _ rfl)) (by simp [Value.oneCell']) (by unfold maxLen; omega) (by omega) (Nat.le_refl _)) ?_
        rintro u5 ⟨A5, c5, rfl⟩
        simp only [Act.put, List.setIfInBounds_toArray, List.set_cons_zero, List.set_cons_succ]
        refine wpL_quiet 1 rfl rfl ?_
        simp only [List.take_succ_cons, List.take_zero, List.drop_succ_cons, List.drop_zero]
        repeat (go_big_quiet_step (fail))
        refine wpQuiet_nil ?_
        refine gives_loose rfl (ob_tup (cd := [2, 4]) 5 rfl (fun w1 h1 ho => by simp [stepTo, stepUpon, go_sem]; exact HCy.out w1 A5 c5 h1 ho)) ?_
        rintro u7 ⟨A7, n7, c7, rfl⟩
        simp only [Act.put, List.setIfInBounds_toArray, List.set_cons_zero, List.set_cons_succ]
        refine wpL_quiet 5 rfl rfl ?_
        simp only [List.take_succ_cons, List.take_zero, List.drop_succ_cons, List.drop_zero]
        repeat (go_big_quiet_step (fail))
        refine wpQuiet_nil ?_
        refine wpL_nil ?_
        intro w8 hEnd
        obtain ⟨A7', n7', c7', e7, h7⟩ := ends_get hEnd 7 rfl rfl
        have e7' : Value.tuple #[.slice A7 n7 c7, .bool (cycF xs K f (l ++ [(k : Int)])).isSome] = .tuple #[.slice A7' n7' c7', .bool (cycF xs K f (l ++ [(k : Int)])).isSome] := e7
        have hb78 : Below w7.heap.size w7 w8 := btr (Below.refl w7.heap.size w7).drew (ends_below hEnd)
        simp only [Value.tuple.injEq, Array.mk.injEq, List.cons.injEq, Value.slice.injEq, and_true] at e7'
        obtain ⟨rfl, rfl, rfl⟩ := e7'
        have hb08 := btr hb07 hb78
        have hw7 : w.heap.size ≤ w7.heap.size := Nat.le_trans hb0.size hb07.size
        clear hEnd e7 g0 g1 HLc HCy hb78 m07 m17 hx7 hol7
        generalize cycF xs K f (l ++ [(k : Int)]) = rk at *
        cases rk with
        | none =>
          clear h7
          go_wp2
          go_roundw
          case rel => exact ⟨k + 1, by omega, by go_num, Hn, hb08⟩
          case measure => simp [intOf]; omega
        | some m =>
          obtain ⟨e9, ho9⟩ := h7 m rfl
          subst e9
          go_wp2
          refine bodyPost_ret (v := .tuple #[.slice A7 m.length c7, .bool true]) (by simp [results, Try.results66, go_sem]) rfl ?_
          rw [Hn.out]
          exact ⟨_, _, _, rfl, fun m' hm' => by cases hm'; exact ⟨rfl, own_base ho9 (Nat.le_trans hBw hw7), fun k' hk' => .inr (Nat.le_trans hw7 (ho9.lt k' hk').1)⟩, btr hb0 hb08⟩
    · have hkI : ¬ (k : Int) < (K : Int) := by omega
      have Hf : Hid (r = none) := H.out.trans (someFrom_end (by omega))
      clear H HF
      go_wp2
      refine bodyPost_ret (v := .tuple #[.slice (some ⟨wr.heap.size, 0, none⟩) 0 0, .bool false]) (by simp [results, Try.results66, go_sem]) rfl ?_
      rw [Hf.out]
      exact ⟨_, _, _, rfl, (fun m hm => by cases hm), btr hb0 (bnew hb _)⟩
theorem seek_any (xs : List Pr) (K : Nat) (A : Option Addr) (c : Nat) (hn : xs.length ≤ 16) (hK8 : K ≤ 8) : ∀ f, SeekAt xs K A c f
  | 0 => seek_zero xs K A c hn
  | f + 1 => seek_step xs K A c f hn hK8 (seek_any xs K A c hn hK8 f)
/-- The lengths from n on, up to K. -/
def searchFrom (xs : List Pr) (K : Nat) : Nat → Nat → Option (List Int)
  | 0, _ => none
  | d + 1, n => match cycF xs K n [] with
    | some m => some m
    | none => searchFrom xs K d (n + 1)
theorem searchFrom_is (xs : List Pr) (K : Nat) : ∀ d n, searchF xs K (n + d) = (match searchF xs K n with | some m => some m | none => searchFrom xs K d (n + 2))
  | 0, n => by cases searchF xs K n <;> simp [searchFrom]
  | d + 1, n => by
    rw [show n + (d + 1) = (n + 1) + d by omega, searchFrom_is xs K d (n + 1)]
    show (match (match searchF xs K n with | some m => some m | none => cycF xs K (n + 2) []) with | some m => some m | none => searchFrom xs K d (n + 1 + 2)) = _
    cases h : searchF xs K n with
    | some m => rfl
    | none =>
      simp only [searchFrom]
theorem search_is {xs : List Pr} {K : Nat} (hin : InK xs K) (hne : ∀ x ∈ xs, x.a ≠ x.b) (hK : 1 ≤ K) : searchFrom xs K (K - 1) 2 = bestF xs K := by
  have h1 := searchFrom_is xs K (K - 1) 0
  rw [Nat.zero_add] at h1
  rw [← search_best hin hne hK, h1]
  rfl
set_option maxHeartbeats 8000000 in
set_option maxRecDepth 100000 in
theorem specCycle_any (A : Option Addr) (c : Nat) (p : Prec) (w : World) (hn : p.over.length ≤ maxLen) (_ : p.over.length ≤ c) (hx : Rd w A (prCells p.over)) :
    Calls Try.prog 34 #[.agg #[.int .i64 p.kinds, .slice A p.over.length c]] w fun en w' => ∃ A' c', en = .returned (.tuple #[.slice A' (cycR p).1.length c', .bool (cycR p).2]) ∧ w'.ownsRow w.heap.size 3 1 (.slice A' (cycR p).1.length c') (cycR p).1.length (intCells (cycR p).1) ∧ Below w.heap.size w w' := by
  obtain ⟨r, hr⟩ : ∃ r, r = cycR p := ⟨_, rfl⟩
  rw [← hr]
  have hb0 : Below w.heap.size w (w.alloc (.cells #[.int .i64 p.kinds, .slice A p.over.length c] 27)) := bnew (Below.refl _ _) _
  have B0 : Blk (w.alloc (.cells #[.int .i64 p.kinds, .slice A p.over.length c] 27)) w.heap.size 27 [.int .i64 p.kinds, .slice A p.over.length c] := Blk.made #[.int .i64 p.kinds, .slice A p.over.length c] rfl
  have Hv : Hid (Calls Try.prog 52 #[.agg #[.int .i64 p.kinds, .slice A p.over.length c]] (w.alloc (.cells #[.int .i64 p.kinds, .slice A p.over.length c] 27)) fun e w' => e = .returned (.bool (goodPc p)) ∧ Below (w.alloc (.cells #[.int .i64 p.kinds, .slice A p.over.length c] 27)).heap.size (w.alloc (.cells #[.int .i64 p.kinds, .slice A p.over.length c] 27)) w') := l4Good_any A c p _ hn (hx.below hb0)
  have hx0 := hx.below hb0
  unfold cycR at hr
  have HRE := Lib.hid hr
  clear hr hx hn
  have m0 := B0.cell (j := 0) rfl
  have m1 := B0.cell (j := 1) rfl
  by_cases hg : goodPc p = true
  rotate_left
  · have hg' : goodPc p = false := by simpa using hg
    have HR := Lib.hid (HRE.out.trans (if_neg hg))
    rw [hg'] at Hv
    clear HRE hg hg' hx0
    go_enter Try.func34, Try.ntmps34
    go_wp2_with (go_at_call 52; refine Hv.out.mono ?_; rintro en w1 ⟨rfl, hb1⟩)
    exact bodyPost_ret (v := .tuple #[.slice (some ⟨w1.heap.size, 0, none⟩) 0 0, .bool false]) (by simp [results, Try.results34, go_sem]) rfl ⟨some ⟨w1.heap.size, 0, none⟩, 0, by rw [HR.out]; rfl, by rw [HR.out]; exact own_lit (e := 3) (size := 1) (w := w1) #[] 0 (Nat.le_trans hb0.size hb1.size) (by unfold maxLen; omega) rfl, bnew (btr hb0 hb1) _⟩
  have HR := Lib.hid (HRE.out.trans (if_pos hg))
  clear HRE
  rw [hg] at Hv
  obtain ⟨hk1, hk8, h16, hin, hnn⟩ := goodPc_in hg
  obtain ⟨ks, xs⟩ := p
  simp only at *
  obtain ⟨K, rfl⟩ : ∃ K : Nat, ks = (K : Int) := ⟨ks.toNat, by omega⟩
  simp only [Int.toNat_natCast] at hin HR
  rw [← search_is hin hnn (by omega)] at HR
  have IH : Hid (∀ f, SeekAt xs K A c f) := fun f => seek_any xs K A c h16 (by omega) f
  clear hg hin hnn
  go_enter Try.func34, Try.ntmps34
  go_wp2_with fail
  refine Hv.out.mono ?_
  rintro en w1 ⟨rfl, hb1⟩
  have m0a := cell_below' m0 hb1
  have m1a := cell_below' m1 hb1
  have hbw := btr hb0 hb1
  have hx1 := hx0.below hb1
  clear Hv m0 m1 hb0 hb1 hx0
  go_wp2_with fail
  go_loopw [4] (fun q wr => ∃ n : Nat, 2 ≤ n ∧ n ≤ K + 1 ∧ q = .int .i64 n ∧ Hid (r = outR (searchFrom xs K (K + 1 - n) n)) ∧ Below w1.heap.size w1 wr) (fun q _ => K + 1 - (intOf q).toNat)
  case atStart => exact ⟨2, by omega, by omega, rfl, by have := HR.out; rwa [show K - 1 = K + 1 - 2 by omega] at this, Below.refl _ _⟩
  case round =>
    obtain ⟨n, hn2, hnK, rfl, H, hb⟩ := hrel
    have m0r := cell_below' m0a hb
    have m1r := cell_below' m1a hb
    by_cases hlt : n ≤ K
    · have hkI : (n : Int) ≤ (K : Int) := by omega
      obtain ⟨d, hd⟩ : ∃ d, K + 1 - n = d + 1 := ⟨K - n, by omega⟩
      have Hn : Hid (r = outR (match cycF xs K n [] with | some m => some m | none => searchFrom xs K d (n + 1))) := by have := H.out; rw [hd] at this; exact this
      have hd2 : d = K + 1 - (n + 1) := by omega
      have hbE := bnew (Below.refl wr.heap.size wr) (.cells #[] 3)
      have m0n := cell_below' m0r hbE
      have m1n := cell_below' m1r hbE
      have HC := Lib.hid (IH.out n (wr.alloc (.cells #[] 3)) [] (some ⟨wr.heap.size, 0, none⟩) 0 w.heap.size (by omega) (by simp; omega) ((hx1.below hb).below hbE) (own_lit (cs := #[]) (n := 0) (Nat.le_trans hbw.size hb.size) (by unfold maxLen; omega) rfl) (Nat.le_trans hbw.size (Nat.le_trans hb.size hbE.size)))
      simp only [List.length_nil, Nat.zero_add] at HC
      have hb2 := btr hb hbE
      clear H
      generalize cycF xs K n [] = rk at *
      cases rk with
      | none =>
        go_wp2_with (go_at_call 66; refine HC.out.mono ?_; rintro e w9 ⟨A9, n9, c9, rfl, _, hb9⟩)
        subst hd2
        go_roundw
        case rel => exact ⟨n + 1, by omega, by omega, by go_num, Hn, btr hb2 hb9⟩
        case measure => simp [intOf]; omega
      | some m =>
        go_wp2_with (go_at_call 66; refine HC.out.mono ?_; rintro e w9 ⟨A9, n9, c9, rfl, hm9, hb9⟩)
        obtain ⟨e9, ho9, _⟩ := hm9 m rfl
        subst e9
        exact bodyPost_ret (v := .tuple #[.slice A9 m.length c9, .bool true]) (by simp [results, Try.results34, go_sem]) rfl ⟨A9, c9, by rw [Hn.out]; rfl, by rw [Hn.out]; exact ho9, btr hbw (btr hb2 hb9)⟩
    · have hkI : ¬ (n : Int) ≤ (K : Int) := by omega
      have Hn : Hid (r = ([], false)) := by have := H.out; rw [show K + 1 - n = 0 by omega] at this; exact this
      clear H
      go_wp2
      exact bodyPost_ret (v := .tuple #[.slice (some ⟨wr.heap.size, 0, none⟩) 0 0, .bool false]) (by simp [results, Try.results34, go_sem]) rfl ⟨some ⟨wr.heap.size, 0, none⟩, 0, by rw [Hn.out]; rfl, by rw [Hn.out]; exact own_lit (e := 3) (size := 1) (w := wr) #[] 0 (Nat.le_trans hbw.size hb.size) (by unfold maxLen; omega) rfl, btr hbw (bnew hb _)⟩
theorem cycR_len (p : Prec) : (cycR p).1.length ≤ 8 := by
  unfold cycR
  split
  · rename_i hg
    obtain ⟨_, hk8, _, hin, _⟩ := goodPc_in hg
    cases h : bestF p.over p.kinds.toNat with
    | none => simp [outR]
    | some m =>
      have := bestF_len hin h
      simp only [outR]; omega
  · simp
end Go.Proofs.Ytdbcbaahjhaonaa
