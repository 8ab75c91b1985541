/-
  Contracts of slices.Delete and slices.Insert at pairs, on a row of the caller's own. Conditions: the indexes lie within the length.
-/
import Derived.Test.YtdbcbaahjhaonaaStrPr
import Derived.Test.YtdbcbaahjhaonaaRow
import Derived.Lib.SliceRun
namespace Go.Proofs.Ytdbcbaahjhaonaa
open Go.RowKit Go.My
def RowRet (w : World) (B : Nat) (e : TypeId) (size : Nat) (A : Option Addr) (c n : Nat) (cells : List Value) (row : Option Nat) (en : Ending) (w' : World) : Prop :=
  en = .returned (.slice A n c) ∧ w'.ownsRow B e size (.slice A n c) n cells ∧ w.grownBy w' row
def RowRetN (w : World) (B : Nat) (e : TypeId) (size n : Nat) (cells : List Value) (row : Option Nat) (en : Ending) (w' : World) : Prop :=
  ∃ A c, en = .returned (.slice A n c) ∧ w'.ownsRow B e size (.slice A n c) n cells ∧ w.grownBy w' row ∧ ((Value.slice A n c).ownBlock = row ∨ ∃ k, (Value.slice A n c).ownBlock = some k ∧ w.heap.size ≤ k)
def RowRetE (w : World) (B : Nat) (e : TypeId) (size n : Nat) (cells : List Value) (row : Option Nat) (en : Ending) (w' : World) : Prop :=
  ∃ A c, en = .returned (.slice A n c) ∧ w'.ownsRow B e size (.slice A n c) n cells ∧ w.grownBy w' row
set_option maxHeartbeats 1000000 in
theorem delete_Pr (A : Option Addr) (c B : Nat) (xs ys : List Pr) (i j : Nat) (w : World) (hij : i ≤ j) (hj : j ≤ xs.length) (hn : xs.length ≤ 2097152) (ho : w.ownsRow B 52 2 (.slice A xs.length c) xs.length (prCells xs)) (hys : Hid (ys = xs.take i ++ xs.drop j)) :
    Calls Try.prog 63 #[.slice A xs.length c, .int .i64 i, .int .i64 j] w (RowRet w B 52 2 A c ys.length (prCells ys) (Value.slice A xs.length c).ownBlock) := by
  obtain ⟨A0, c0, e0, hnc⟩ := own_form ho
  simp only [Value.slice.injEq, true_and] at e0
  obtain ⟨rfl, rfl⟩ := e0
  by_cases h0 : i = j
  · subst h0
    have e1 : ys = xs := hys.out.trans (List.take_append_drop i xs)
    subst e1
    clear hys
    by_cases he : ys.length = i
    · subst he
      go_enter Try.func63, Try.ntmps63
      go_wp2
      go_ret
      exact ⟨rfl, ho, World.grownBy.refl _ _⟩
    · go_enter Try.func63, Try.ntmps63
      go_wp2
      go_ret
      exact ⟨rfl, ho, World.grownBy.refl _ _⟩
  · obtain ⟨g, rfl, hB, hg⟩ := own_at ho (by omega)
    have hlen : ys.length = i + (xs.length - j) := by rw [hys.out]; simp; omega
    obtain ⟨m, hm⟩ : ∃ m, m = xs.length := ⟨_, rfl⟩
    have hcut := (own_rd ho).cut0 j 2 c (by intro h; rw [prCells_len]; omega)
    have hpre := own_take ho (k := i) (by omega) (by simp)
    have hc : Hid (prCells ys = (prCells xs).take (i * 2) ++ (prCells xs).drop (j * 2)) := by
      show _ = _
      rw [hys.out, prCells_append, prCells_take _ _ (by omega), prCells_drop _ _ (by omega)]
    have hi1 : (i : Int) ≤ (xs.length : Int) := by omega
    have hj1 : (j : Int) ≤ (xs.length : Int) := by omega
    have hij1 : ((i : Int) == (j : Int)) = false := by simp; omega
    have hl2 : ((prCells xs).drop (j * 2)).length = (xs.length - j) * 2 := by rw [List.length_drop, prCells_len]; omega
    have h1c : ∀ u ∈ (prCells xs).drop (j * 2), u.oneCell' = true := fun u hu => prCells_one xs u (List.mem_of_mem_drop hu)
    generalize (prCells xs).drop (j * 2) = cs2 at *
    generalize (prCells xs).take (i * 2) = cs1 at *
    clear hys ho
    go_enter Try.func63, Try.ntmps63
    go_wp2_with fail
    refine wp_region_tail 6 (by kernel_rfl) (by kernel_rfl) ?_
    simp only [List.take_succ_cons, List.take_zero, List.drop_succ_cons, List.drop_zero]
    repeat (go_big_quiet_step (fail))
    refine wpQuiet_nil ?_
    refine wpl_fits rfl (.tmp 22) (.tmp 25) 22 rfl el_Pr rfl hpre rfl hl2 hcut h1c (by omega) ?_
    intro w1 ho1 hg1
    rw [show i + (xs.length - j) = ys.length by omega] at ho1 ⊢
    have hlt : ys.length < xs.length := by omega
    have hne : ¬ c = ys.length := by omega
    have hro : ys.length + (xs.length - ys.length) ≤ c := by omega
    have hz1 : ∀ c ∈ (Value.agg #[.int .i64 0, .int .i64 0]).cells.toList, c.oneCell' = true := by simp [Value.cells, Value.oneCell']
    clear hcut hl2 h1c hpre hlen
    generalize (if c = j then (some (⟨g, 0, none⟩ : Addr)) else some ⟨g, j * 2, none⟩) = A9
    go_wp2_with (refine wpl_clear rfl (.tmp 31) 22 rfl el_Pr zv_Pr hz1 rfl rfl rfl ho1 hro ?_; intro w2 ho2 hg2)
    go_ret
    exact ⟨rfl, by rw [hc.out]; exact ho2, ⟨hg2.os.trans hg1.os, hg2.tape.trans hg1.tape, hg2.output.trans hg1.output, Nat.le_trans hg1.size hg2.size, fun k hk hne => (hg2.block k (Nat.lt_of_lt_of_le hk hg1.size) hne).trans (hg1.block k hk hne)⟩⟩
set_option maxHeartbeats 2000000 in
set_option maxRecDepth 100000 in
theorem insertN_Pr (A : Option Addr) (c B : Nat) (xs ys : List Pr) (s : Pr) (i vb vc : Nat) (w : World) (hi : i ≤ xs.length) (hn : xs.length ≤ 2097152) (hB0 : B ≤ w.heap.size) (ho : w.ownsRow B 52 2 (.slice A xs.length c) xs.length (prCells xs))
    (hv : Blk w vb 52 s.cells) (hvB : some vb ≠ (Value.slice A xs.length c).ownBlock) (hys : Hid (ys = xs.take i ++ s :: xs.drop i)) :
    Calls Try.prog 79 #[.slice A xs.length c, .int .i64 i, .slice (some ⟨vb, 0, none⟩) 1 vc] w (RowRetN w B 52 2 ys.length (prCells ys) (Value.slice A xs.length c).ownBlock) := by
  obtain ⟨A0, c0, e0, hnc⟩ := own_form ho
  simp only [Value.slice.injEq, true_and] at e0
  obtain ⟨rfl, rfl⟩ := e0
  have hlen : ys.length = xs.length + 1 := by rw [hys.out]; simp; omega
  have hc : Hid (prCells ys = (prCells xs).take (i * 2) ++ s.cells ++ (prCells xs).drop (i * 2)) := by
    show _ = _
    rw [hys.out, prCells_append, prCells_take _ _ hi, prCells_drop _ _ hi]
    simp [prCells]
  have hS1 : ∀ u ∈ s.cells, u.oneCell' = true := by exact s.cells_one
  have hSl : s.cells.length = 2 := rfl
  clear hys
  by_cases he : i = xs.length
  · have hc2 : Hid (prCells ys = prCells xs ++ s.cells) := by
      show _ = _
      rw [hc.out, he, List.take_of_length_le (by rw [prCells_len]; exact Nat.le_refl _), List.drop_of_length_le (by rw [prCells_len]; exact Nat.le_refl _)]; simp
    subst he
    clear hc
    have hvr := hv.rd
    generalize s.cells = S at *
    generalize prCells ys = Y at *
    generalize hm : ys.length = m at *
    subst hlen
    clear hm
    by_cases hcc : c = xs.length
    · subst hcc
      go_enter Try.func79, Try.ntmps79
      go_wp2_with (at_builtin; refine wpl_app rfl (.tmp 23) (.tmp 24) 22 rfl el_Pr (v := .slice A xs.length xs.length) rfl ho rfl hSl hvr hS1 (by unfold maxLen; omega) (by omega) hB0 ?_; intro A1 c1 w1 ho1 hg1 hor1)
      go_ret
      exact ⟨_, _, rfl, by rw [hc2.out]; exact ho1, hg1, hor1.imp id (fun h => ⟨_, h, Nat.le_refl _⟩)⟩
    · go_enter Try.func79, Try.ntmps79
      go_wp2_with (at_builtin; refine wpl_app rfl (.tmp 23) (.tmp 24) 22 rfl el_Pr (v := .slice A xs.length c) rfl ho rfl hSl hvr hS1 (by unfold maxLen; omega) (by omega) hB0 ?_; intro A1 c1 w1 ho1 hg1 hor1)
      go_ret
      exact ⟨_, _, rfl, by rw [hc2.out]; exact ho1, hg1, hor1.imp id (fun h => ⟨_, h, Nat.le_refl _⟩)⟩
  · obtain ⟨g, rfl, hB, hg⟩ := own_at ho (by omega)
    have hvg : vb ≠ g := fun e => hvB (by simp [Value.ownBlock, e])
    have hil : i < xs.length := by omega
    have hiI : (i : Int) < (xs.length : Int) := by omega
    have hne : ((i : Int) == (xs.length : Int)) = false := by simp; omega
    have hci : ¬ c = i := by omega
    have hD1 : ∀ u ∈ (prCells xs).drop (i * 2), u.oneCell' = true := fun u hu => prCells_one xs u (List.mem_of_mem_drop hu)
    have hDl : ((prCells xs).drop (i * 2)).length = (xs.length - i) * 2 := by rw [List.length_drop, prCells_len]; omega
    have hXl := prCells_len xs
    obtain ⟨L, hL, hLl, hLt, -, -, hcm⟩ := own_blk' ho
    have hrd : Rd w (some ⟨g, i * 2, none⟩) ((prCells xs).drop (i * 2)) := by
      have := (own_rd ho).cut0 i 2 c (by intro h; omega)
      rwa [if_neg hci] at this
    unfold maxLen at hcm
    obtain ⟨D, hD⟩ : ∃ D, D = (prCells xs).drop (i * 2) := ⟨_, rfl⟩
    obtain ⟨X, hX⟩ : ∃ X, X = prCells xs := ⟨_, rfl⟩
    rw [← hX] at hXl hLt hD hc
    rw [← hX, ← hD] at hD1 hDl hrd
    rw [← hD] at hc
    have HD := Lib.hid hD
    have HX := Lib.hid hX
    clear hD hX
    by_cases hroom : xs.length + 1 ≤ c
    · have hroomI : (xs.length : Int) + 1 ≤ (c : Int) := by omega
      have hsb := hv.lt
      have hov : ∀ (n' c' : Nat), (callFunc 91 #[.slice (some ⟨vb, 0, none⟩) 1 vc, .slice (some ⟨g, (i + 1) * 2, none⟩) n' c']).run Try.prog w = .ok (.value (.bool false)) w := by
        intro n' c'
        have sv : w.shape? vb = some (52, 2) := by unfold World.shape?; rw [show w.heap[vb]? = _ from hv]; simp [hSl]
        have sg : w.shape? g = some (52, L.length) := by unfold World.shape?; rw [show w.heap[g]? = _ from hL]; simp
        have fv : ∀ o, w.frozen? ⟨vb, o, none⟩ = false := fun o => by unfold World.frozen?; rw [show w.heap[vb]? = _ from hv]; simp
        rw [run_callFunc_extern Try.func91 (by kernel_rfl) (by kernel_rfl) (by kernel_rfl) (e := Extern.SlicesOverlaps.overlaps #[22, 22] #[4]) (by kernel_rfl),
          Lib.run_overlaps_apart w _ _ 52 Try.underlying22 2 (fun w => by kernel_rfl) ⟨vb, 0, none⟩ ⟨g, (i + 1) * 2, none⟩ _ _ _ _ hvg _ _ _ _ sv sg (by omega) (fv 0) (fv _)]
        rfl
      go_enter Try.func79, Try.ntmps79
      go_wp2_with fail
      clear hov
      refine wp_region_tail 8 (by kernel_rfl) (by kernel_rfl) ?_
      simp only [List.take_succ_cons, List.take_zero, List.drop_succ_cons, List.drop_zero]
      repeat (go_big_quiet_step (fail))
      refine wpQuiet_nil ?_
      refine wpl_copy rfl (.tmp 73) (.tmp 76) 22 22 rfl el_Pr (off := (i + 1) * 2) hL (news := D) rfl rfl (fun _ => rfl) hrd ?_ ?_ hD1 ?_
      · rw [hDl, show Nat.min (xs.length + 1 - i) (xs.length - i) = xs.length - i from Nat.min_eq_right (by omega)]
      · omega
      · intro w1 hL1 hg1
        have hg1' := grown_drew hg1
        have hv1 := (hv.grown hg1' (by simp [hvg])).rd
        have hl1 : (splice L ((i + 1) * 2) D).length = L.length := splice_len _ _ _ (by omega)
        go_wp2_with (refine wpl_copy rfl (.tmp 80) (.tmp 81) 22 22 rfl el_Pr (off := i * 2) hL1 (news := s.cells) rfl rfl (fun _ => rfl) hv1 (by rw [hSl, show Nat.min 1 (xs.length + 1 - i) = 1 from Nat.min_eq_left (by omega)]) (by omega) hS1 ?_; intro w2 hL2 hg2)
        go_ret
        have hl2 : (splice (splice L ((i + 1) * 2) D) (i * 2) s.cells).length = L.length := (splice_len _ _ _ (by omega)).trans hl1
        have ho2 := hL2.own (B := B) (n := xs.length + 1) (cap := c) (size := 2) hB hroom (by unfold maxLen; omega) (by omega)
        rw [show (xs.length + 1) * 2 = xs.length * 2 + 2 by omega, show (i + 1) * 2 = i * 2 + 2 by omega, ins_room L X s.cells D (xs.length * 2) (i * 2) 2 hLt hXl (by omega) hSl HD.out (by omega)] at ho2
        refine ⟨_, _, by rw [hlen]; rfl, ?_, grown_trans hg1' hg2, .inl rfl⟩
        rw [hc.out, hlen]
        exact ho2
    · have hroomI : (c : Int) < (xs.length : Int) + 1 := by omega
      go_enter Try.func79, Try.ntmps79
      go_wp2_with (first | (at_builtin; refine wpl_zeros rfl (.tmp 34) (.tmp 39) 22 3 rfl Try.underlying3 el_Pr (n := i) (cap := c) rfl (own_rd (own_take ho (k := i) (by omega) (by simp))) (by rw [List.length_take, prCells_len]; omega) (k := xs.length + 1 - i) rfl (by omega) (by omega) (by omega) (by simp) (by omega) (by omega) ?_; intro G L1 w1 hL1 hG1 hG2 hG3 hG4 hg1; rw [show i + (xs.length + 1 - i) = xs.length + 1 from by omega]; unfold maxLen at hG3; have hGi : ¬ G = i := (by omega); have hGj : ¬ G = i + 1 := (by omega); have hGn : xs.length + 1 ≤ G := (by omega); have hv1 := (hv.grown hg1 (by simp)).rd; have hrd1 := hrd.grown hg1 (by simp)) | (refine wpl_copy rfl (.tmp 43) (.tmp 44) 22 22 rfl el_Pr (off := i * 2) hL1 (news := s.cells) rfl rfl (fun _ => rfl) hv1 (by rw [hSl, show Nat.min 1 (xs.length + 1 - i) = 1 from Nat.min_eq_left (by omega)]) (by omega) hS1 ?_; intro w2 hL2 hg2))
      go_frame
      refine wp_region_tail 8 (by kernel_rfl) (by kernel_rfl) ?_
      simp only [List.take_succ_cons, List.take_zero, List.drop_succ_cons, List.drop_zero]
      repeat (go_big_quiet_step (fail))
      refine wpQuiet_nil ?_
      have hrd2 := hrd1.grown hg2 (by simp; omega)
      have hl1 : (splice L1 (i * 2) s.cells).length = L1.length := splice_len _ _ _ (by omega)
      refine wpl_copy rfl (.tmp 50) (.tmp 53) 22 22 rfl el_Pr (off := (i + 1) * 2) hL2 (news := D) rfl rfl (fun _ => rfl) hrd2 (by rw [hDl, show Nat.min (xs.length - i) (xs.length - i) = xs.length - i from Nat.min_self _]) (by omega) hD1 ?_
      intro w3 hL3 hg3
      replace hg3 := grown_drew hg3
      go_wp2
      go_ret
      have hl2 : (splice (splice L1 (i * 2) s.cells) ((i + 1) * 2) D).length = L1.length := (splice_len _ _ _ (by omega)).trans hl1
      have ho2 := hL3.own (B := B) (n := xs.length + 1) (cap := G) (size := 2) hB0 hGn (by unfold maxLen; omega) (by omega)
      rw [show (xs.length + 1) * 2 = xs.length * 2 + 2 by omega, show (i + 1) * 2 = i * 2 + 2 by omega, ins_grow L1 X s.cells D (xs.length * 2) (i * 2) 2 (by rw [hG4, HX.out]) hXl (by omega) hSl HD.out (by omega)] at ho2
      refine ⟨_, _, by rw [hlen]; rfl, ?_, grown_new (grown_new (grown_wide hg1) hg2 (Nat.le_refl _)) hg3 (Nat.le_refl _), .inr ⟨_, rfl, Nat.le_refl _⟩⟩
      rw [hc.out, hlen]
      exact ho2
theorem insert_Pr (A : Option Addr) (c B : Nat) (xs ys : List Pr) (s : Pr) (i vb vc : Nat) (w : World) (hi : i ≤ xs.length) (hn : xs.length ≤ 2097152) (hB0 : B ≤ w.heap.size) (ho : w.ownsRow B 52 2 (.slice A xs.length c) xs.length (prCells xs))
    (hv : Blk w vb 52 s.cells) (hvB : some vb ≠ (Value.slice A xs.length c).ownBlock) (hys : Hid (ys = xs.take i ++ s :: xs.drop i)) :
    Calls Try.prog 79 #[.slice A xs.length c, .int .i64 i, .slice (some ⟨vb, 0, none⟩) 1 vc] w (RowRetE w B 52 2 ys.length (prCells ys) (Value.slice A xs.length c).ownBlock) := (insertN_Pr A c B xs ys s i vb vc w hi hn hB0 ho hv hvB hys).mono fun _ _ ⟨A', c', h1, h2, h3, _⟩ => ⟨A', c', h1, h2, h3⟩
set_option maxHeartbeats 1000000 in
theorem clone_Pr (A : Option Addr) (c : Nat) (xs : List Pr) (w : World) (hn : xs.length ≤ 2097152) (hx : Rd w A (prCells xs)) :
    Calls Try.prog 64 #[.slice A xs.length c] w (RowRetE w w.heap.size 52 2 xs.length (prCells xs) none) := by
  cases A with
  | none =>
    have h0 : xs = [] := by
      rcases hx with h | ⟨b, off, e, _⟩
      · exact List.eq_nil_of_length_eq_zero (by have := prCells_len xs; rw [h] at this; simp at this; omega)
      · cases e
    subst h0
    have hnil : ∀ w, (binOp .eql 22 (.slice none 0 c) (.slice none 0 0)).run Try.prog w = .ok (.bool true) w := fun w => Lib.run_eql_slice_nil w _ _ none 0 c 0 0 Try.underlying22
    go_enter Try.func64, Try.ntmps64
    go_wp2
    exact bodyPost_ret (v := .slice none 0 0) (by simp [results, Try.results64, go_sem]) rfl ⟨none, 0, rfl, own_nil, World.grownBy.refl _ _⟩
  | some ad =>
    have hl0 := prCells_len xs
    have h10 := prCells_one xs
    have hnil : ∀ w, (binOp .eql 22 (.slice (some ad) xs.length c) (.slice none 0 0)).run Try.prog w = .ok (.bool false) w := fun w => Lib.run_eql_slice_nil w _ _ (some ad) _ c 0 0 Try.underlying22
    go_enter Try.func64, Try.ntmps64
    go_wp2_with (at_builtin; refine wpl_app rfl (.tmp 5) (.tmp 6) 22 rfl el_Pr (v := .slice (some ⟨w.heap.size, 0, none⟩) 0 0) rfl (own_lit (e := 52) (size := 2) (B := w.heap.size) (w := w) #[] 0 (Nat.le_refl _) (by unfold maxLen; omega) rfl) rfl hl0 (hx.alloc (.cells #[] 52)) h10 (by unfold maxLen; omega) (by omega) (by simp) ?_; intro A1 c1 w3 ho1 hg1 _; simp only [Nat.zero_add, List.nil_append] at ho1)
    exact bodyPost_ret (v := .slice A1 xs.length c1) (by simp [results, Try.results64, go_sem]) rfl ⟨A1, c1, rfl, ho1, grown_new (w1 := w.alloc (.cells #[] 52)) (row := none) (g := w.heap.size) (by exact ⟨rfl, rfl, rfl, by simp, fun k hk _ => Below.heap_alloc w _ k hk⟩) (by simpa [Value.ownBlock] using hg1) (Nat.le_refl _)⟩
end Go.Proofs.Ytdbcbaahjhaonaa

