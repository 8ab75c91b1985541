/-
  Contracts of slices.Delete and slices.Insert at Rule, on a row of the caller's own. Conditions: the indexes lie within the length.
-/
import Derived.Test.YtljbllinlhgklaaStrRul
import Derived.Test.YtljbllinlhgklaaRow
namespace Go.Proofs.Ytljbllinlhgklaa
open Go.RowKit Go.My
theorem zv_Rul (w : World) : (zeroValue 35).run Try.prog w = .ok (.agg #[.int .i64 0, .string ⟨#[]⟩, .int .i64 0, .bool false, .bool false, .bool false, .int .i64 0]) w := by kernel_rfl
theorem rulCells_take (xs : List Rul) (k : Nat) (hk : k ≤ xs.length) : (rulCells xs).take (k * 7) = rulCells (xs.take k) := flat_take _ 7 (fun _ => rfl) xs k hk
theorem rulCells_drop (xs : List Rul) (k : Nat) (hk : k ≤ xs.length) : (rulCells xs).drop (k * 7) = rulCells (xs.drop k) := flat_drop _ 7 (fun _ => rfl) xs k hk
theorem rulCells_append (xs ys : List Rul) : rulCells (xs ++ ys) = rulCells xs ++ rulCells ys := by simp [rulCells]
def RowRet (w : World) (B : Nat) (e : TypeId) (size : Nat) (A : Option Addr) (c n : Nat) (cells : List Value) (row : Option Nat) (en : Ending) (w' : World) : Prop :=
  en = .returned (.slice A n c) ∧ w'.ownsRow B e size (.slice A n c) n cells ∧ w.grownBy w' row
def RowRetE (w : World) (B : Nat) (e : TypeId) (size n : Nat) (cells : List Value) (row : Option Nat) (en : Ending) (w' : World) : Prop :=
  ∃ A c, en = .returned (.slice A n c) ∧ w'.ownsRow B e size (.slice A n c) n cells ∧ w.grownBy w' row
set_option maxHeartbeats 2000000 in
set_option maxRecDepth 100000 in
theorem insert_Rul (A : Option Addr) (c B : Nat) (xs ys : List Rul) (s : Rul) (i vb vc : Nat) (w : World) (hi : i ≤ xs.length) (hn : xs.length ≤ 2097152) (hB0 : B ≤ w.heap.size) (ho : w.ownsRow B 35 7 (.slice A xs.length c) xs.length (rulCells xs))
    (hv : Blk w vb 35 s.cells) (hvB : some vb ≠ (Value.slice A xs.length c).ownBlock) (hys : Hid (ys = xs.take i ++ s :: xs.drop i)) :
    Calls Try.prog 29 #[.slice A xs.length c, .int .i64 i, .slice (some ⟨vb, 0, none⟩) 1 vc] w (RowRetE w B 35 7 ys.length (rulCells ys) (Value.slice A xs.length c).ownBlock) := by
  obtain ⟨A0, c0, e0, hnc⟩ := own_form ho
  simp only [Value.slice.injEq, true_and] at e0
  obtain ⟨rfl, rfl⟩ := e0
  have hlen : ys.length = xs.length + 1 := by rw [hys.out]; simp; omega
  have hc : Hid (rulCells ys = (rulCells xs).take (i * 7) ++ s.cells ++ (rulCells xs).drop (i * 7)) := by
    show _ = _
    rw [hys.out, rulCells_append, rulCells_take _ _ hi, rulCells_drop _ _ hi]
    simp [rulCells]
  have hS1 : ∀ u ∈ s.cells, u.oneCell' = true := by exact s.cells_one
  have hSl : s.cells.length = 7 := rfl
  clear hys
  by_cases he : i = xs.length
  · have hc2 : Hid (rulCells ys = rulCells xs ++ s.cells) := by
      show _ = _
      rw [hc.out, he, List.take_of_length_le (by rw [rulCells_len]; exact Nat.le_refl _), List.drop_of_length_le (by rw [rulCells_len]; exact Nat.le_refl _)]; simp
    subst he
    clear hc
    have hvr := hv.rd
    generalize s.cells = S at *
    generalize rulCells ys = Y at *
    generalize hm : ys.length = m at *
    subst hlen
    clear hm
    by_cases hcc : c = xs.length
    · subst hcc
      go_enter Try.func29, Try.ntmps29
      go_wp2_with (at_builtin; refine wpl_app rfl (.tmp 23) (.tmp 24) 24 rfl el_Rul (v := .slice A xs.length xs.length) rfl ho rfl hSl hvr hS1 (by unfold maxLen; omega) (by omega) hB0 ?_; intro A1 c1 w1 ho1 hg1 _)
      go_ret
      exact ⟨_, _, rfl, by rw [hc2.out]; exact ho1, hg1⟩
    · go_enter Try.func29, Try.ntmps29
      go_wp2_with (at_builtin; refine wpl_app rfl (.tmp 23) (.tmp 24) 24 rfl el_Rul (v := .slice A xs.length c) rfl ho rfl hSl hvr hS1 (by unfold maxLen; omega) (by omega) hB0 ?_; intro A1 c1 w1 ho1 hg1 _)
      go_ret
      exact ⟨_, _, rfl, by rw [hc2.out]; exact ho1, hg1⟩
  · obtain ⟨g, rfl, hB, hg⟩ := own_at ho (by omega)
    have hvg : vb ≠ g := fun e => hvB (by simp [Value.ownBlock, e])
    have hil : i < xs.length := by omega
    have hiI : (i : Int) < (xs.length : Int) := by omega
    have hne : ((i : Int) == (xs.length : Int)) = false := by simp; omega
    have hci : ¬ c = i := by omega
    have hD1 : ∀ u ∈ (rulCells xs).drop (i * 7), u.oneCell' = true := fun u hu => rulCells_one xs u (List.mem_of_mem_drop hu)
    have hDl : ((rulCells xs).drop (i * 7)).length = (xs.length - i) * 7 := by rw [List.length_drop, rulCells_len]; omega
    have hXl := rulCells_len xs
    obtain ⟨L, hL, hLl, hLt, -, -, hcm⟩ := own_blk' ho
    have hrd : Rd w (some ⟨g, i * 7, none⟩) ((rulCells xs).drop (i * 7)) := by
      have := (own_rd ho).cut0 i 7 c (by intro h; omega)
      rwa [if_neg hci] at this
    unfold maxLen at hcm
    obtain ⟨D, hD⟩ : ∃ D, D = (rulCells xs).drop (i * 7) := ⟨_, rfl⟩
    obtain ⟨X, hX⟩ : ∃ X, X = rulCells xs := ⟨_, rfl⟩
    rw [← hX] at hXl hLt hD hc
    rw [← hX, ← hD] at hD1 hDl hrd
    rw [← hD] at hc
    have HD := Lib.hid hD
    have HX := Lib.hid hX
    clear hD hX
    by_cases hroom : xs.length + 1 ≤ c
    · have hroomI : (xs.length : Int) + 1 ≤ (c : Int) := by omega
      have hsb := hv.lt
      have hov : ∀ (n' c' : Nat), (callFunc 44 #[.slice (some ⟨vb, 0, none⟩) 1 vc, .slice (some ⟨g, (i + 1) * 7, none⟩) n' c']).run Try.prog w = .ok (.value (.bool false)) w := by
        intro n' c'
        have sv : w.shape? vb = some (35, 7) := by unfold World.shape?; rw [show w.heap[vb]? = _ from hv]; simp [hSl]
        have sg : w.shape? g = some (35, L.length) := by unfold World.shape?; rw [show w.heap[g]? = _ from hL]; simp
        have fv : ∀ o, w.frozen? ⟨vb, o, none⟩ = false := fun o => by unfold World.frozen?; rw [show w.heap[vb]? = _ from hv]; simp
        rw [run_callFunc_extern Try.func44 (by kernel_rfl) (by kernel_rfl) (by kernel_rfl) (e := Extern.SlicesOverlaps.overlaps #[24, 24] #[4]) (by kernel_rfl),
          Lib.run_overlaps_apart w _ _ 35 Try.underlying24 7 (fun w => by kernel_rfl) ⟨vb, 0, none⟩ ⟨g, (i + 1) * 7, none⟩ _ _ _ _ hvg _ _ _ _ sv sg (by omega) (fv 0) (fv _)]
        rfl
      go_enter Try.func29, Try.ntmps29
      go_wp2_with fail
      clear hov
      refine wp_region_tail 8 (by kernel_rfl) (by kernel_rfl) ?_
      simp only [List.take_succ_cons, List.take_zero, List.drop_succ_cons, List.drop_zero]
      repeat (go_big_quiet_step (fail))
      refine wpQuiet_nil ?_
      refine wpl_copy rfl (.tmp 73) (.tmp 76) 24 24 rfl el_Rul (off := (i + 1) * 7) hL (news := D) rfl rfl (fun _ => rfl) hrd ?_ ?_ hD1 ?_
      · rw [hDl, show Nat.min (xs.length + 1 - i) (xs.length - i) = xs.length - i from Nat.min_eq_right (by omega)]
      · omega
      · intro w1 hL1 hg1
        have hg1' := grown_drew hg1
        have hv1 := (hv.grown hg1' (by simp [hvg])).rd
        have hl1 : (splice L ((i + 1) * 7) D).length = L.length := splice_len _ _ _ (by omega)
        go_wp2_with (refine wpl_copy rfl (.tmp 80) (.tmp 81) 24 24 rfl el_Rul (off := i * 7) hL1 (news := s.cells) rfl rfl (fun _ => rfl) hv1 (by rw [hSl, show Nat.min 1 (xs.length + 1 - i) = 1 from Nat.min_eq_left (by omega)]) (by omega) hS1 ?_; intro w2 hL2 hg2)
        go_ret
        have hl2 : (splice (splice L ((i + 1) * 7) D) (i * 7) s.cells).length = L.length := (splice_len _ _ _ (by omega)).trans hl1
        have ho2 := hL2.own (B := B) (n := xs.length + 1) (cap := c) (size := 7) hB hroom (by unfold maxLen; omega) (by omega)
        rw [show (xs.length + 1) * 7 = xs.length * 7 + 7 by omega, show (i + 1) * 7 = i * 7 + 7 by omega, ins_room L X s.cells D (xs.length * 7) (i * 7) 7 hLt hXl (by omega) hSl HD.out (by omega)] at ho2
        refine ⟨_, _, by rw [hlen]; rfl, ?_, grown_trans hg1' hg2⟩
        rw [hc.out, hlen]
        exact ho2
    · have hroomI : (c : Int) < (xs.length : Int) + 1 := by omega
      go_enter Try.func29, Try.ntmps29
      go_wp2_with (first | (at_builtin; refine wpl_zeros rfl (.tmp 34) (.tmp 39) 24 3 rfl Try.underlying3 el_Rul (n := i) (cap := c) rfl (own_rd (own_take ho (k := i) (by omega) (by simp))) (by rw [List.length_take, rulCells_len]; omega) (k := xs.length + 1 - i) rfl (by omega) (by omega) (by omega) (by simp) (by omega) (by omega) ?_; intro G L1 w1 hL1 hG1 hG2 hG3 hG4 hg1; rw [show i + (xs.length + 1 - i) = xs.length + 1 from by omega]; unfold maxLen at hG3; have hGi : ¬ G = i := (by omega); have hGj : ¬ G = i + 1 := (by omega); have hGn : xs.length + 1 ≤ G := (by omega); have hv1 := (hv.grown hg1 (by simp)).rd; have hrd1 := hrd.grown hg1 (by simp)) | (refine wpl_copy rfl (.tmp 43) (.tmp 44) 24 24 rfl el_Rul (off := i * 7) hL1 (news := s.cells) rfl rfl (fun _ => rfl) hv1 (by rw [hSl, show Nat.min 1 (xs.length + 1 - i) = 1 from Nat.min_eq_left (by omega)]) (by omega) hS1 ?_; intro w2 hL2 hg2))
      go_frame
      refine wp_region_tail 8 (by kernel_rfl) (by kernel_rfl) ?_
      simp only [List.take_succ_cons, List.take_zero, List.drop_succ_cons, List.drop_zero]
      repeat (go_big_quiet_step (fail))
      refine wpQuiet_nil ?_
      have hrd2 := hrd1.grown hg2 (by simp; omega)
      have hl1 : (splice L1 (i * 7) s.cells).length = L1.length := splice_len _ _ _ (by omega)
      refine wpl_copy rfl (.tmp 50) (.tmp 53) 24 24 rfl el_Rul (off := (i + 1) * 7) hL2 (news := D) rfl rfl (fun _ => rfl) hrd2 (by rw [hDl, show Nat.min (xs.length - i) (xs.length - i) = xs.length - i from Nat.min_self _]) (by omega) hD1 ?_
      intro w3 hL3 hg3
      replace hg3 := grown_drew hg3
      go_wp2
      go_ret
      have hl2 : (splice (splice L1 (i * 7) s.cells) ((i + 1) * 7) D).length = L1.length := (splice_len _ _ _ (by omega)).trans hl1
      have ho2 := hL3.own (B := B) (n := xs.length + 1) (cap := G) (size := 7) hB0 hGn (by unfold maxLen; omega) (by omega)
      rw [show (xs.length + 1) * 7 = xs.length * 7 + 7 by omega, show (i + 1) * 7 = i * 7 + 7 by omega, ins_grow L1 X s.cells D (xs.length * 7) (i * 7) 7 (by rw [hG4, HX.out]) hXl (by omega) hSl HD.out (by omega)] at ho2
      refine ⟨_, _, by rw [hlen]; rfl, ?_, grown_new (grown_new (grown_wide hg1) hg2 (Nat.le_refl _)) hg3 (Nat.le_refl _)⟩
      rw [hc.out, hlen]
      exact ho2
end Go.Proofs.Ytljbllinlhgklaa

