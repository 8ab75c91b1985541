/-
  Contracts of the impl's search for the least cycle. Conditions: lengths within Go's range.
-/
import Derived.Test.YtdbcbaahjhaonaaCyc
import Derived.Test.YtdbcbaahjhaonaaOrd
import Derived.Test.YtdbcbaahjhaonaaLoose
import Derived.Lib.SliceRun
import Derived.Laws.EntriesVeiled
namespace Go.My
open Go.RowKit
theorem cmpL_nil_left (m : List Int) : cmpL [] m = if 0 < m.length then -1 else 0 := by cases m <;> simp [cmpL]
theorem cmpL_nil_right {l : List Int} (h : 0 < l.length) : cmpL l [] = 1 := by cases l <;> simp [cmpL] at h ⊢
theorem cmpL_at {l m : List Int} {k : Nat} (h1 : k < l.length) (h2 : k < m.length) : cmpL (l.drop k) (m.drop k) = if cmpI l[k] m[k] ≠ 0 then cmpI l[k] m[k] else cmpL (l.drop (k + 1)) (m.drop (k + 1)) := by
  rw [List.drop_eq_getElem_cons h1, List.drop_eq_getElem_cons h2]; rfl
/-- What the variable of the best cycle holds. -/
def BestIs (w : World) (B gb : Nat) (e t : TypeId) (b : Option (List Int)) (A : Option Addr) (c : Nat) : Prop := match b with
  | none => Blk w gb t [.slice none 0 0]
  | some m => Blk w gb t [.slice A m.length c] ∧ w.ownsRow B e 1 (.slice A m.length c) m.length (intCells m) ∧ some gb ≠ (Value.slice A m.length c).ownBlock ∧ 0 < m.length ∧ m.length ≤ 64
theorem BestIs.below {w w' : World} {B gb : Nat} {e t : TypeId} {b : Option (List Int)} {A : Option Addr} {c : Nat} (h : BestIs w B gb e t b A c) (hb : Below w.heap.size w w') : BestIs w' B gb e t b A c := by
  cases b with
  | none => exact Blk.below h hb
  | some m => exact ⟨h.1.below hb, own_below h.2.1 hb, h.2.2⟩
theorem BestIs.lt {w : World} {B gb : Nat} {e t : TypeId} {b : Option (List Int)} {A : Option Addr} {c : Nat} (h : BestIs w B gb e t b A c) : gb < w.heap.size := by
  cases b with
  | none => exact Blk.lt h
  | some m => exact h.1.lt
theorem BestIs.put {w : World} {B gb : Nat} {e t : TypeId} {b : Option (List Int)} {A A' : Option Addr} {c c' : Nat} {l : List Int} (h : BestIs w B gb e t b A c) (ho : w.ownsRow B e 1 (.slice A' l.length c') l.length (intCells l)) (hne : some gb ≠ (Value.slice A' l.length c').ownBlock) (h0 : 0 < l.length) (h64 : l.length ≤ 64) :
    BestIs (w.setCell ⟨gb, 0, none⟩ (.slice A' l.length c')) B gb e t (some l) A' c' := by
  have hk := ho.kept (grown_set (World.grownBy.refl w (some gb)) 0 (.slice A' l.length c')) (.inr (Ne.symm hne))
  cases b with
  | none => exact ⟨Blk.one h _, hk, hne, h0, h64⟩
  | some m => exact ⟨Blk.one h.1 _, hk, hne, h0, h64⟩
theorem fold_succ {α β : Type} (g : β → α → β) (b : β) (xs : List α) {k : Nat} (hk : k < xs.length) : (xs.take (k + 1)).foldl g b = g ((xs.take k).foldl g b) xs[k] := by
  rw [List.take_succ_eq_append_getElem hk, List.foldl_append]; rfl
end Go.My
namespace Go.Proofs.Ytdbcbaahjhaonaa
open Go.RowKit Go.My
theorem copyInts_any (A : Option Addr) (c : Nat) (xs : List Int) (w : World) (hn : xs.length ≤ 2097152) (hx : Rd w A (intCells xs)) :
    Calls Try.prog 72 #[.slice A xs.length c] w fun e w' => ∃ A' c', e = .returned (.slice A' xs.length c') ∧ w'.ownsRow w.heap.size 3 1 (.slice A' xs.length c') xs.length (intCells xs) ∧ Below w.heap.size w w' := by
  have ho := own_lit (e := 3) (size := 1) (B := w.heap.size) (w := w) #[] 0 (Nat.le_refl _) (by unfold maxLen; omega) rfl
  have hb := bnew (Below.refl w.heap.size w) (.cells #[] 3)
  have hr := hx.below hb
  have hl : (intCells xs).length = xs.length * 1 := by simp [intCells]
  have h1 : ∀ u ∈ intCells xs, u.oneCell' = true := by intro u hu; simp only [intCells, List.mem_map] at hu; obtain ⟨z, _, rfl⟩ := hu; rfl
  clear hx
  go_enter Try.func72, Try.ntmps72
  go_wp2_with (at_builtin; refine wpl_app rfl (.tmp 3) (.tmp 4) 33 rfl el_Int rfl ho rfl hl hr h1 (by unfold maxLen; omega) (by omega) hb.size ?_; intro A1 c1 w1 ho1 hg1 _)
  simp only [Nat.zero_add, List.nil_append] at ho1
  exact bodyPost_ret (v := .slice A1 xs.length c1) (by simp [results, Try.results72, go_sem]) rfl ⟨A1, c1, rfl, ho1, hb.grown hg1 hb.size (fun k hk => (ho.lt k hk).1)⟩
set_option maxHeartbeats 1000000 in
theorem compareL_any (A : Option Addr) (c : Nat) (l : List Int) (A2 : Option Addr) (c2 : Nat) (m : List Int) (w : World) (hl : l.length ≤ 64) (hm : m.length ≤ 64) (hx : Rd w A (intCells l)) (hy : Rd w A2 (intCells m)) :
    Calls Try.prog 70 #[.slice A l.length c, .slice A2 m.length c2] w fun e w' => e = .returned (.int .i64 (cmpL l m)) ∧ w = w' := by
  have HT : Hid (cmpL l m = cmpL (l.drop 0) (m.drop 0)) := rfl
  generalize cmpL l m = r at *
  go_enter Try.func70, Try.ntmps70
  go_wp2
  go_loop [11] (fun q => ∃ k : Nat, k ≤ l.length ∧ k ≤ m.length ∧ q = .int .i64 k ∧ Hid (r = cmpL (l.drop k) (m.drop k))) (fun q => l.length - (intOf q).toNat)
  case atStart => exact ⟨0, by omega, by omega, rfl, HT⟩
  case round =>
    obtain ⟨k, hk, hk2, rfl, H⟩ := hrel
    clear HT
    by_cases hlt : k < l.length
    · obtain ⟨b, off, rfl, c0⟩ := Rd.ints hx hlt
      have hkI : (k : Int) < (l.length : Int) := by omega
      by_cases hlt2 : k < m.length
      · obtain ⟨b', off', rfl, d0⟩ := Rd.ints hy hlt2
        have hkI2 : (k : Int) < (m.length : Int) := by omega
        have hkI3 : ¬ (m.length : Int) ≤ (k : Int) := by omega
        have Hn := Lib.hid (H.out.trans (cmpL_at hlt hlt2))
        generalize l[k] = x at *
        generalize m[k] = y at *
        clear H
        by_cases hc : cmpI x y = 0
        · have Hf := Lib.hid (Hn.out.trans (if_neg (by simp [hc])))
          have HC : Hid (∀ w1, Calls Try.prog 69 #[.int .i64 x, .int .i64 y] w1 fun e w' => e = .returned (.int .i64 0) ∧ w1 = w') := fun w1 => by have := cmpI_any x y w1; rwa [hc] at this
          clear Hn hc
          go_wp2_with (go_at_call 69; refine (HC.out _).mono ?_; rintro e w1 ⟨rfl, rfl⟩)
          go_round
          case rel => exact ⟨k + 1, by omega, by omega, by go_num, Hf⟩
          case measure => simp [intOf]; omega
        · have Hf := Lib.hid (Hn.out.trans (if_pos hc))
          have hc' : (cmpI x y != 0) = true := by simp [hc]
          have HC : Hid (∀ w1, Calls Try.prog 69 #[.int .i64 x, .int .i64 y] w1 fun e w' => e = .returned (.int .i64 (cmpI x y)) ∧ w1 = w') := fun w1 => cmpI_any x y w1
          clear Hn hc
          generalize cmpI x y = v at *
          go_wp2_with (go_at_call 69; refine (HC.out _).mono ?_; rintro e w1 ⟨rfl, rfl⟩)
          go_ret
          exact ⟨by rw [Hf.out]; rfl, rfl⟩
      · have hkI3 : (m.length : Int) ≤ (k : Int) := by omega
        have Hf : Hid (r = 1) := H.out.trans (by rw [List.drop_eq_nil_of_le (show m.length ≤ k by omega)]; exact cmpL_nil_right (by simp; omega))
        clear H
        go_wp2
        go_ret
        exact ⟨by rw [Hf.out]; rfl, rfl⟩
    · have hkI : ¬ (k : Int) < (l.length : Int) := by omega
      have Hf : Hid (r = if 0 < (m.drop k).length then -1 else 0) := H.out.trans (by rw [List.drop_eq_nil_of_le (show l.length ≤ k by omega)]; exact cmpL_nil_left _)
      clear H
      by_cases hq : l.length < m.length
      · have hqI : (l.length : Int) < (m.length : Int) := by omega
        have Hg : Hid (r = -1) := Hf.out.trans (if_pos (by simp; omega))
        clear Hf
        go_wp2
        go_ret
        exact ⟨by rw [Hg.out]; rfl, rfl⟩
      · have hqI : ¬ (l.length : Int) < (m.length : Int) := by omega
        have Hg : Hid (r = 0) := Hf.out.trans (if_neg (by simp; omega))
        clear Hf
        go_wp2
        go_ret
        exact ⟨by rw [Hg.out]; rfl, rfl⟩
/-- What a visit does. -/
def VisitAt (xs : List Pr) (K : Nat) (A : Option Addr) (c pb vb gb B f : Nat) : Prop := ∀ (w : World) (l : List Int) (Al : Option Addr) (cl : Nat) (b : Option (List Int)) (Ab : Option Addr) (cb : Nat), 0 < l.length → l.Nodup → (∀ x ∈ l, 0 ≤ x ∧ x < (K : Int)) → l.length + f = K + 1 →
  w.cell? ⟨pb, 0, none⟩ = some (.int .i64 K) → w.cell? ⟨pb, 1, none⟩ = some (.slice A xs.length c) → Rd w A (prCells xs) → w.cell? ⟨vb, 0, none⟩ = some (.func (.func 67) #[] #[.pointer (some ⟨pb, 0, none⟩), .pointer (some ⟨gb, 0, none⟩), .pointer (some ⟨vb, 0, none⟩)]) → BestIs w B gb 3 33 b Ab cb →
  w.ownsRow B 3 1 (.slice Al l.length cl) l.length (intCells l) → some gb ≠ (Value.slice Al l.length cl).ownBlock → B ≤ w.heap.size →
  Calls Try.prog 67 #[.slice Al l.length cl, .pointer (some ⟨pb, 0, none⟩), .pointer (some ⟨gb, 0, none⟩), .pointer (some ⟨vb, 0, none⟩)] w fun e w' => e = .returned (.tuple #[]) ∧ ∃ Ab' cb', BestIs w' B gb 3 33 (visF xs f l b) Ab' cb' ∧ w.grownBy w' (some gb)
set_option maxHeartbeats 16000000 in
set_option maxRecDepth 100000 in
theorem visit_step (xs : List Pr) (K : Nat) (A : Option Addr) (c pb vb gb B f : Nat) (hn : xs.length ≤ 16) (hK8 : K ≤ 8) (hin : InK xs K) (hpg : pb ≠ gb) (hvg : vb ≠ gb) (hAg : ∀ ad, A = some ad → ad.block ≠ gb ∨ xs = [])
    (hIH : VisitAt xs K A c pb vb gb B f) : VisitAt xs K A c pb vb gb B (f + 1) := by
  intro w l Al cl b Ab cb hl hnd hrg hlf m0 m1 hx mv hbst ho hlg hBw
  have IH := Lib.hid hIH
  have HIN := Lib.hid hin
  have HAG := Lib.hid hAg
  have HND := Lib.hid hnd
  have HRG := Lib.hid hrg
  have hl8 : l.length ≤ K := nodup_len hnd hrg
  obtain ⟨n1, hn1⟩ : ∃ n1, l.length = n1 + 1 := ⟨l.length - 1, by omega⟩
  have hln : (l.length : Int) - 1 = (n1 : Int) := by omega
  have hn1l : n1 < l.length := by omega
  have hn1I : (n1 : Int) < (l.length : Int) := by omega
  have h0I : (0 : Int) < (l.length : Int) := by omega
  obtain ⟨gl, eAl, hgB, hgw⟩ := own_at ho hl
  subst eAl
  have hLA : Hid (l[n1]'hn1l = lastI l) := by
    show _ = _
    have := lastI_get hl
    rw [← this]; congr 1; omega
  have hHD : Hid (l[0]'hl = headI l) := headI_get hl
  have t0 : w.cell? ⟨gl, 0, none⟩ = some (.int .i64 (headI l)) := by
    have := own_cell ho (j := 0) (by simpa [intCells] using hl)
    rw [this, ← hHD.out]; simp [intCells]
  have t1 : w.cell? ⟨gl, n1, none⟩ = some (.int .i64 (lastI l)) := by
    have := own_cell ho (j := n1) (by simpa [intCells] using hn1l)
    rw [this, ← hLA.out]; simp [intCells]
  have hgg : gl ≠ gb := fun e => hlg (by simp [Value.ownBlock, e])
  have HV : Hid (visF xs (f + 1) l b = xs.foldl (visX (visF xs f) l) b) := rfl
  clear hIH hin hAg hnd hrg hLA hHD hn1
  go_enter Try.func67, Try.ntmps67
  go_wp2_with fail
  go_loopw [10] (fun q wr => ∃ (j : Nat) (bj : Option (List Int)) (Aj : Option Addr) (cj : Nat), j ≤ xs.length ∧ q = .int .i64 j ∧ Hid ((xs.take j).foldl (visX (visF xs f) l) b = bj) ∧ BestIs wr B gb 3 33 bj Aj cj ∧ w.grownBy wr (some gb)) (fun q _ => xs.length - (intOf q).toNat)
  case atStart => exact ⟨0, b, Ab, cb, by omega, rfl, rfl, hbst, World.grownBy.refl w _⟩
  case round =>
    obtain ⟨j, bj, Aj, cj, hj, rfl, HF, hbj, hg⟩ := hrel
    by_cases hjl : j < xs.length
    · have hjI : (j : Int) < (xs.length : Int) := by omega
      have HXN : Hid (xs ≠ []) := fun h => by rw [h] at hjl; simp at hjl
      have m1r := hg.cell m1 (by simpa using hpg)
      have t0r := hg.cell t0 (by simpa using hgg)
      have t1r := hg.cell t1 (by simpa using hgg)
      have mvr := hg.cell mv (by simpa using hvg)
      have m0r := hg.cell m0 (by simpa using hpg)
      have hxr := hx.grown hg (fun ad e => by simpa using (HAG.out ad e).resolve_right HXN.out)
      have hor := ho.kept hg (.inr (Ne.symm hlg))
      obtain ⟨bA, off, eA, c0, c1⟩ := Rd.pr hxr hjl
      have HS := Lib.hid (fold_succ (visX (visF xs f) l) b xs hjl)
      rw [HF.out] at HS
      have hxin := HIN.out xs[j] (List.getElem_mem hjl)
      generalize xs[j] = x at *
      have HVX : Hid (visX (visF xs f) l bj x = if x.a = lastI l then (if hasK l x.b = true then (if x.b = headI l then takeB l bj else bj) else visF xs f (l ++ [x.b]) (if x.b = headI l then takeB l bj else bj)) else bj) := rfl
      have hbw := bnew (Below.refl wr.heap.size wr) (.cells #[.int .i64 x.a, .int .i64 x.b] 52)
      have n0 : (wr.alloc (.cells #[.int .i64 x.a, .int .i64 x.b] 52)).cell? ⟨wr.heap.size, 0, none⟩ = some (.int .i64 x.a) := (World.cell?_alloc_at _ _ _ _ rfl).trans rfl
      have n1' : (wr.alloc (.cells #[.int .i64 x.a, .int .i64 x.b] 52)).cell? ⟨wr.heap.size, 1, none⟩ = some (.int .i64 x.b) := (World.cell?_alloc_at _ _ _ _ rfl).trans rfl
      have hbN := hbj.below hbw
      have hgN := grown_below hg hbw
      have u0 := cell_below' t0r hbw
      have u1 := cell_below' t1r hbw
      have hpxg : wr.heap.size ≠ gb := by have := hbj.lt; omega
      have m0N := cell_below' m0r hbw
      have m1N := cell_below' m1r hbw
      have mvN := cell_below' mvr hbw
      have hxN := hxr.below hbw
      have hoN := own_below hor hbw
      subst eA
      go_wp2_with fail
      generalize wr.alloc (.cells #[.int .i64 x.a, .int .i64 x.b] 52) = wN at *
      generalize wr.heap.size = px at *
      clear c0 c1 hbw m0r m1r t0r t1r mvr hxr hor hbj hg HF
      have g0 := cell_after n0
      have g1 := cell_after u1
      by_cases h1 : x.a = lastI l
      rotate_left
      · have h1' : (x.a != lastI l) = true := by simp [h1]
        have HN : Hid ((xs.take (j + 1)).foldl (visX (visF xs f) l) b = bj) := HS.out.trans (HVX.out.trans (if_neg h1))
        clear HS HVX h1
        generalize lastI l = la at *
        refine wp_region_after (by kernel_rfl) (by kernel_rfl) ?_
        repeat (go_big_quiet_step (fail))
        refine wpQuiet_nil ?_
        intro nq
        go_wp2
        go_roundw
        case rel => exact ⟨j + 1, bj, Aj, cj, by omega, by go_num, HN, hbN.below nq.bel, grown_below hgN nq.bel⟩
        case measure => simp [intOf]; omega
      have HVY := Lib.hid (HVX.out.trans (if_pos h1))
      have h1' : (x.a != lastI l) = false := by simp [h1]
      clear HVX h1
      generalize lastI l = la at *
      refine wp_region_after (by kernel_rfl) (by kernel_rfl) ?_
      repeat (go_big_quiet_step (fail))
      refine wpQuiet_nil ?_
      intro nq
      have hbq := nq.bel
      generalize nq.val = wq at *
      clear g0 g1
      have n1q := cell_below' n1' hbq
      have u0q := cell_below' u0 hbq
      have m0q := cell_below' m0N hbq
      have m1q := cell_below' m1N hbq
      have mvq := cell_below' mvN hbq
      have hxq := hxN.below hbq
      have hoq := own_below hoN hbq
      have hbbq := hbN.below hbq
      have hgq := grown_below hgN hbq
      clear n0 n1' u0 u1 m0N m1N mvN hxN hoN hbN hgN hbq
      go_wp2_with fail
      have hnil : ∀ (w : World) (A : Option Addr) (n c : Nat), (binOp .eql 33 (.slice A n c) (.slice none 0 0)).run Try.prog w = .ok (.bool A.isNone) w := fun w A n c => Lib.run_eql_slice_nil w _ _ A n c 0 0 Try.underlying33
      have g0 := cell_after n1q
      have g1 := cell_after u0q
      by_cases h2 : x.b = headI l
      rotate_left
      · have HB1 : Hid ((if x.b = headI l then takeB l bj else bj) = bj) := if_neg h2
        have h2' : (x.b == headI l) = false := by simp [h2]
        clear h2
        refine wp_region_after (by kernel_rfl) (by kernel_rfl) ?_
        repeat (go_big_quiet_step (fail))
        refine wpQuiet_nil ?_
        intro nq
        have hb5' := nq.bel
        generalize nq.val = w5 at *
        clear g0 g1
        have n15 := cell_below' n1q hb5'
        have m05 := cell_below' m0q hb5'
        have m15 := cell_below' m1q hb5'
        have mv5 := cell_below' mvq hb5'
        have hx5 := hxq.below hb5'
        have ho5 := own_below hoq hb5'
        have hb5 := hbbq.below hb5'
        have hg5 := grown_below hgq hb5'
        clear n1q u0q m0q m1q mvq hxq hoq hbbq hgq hb5'
        generalize hb1 : bj = b1 at *
        generalize Aj = A5 at *
        generalize cj = c5 at *
        clear hb1
        have hgo : some gl ≠ some gb := by simpa using hgg
        by_cases h3 : hasK l x.b = true
        · have HN : Hid ((xs.take (j + 1)).foldl (visX (visF xs f) l) b = b1) := HS.out.trans (HVY.out.trans ((if_pos h3).trans HB1.out))
          have HC : Hid (Calls Try.prog 71 #[.slice (some ⟨gl, 0, none⟩) l.length cl, .int .i64 x.b] w5 fun e w' => e = .returned (.bool true) ∧ Below w5.heap.size w5 w') := by
            have := containsInt_any (some ⟨gl, 0, none⟩) cl l x.b w5 (by unfold maxLen; omega) (own_rd ho5)
            rw [show (l.any fun y => y == x.b) = true from h3] at this
            exact this
          clear HS HVY HB1 h3
          go_wp2_with (go_at_call 71; refine HC.out.mono ?_; rintro e w6 ⟨rfl, hb6⟩)
          go_roundw
          case rel => exact ⟨j + 1, b1, A5, c5, by omega, by go_num, HN, hb5.below hb6, grown_below hg5 hb6⟩
          case measure => simp [intOf]; omega
        · have h3' : hasK l x.b = false := by simpa using h3
          have HN : Hid ((xs.take (j + 1)).foldl (visX (visF xs f) l) b = visF xs f (l ++ [x.b]) b1) := HS.out.trans (HVY.out.trans ((if_neg h3).trans (by rw [HB1.out])))
          have hni : x.b ∉ l := fun h => h3 (hasK_iff.2 h)
          have HC : Hid (Calls Try.prog 71 #[.slice (some ⟨gl, 0, none⟩) l.length cl, .int .i64 x.b] w5 fun e w' => e = .returned (.bool false) ∧ Below w5.heap.size w5 w') := by
            have := containsInt_any (some ⟨gl, 0, none⟩) cl l x.b w5 (by unfold maxLen; omega) (own_rd ho5)
            rw [show (l.any fun y => y == x.b) = false from h3'] at this
            exact this
          have HND2 : Hid ((l ++ [x.b]).Nodup) := by
            show List.Nodup _
            rw [List.nodup_append]
            refine ⟨HND.out, by simp, fun a ha b hb => ?_⟩
            simp at hb; subst hb
            exact fun e => hni (e ▸ ha)
          have HRG2 : Hid (∀ y ∈ l ++ [x.b], 0 ≤ y ∧ y < (K : Int)) := by
            intro y hy
            rcases List.mem_append.1 hy with hy | hy
            · exact HRG.out y hy
            · simp at hy; subst hy; exact hxin.2
          clear HS HVY HB1 h3 h3' hni
          go_wp2_with (go_at_call 71; refine HC.out.mono ?_; rintro e w6 ⟨rfl, hb6⟩; have n16a := cell_below' n15 hb6)
          have m06 := cell_below' m05 hb6
          have m16 := cell_below' m15 hb6
          have mv6 := cell_below' mv5 hb6
          have hx6 := hx5.below hb6
          have ho6 := own_below ho5 hb6
          have hbb6 := hb5.below hb6
          have hg6 := grown_below hg5 hb6
          clear HC m05 m15 mv5 hx5 ho5 hb5 hg5 hb6 n15
          have HLc : Hid (∀ w1, ClP w6.drew [] w1 → Calls Try.prog 72 #[.slice (some ⟨gl, 0, none⟩) l.length cl] w1 fun e w2 => ∃ u, e = .returned u ∧ w2.ownsRow w1.heap.size 3 1 u l.length (intCells l) ∧ w1.grownBy w2 none) := fun w1 h1 => by
            refine (copyInts_any (some ⟨gl, 0, none⟩) cl l w1 (by omega) (((own_rd ho6).drew).below (clP_below h1))).mono ?_
            rintro e w2 ⟨A1, c1, rfl, ho, hb⟩
            exact ⟨_, rfl, ho, grown_of_below hb⟩
          have g0 := cell_cl (w := w6.drew) n16a
          have g1 := cell_cl (w := w6.drew) mv6
          have hX1 : ([.int .i64 x.b] : List Value).length = 1 * 1 := rfl
          refine wp_loose_tail0 (U := fun _ => undef) (τ := lk [(2, rowS [] w6.drew.heap.size 3 1 l.length (intCells l)), (5, rowS [] w6.drew.heap.size 3 1 1 [.int .i64 x.b]), (6, rowS [2, 5] w6.drew.heap.size 3 1 (l.length + 1) (intCells l ++ [.int .i64 x.b]))]) (F := []) 7 (by kernel_rfl) (by kernel_rfl) (fits_of rfl (by kernel_rfl)) (inv_start (by intro r s h; have := lk_mem h; simp at this; (first | omega | (simp only [List.length_cons, List.length_nil]; omega)))) ?_
          simp only [List.take_succ_cons, List.take_zero, List.drop_succ_cons, List.drop_zero]
          refine wpL_quiet 2 rfl rfl ?_
          simp only [List.take_succ_cons, List.take_zero, List.drop_succ_cons, List.drop_zero]
          repeat (go_big_quiet_step (fail))
          refine wpQuiet_nil ?_
          refine gives_loose rfl (ob_row (Nat.le_refl _) (fun w1 h1 _ => by simp [stepTo, stepUpon, go_sem]; exact HLc.out w1 h1)) ?_
          rintro u2 ⟨A2, c2, rfl⟩
          simp only [Act.put, List.setIfInBounds_toArray, List.set_cons_zero, List.set_cons_succ]
          refine wpL_quiet 2 rfl rfl ?_
          simp only [List.take_succ_cons, List.take_zero, List.drop_succ_cons, List.drop_zero]
          repeat (go_big_quiet_step (fail))
          refine wpQuiet_nil ?_
          refine gives_loose rfl (ob_lit (cs := #[.int .i64 x.b]) (Nat.le_refl _) (by unfold maxLen; omega) rfl (fun w1 _ => ?_)) ?_
          · go_simp
          rintro ux ⟨Ax, cx, rfl⟩
          simp only [Act.put, List.setIfInBounds_toArray, List.set_cons_zero, List.set_cons_succ]
          refine gives_loose rfl (ob_app (.tmp 54) (.tmp 57) 33 rfl el_Int 2 rfl rfl rfl hX1 (ds := [5]) (fun w1 _ hh => own_rd (hh 5 (by simp) _ rfl)) (by simp [Value.oneCell']) (by unfold maxLen; omega) (by omega) (Nat.le_refl _)) ?_
          rintro u6 ⟨A6, c6, rfl⟩
          simp only [Act.put, List.setIfInBounds_toArray, List.set_cons_zero, List.set_cons_succ]
          refine wpL_nil ?_
          intro w8 hEnd
          have hRow : w8.ownsRow w6.drew.heap.size 3 1 (.slice A6 (l.length + 1) c6) (l.length + 1) (intCells l ++ [.int .i64 x.b]) := ends_get hEnd 6 rfl rfl
          have hb68 : Below w6.heap.size w6 w8 := btr (Below.refl w6.heap.size w6).drew (ends_below hEnd)
          have hBw6 : B ≤ w6.heap.size := Nat.le_trans hBw hg6.size
          have hnb : some gb ≠ (Value.slice A6 (l.length + 1) c6).ownBlock := own_ne hRow hbb6.lt
          have HCv : Hid (Calls Try.prog 67 #[.slice A6 (l.length + 1) c6, .pointer (some ⟨pb, 0, none⟩), .pointer (some ⟨gb, 0, none⟩), .pointer (some ⟨vb, 0, none⟩)] w8 fun e w' => e = .returned (.tuple #[]) ∧ ∃ Ab' cb', BestIs w' B gb 3 33 (visF xs f (l ++ [x.b]) b1) Ab' cb' ∧ w8.grownBy w' (some gb)) := by
            have hlen : (l ++ [x.b]).length = l.length + 1 := by simp
            have hcl : intCells (l ++ [x.b]) = intCells l ++ [.int .i64 x.b] := by simp [intCells]
            have := IH.out w8 (l ++ [x.b]) A6 c6 b1 A5 c5 (by rw [hlen]; omega) HND2.out HRG2.out (by rw [hlen]; omega) (cell_below' m06 hb68) (cell_below' m16 hb68) (hx6.below hb68) (cell_below' mv6 hb68) (hbb6.below hb68)
              (by rw [hlen, hcl]; exact own_base hRow hBw6) (by rw [hlen]; exact hnb) (Nat.le_trans hBw6 hb68.size)
            rwa [hlen] at this
          have hg8 := grown_below hg6 hb68
          clear hEnd g0 g1 HLc hRow hnb HND2 HRG2 n16a m06 m16 mv6 hx6 ho6 hbb6 hb68
          go_wp2_with (go_at_call 67; refine HCv.out.mono ?_; rintro e w9 ⟨rfl, A9, c9, hb9, hg9⟩)
          go_roundw
          case rel => exact ⟨j + 1, _, A9, c9, by omega, by go_num, HN, hb9, grown_trans hg8 hg9⟩
          case measure => simp [intOf]; omega
      have h2' : (x.b == headI l) = true := by simp [h2]
      have HB0 : Hid ((if x.b = headI l then takeB l bj else bj) = takeB l bj) := if_pos h2
      clear h2
      cases bj with
      | none =>
        have HB1 : Hid ((if x.b = headI l then takeB l none else none) = some l) := HB0.out
        clear HB0
        have BB : Blk wq gb 33 [.slice none 0 0] := hbbq
        have kq : wq.cell? ⟨gb, 0, none⟩ = some (.slice none 0 0) := BB.cell (j := 0) rfl
        have g2 := cell_after kq
        refine wp_region_after (by kernel_rfl) (by kernel_rfl) ?_
        repeat (go_big_quiet_step (fail))
        refine wpQuiet_nil ?_
        intro nq
        have hb5' := nq.bel
        generalize nq.val = w5 at *
        have BB5 := BB.below hb5'
        clear g0 g1 g2 kq BB
        have n15o := cell_below' n1q hb5'
        have m05o := cell_below' m0q hb5'
        have m15o := cell_below' m1q hb5'
        have mv5o := cell_below' mvq hb5'
        have hx5o := hxq.below hb5'
        have ho5o := own_below hoq hb5'
        have hb5o := hbbq.below hb5'
        have hg5o := grown_below hgq hb5'
        clear n1q u0q m0q m1q mvq hxq hoq hbbq hgq hb5'
        have k5 : w5.cell? ⟨gb, 0, none⟩ = some (.slice none 0 0) := BB5.cell (j := 0) rfl
        have z5 : w5.frozen? ⟨gb, 0, none⟩ = false := BB5.frozen 0
        have hb5 : BestIs (w5.setCell ⟨gb, 0, none⟩ (.slice (some ⟨gl, 0, none⟩) l.length cl)) B gb 3 33 (some l) (some ⟨gl, 0, none⟩) cl := BestIs.put hb5o ho5o hlg hl (by omega)
        have n15 : (w5.setCell ⟨gb, 0, none⟩ (.slice (some ⟨gl, 0, none⟩) l.length cl)).cell? ⟨px, 1, none⟩ = some (.int .i64 x.b) := (World.cell?_setCell_other _ _ _ _ (by simp)).trans n15o
        have hgs : w5.grownBy (w5.setCell ⟨gb, 0, none⟩ (.slice (some ⟨gl, 0, none⟩) l.length cl)) (some gb) := grown_set (World.grownBy.refl w5 (some gb)) 0 _
        have m05 := hgs.cell m05o (by simpa using hpg)
        have m15 := hgs.cell m15o (by simpa using hpg)
        have mv5 := hgs.cell mv5o (by simpa using hvg)
        have hx5 := hx5o.grown hgs (fun ad e => by simpa using (HAG.out ad e).resolve_right HXN.out)
        have ho5 := ho5o.kept hgs (.inr (Ne.symm hlg))
        have hg5 := grown_trans hg5o hgs
        clear hb5o n15o hgs m05o m15o mv5o hx5o ho5o hg5o
        clear BB5
        generalize hb1 : some l = b1 at *
        clear hb1
        obtain ⟨A5, hA5⟩ : ∃ A5, A5 = (some ⟨gl, 0, none⟩ : Option Addr) := ⟨_, rfl⟩
        replace hb5 : BestIs (w5.setCell ⟨gb, 0, none⟩ (.slice (some ⟨gl, 0, none⟩) l.length cl)) B gb 3 33 b1 A5 cl := by rw [hA5]; exact hb5
        clear hA5
        obtain ⟨c5, hc5⟩ : ∃ c5, c5 = cl := ⟨_, rfl⟩
        replace hb5 : BestIs (w5.setCell ⟨gb, 0, none⟩ (.slice (some ⟨gl, 0, none⟩) l.length cl)) B gb 3 33 b1 A5 c5 := by rw [hc5]; exact hb5
        clear hc5
        have hgo : some gl ≠ some gb := by simpa using hgg
        by_cases h3 : hasK l x.b = true
        · have HN : Hid ((xs.take (j + 1)).foldl (visX (visF xs f) l) b = b1) := HS.out.trans (HVY.out.trans ((if_pos h3).trans HB1.out))
          have HC : Hid (Calls Try.prog 71 #[.slice (some ⟨gl, 0, none⟩) l.length cl, .int .i64 x.b] (w5.setCell ⟨gb, 0, none⟩ (.slice (some ⟨gl, 0, none⟩) l.length cl)) fun e w' => e = .returned (.bool true) ∧ Below (w5.setCell ⟨gb, 0, none⟩ (.slice (some ⟨gl, 0, none⟩) l.length cl)).heap.size (w5.setCell ⟨gb, 0, none⟩ (.slice (some ⟨gl, 0, none⟩) l.length cl)) w') := by
            have := containsInt_any (some ⟨gl, 0, none⟩) cl l x.b (w5.setCell ⟨gb, 0, none⟩ (.slice (some ⟨gl, 0, none⟩) l.length cl)) (by unfold maxLen; omega) (own_rd ho5)
            rw [show (l.any fun y => y == x.b) = true from h3] at this
            exact this
          clear HS HVY HB1 h3
          go_wp2_with (go_at_call 71; refine HC.out.mono ?_; rintro e w6 ⟨rfl, hb6⟩)
          go_roundw
          case rel => exact ⟨j + 1, b1, A5, c5, by omega, by go_num, HN, hb5.below hb6, grown_below hg5 hb6⟩
          case measure => simp [intOf]; omega
        · have h3' : hasK l x.b = false := by simpa using h3
          have HN : Hid ((xs.take (j + 1)).foldl (visX (visF xs f) l) b = visF xs f (l ++ [x.b]) b1) := HS.out.trans (HVY.out.trans ((if_neg h3).trans (by rw [HB1.out])))
          have hni : x.b ∉ l := fun h => h3 (hasK_iff.2 h)
          have HC : Hid (Calls Try.prog 71 #[.slice (some ⟨gl, 0, none⟩) l.length cl, .int .i64 x.b] (w5.setCell ⟨gb, 0, none⟩ (.slice (some ⟨gl, 0, none⟩) l.length cl)) fun e w' => e = .returned (.bool false) ∧ Below (w5.setCell ⟨gb, 0, none⟩ (.slice (some ⟨gl, 0, none⟩) l.length cl)).heap.size (w5.setCell ⟨gb, 0, none⟩ (.slice (some ⟨gl, 0, none⟩) l.length cl)) w') := by
            have := containsInt_any (some ⟨gl, 0, none⟩) cl l x.b (w5.setCell ⟨gb, 0, none⟩ (.slice (some ⟨gl, 0, none⟩) l.length cl)) (by unfold maxLen; omega) (own_rd ho5)
            rw [show (l.any fun y => y == x.b) = false from h3'] at this
            exact this
          have HND2 : Hid ((l ++ [x.b]).Nodup) := by
            show List.Nodup _
            rw [List.nodup_append]
            refine ⟨HND.out, by simp, fun a ha b hb => ?_⟩
            simp at hb; subst hb
            exact fun e => hni (e ▸ ha)
          have HRG2 : Hid (∀ y ∈ l ++ [x.b], 0 ≤ y ∧ y < (K : Int)) := by
            intro y hy
            rcases List.mem_append.1 hy with hy | hy
            · exact HRG.out y hy
            · simp at hy; subst hy; exact hxin.2
          clear HS HVY HB1 h3 h3' hni
          go_wp2_with (go_at_call 71; refine HC.out.mono ?_; rintro e w6 ⟨rfl, hb6⟩; have n16a := cell_below' n15 hb6)
          have m06 := cell_below' m05 hb6
          have m16 := cell_below' m15 hb6
          have mv6 := cell_below' mv5 hb6
          have hx6 := hx5.below hb6
          have ho6 := own_below ho5 hb6
          have hbb6 := hb5.below hb6
          have hg6 := grown_below hg5 hb6
          clear HC m05 m15 mv5 hx5 ho5 hb5 hg5 hb6 n15
          have HLc : Hid (∀ w1, ClP w6.drew [] w1 → Calls Try.prog 72 #[.slice (some ⟨gl, 0, none⟩) l.length cl] w1 fun e w2 => ∃ u, e = .returned u ∧ w2.ownsRow w1.heap.size 3 1 u l.length (intCells l) ∧ w1.grownBy w2 none) := fun w1 h1 => by
            refine (copyInts_any (some ⟨gl, 0, none⟩) cl l w1 (by omega) (((own_rd ho6).drew).below (clP_below h1))).mono ?_
            rintro e w2 ⟨A1, c1, rfl, ho, hb⟩
            exact ⟨_, rfl, ho, grown_of_below hb⟩
          have g0 := cell_cl (w := w6.drew) n16a
          have g1 := cell_cl (w := w6.drew) mv6
          have hX1 : ([.int .i64 x.b] : List Value).length = 1 * 1 := rfl
          refine wp_loose_tail0 (U := fun _ => undef) (τ := lk [(2, rowS [] w6.drew.heap.size 3 1 l.length (intCells l)), (5, rowS [] w6.drew.heap.size 3 1 1 [.int .i64 x.b]), (6, rowS [2, 5] w6.drew.heap.size 3 1 (l.length + 1) (intCells l ++ [.int .i64 x.b]))]) (F := []) 7 (by kernel_rfl) (by kernel_rfl) (fits_of rfl (by kernel_rfl)) (inv_start (by intro r s h; have := lk_mem h; simp at this; (first | omega | (simp only [List.length_cons, List.length_nil]; omega)))) ?_
          simp only [List.take_succ_cons, List.take_zero, List.drop_succ_cons, List.drop_zero]
          refine wpL_quiet 2 rfl rfl ?_
          simp only [List.take_succ_cons, List.take_zero, List.drop_succ_cons, List.drop_zero]
          repeat (go_big_quiet_step (fail))
          refine wpQuiet_nil ?_
          refine gives_loose rfl (ob_row (Nat.le_refl _) (fun w1 h1 _ => by simp [stepTo, stepUpon, go_sem]; exact HLc.out w1 h1)) ?_
          rintro u2 ⟨A2, c2, rfl⟩
          simp only [Act.put, List.setIfInBounds_toArray, List.set_cons_zero, List.set_cons_succ]
          refine wpL_quiet 2 rfl rfl ?_
          simp only [List.take_succ_cons, List.take_zero, List.drop_succ_cons, List.drop_zero]
          repeat (go_big_quiet_step (fail))
          refine wpQuiet_nil ?_
          refine gives_loose rfl (ob_lit (cs := #[.int .i64 x.b]) (Nat.le_refl _) (by unfold maxLen; omega) rfl (fun w1 _ => ?_)) ?_
          · go_simp
          rintro ux ⟨Ax, cx, rfl⟩
          simp only [Act.put, List.setIfInBounds_toArray, List.set_cons_zero, List.set_cons_succ]
          refine gives_loose rfl (ob_app (.tmp 54) (.tmp 57) 33 rfl el_Int 2 rfl rfl rfl hX1 (ds := [5]) (fun w1 _ hh => own_rd (hh 5 (by simp) _ rfl)) (by simp [Value.oneCell']) (by unfold maxLen; omega) (by omega) (Nat.le_refl _)) ?_
          rintro u6 ⟨A6, c6, rfl⟩
          simp only [Act.put, List.setIfInBounds_toArray, List.set_cons_zero, List.set_cons_succ]
          refine wpL_nil ?_
          intro w8 hEnd
          have hRow : w8.ownsRow w6.drew.heap.size 3 1 (.slice A6 (l.length + 1) c6) (l.length + 1) (intCells l ++ [.int .i64 x.b]) := ends_get hEnd 6 rfl rfl
          have hb68 : Below w6.heap.size w6 w8 := btr (Below.refl w6.heap.size w6).drew (ends_below hEnd)
          have hBw6 : B ≤ w6.heap.size := Nat.le_trans hBw hg6.size
          have hnb : some gb ≠ (Value.slice A6 (l.length + 1) c6).ownBlock := own_ne hRow hbb6.lt
          have HCv : Hid (Calls Try.prog 67 #[.slice A6 (l.length + 1) c6, .pointer (some ⟨pb, 0, none⟩), .pointer (some ⟨gb, 0, none⟩), .pointer (some ⟨vb, 0, none⟩)] w8 fun e w' => e = .returned (.tuple #[]) ∧ ∃ Ab' cb', BestIs w' B gb 3 33 (visF xs f (l ++ [x.b]) b1) Ab' cb' ∧ w8.grownBy w' (some gb)) := by
            have hlen : (l ++ [x.b]).length = l.length + 1 := by simp
            have hcl : intCells (l ++ [x.b]) = intCells l ++ [.int .i64 x.b] := by simp [intCells]
            have := IH.out w8 (l ++ [x.b]) A6 c6 b1 A5 c5 (by rw [hlen]; omega) HND2.out HRG2.out (by rw [hlen]; omega) (cell_below' m06 hb68) (cell_below' m16 hb68) (hx6.below hb68) (cell_below' mv6 hb68) (hbb6.below hb68)
              (by rw [hlen, hcl]; exact own_base hRow hBw6) (by rw [hlen]; exact hnb) (Nat.le_trans hBw6 hb68.size)
            rwa [hlen] at this
          have hg8 := grown_below hg6 hb68
          clear hEnd g0 g1 HLc hRow hnb HND2 HRG2 n16a m06 m16 mv6 hx6 ho6 hbb6 hb68
          go_wp2_with (go_at_call 67; refine HCv.out.mono ?_; rintro e w9 ⟨rfl, A9, c9, hb9, hg9⟩)
          go_roundw
          case rel => exact ⟨j + 1, _, A9, c9, by omega, by go_num, HN, hb9, grown_trans hg8 hg9⟩
          case measure => simp [intOf]; omega
      | some m =>
        obtain ⟨BB, hom, hnm, hm0, hm64⟩ : Blk wq gb 33 [.slice Aj m.length cj] ∧ wq.ownsRow B 3 1 (.slice Aj m.length cj) m.length (intCells m) ∧ some gb ≠ (Value.slice Aj m.length cj).ownBlock ∧ 0 < m.length ∧ m.length ≤ 64 := hbbq
        obtain ⟨gm, eAj, _, _⟩ := own_at hom hm0
        subst eAj
        have HTk : Hid (takeB l (some m) = if cmpN l m < 0 then some l else some m) := by show _ = _; simp [takeB, betterB]
        have HCN : Hid (cmpN l m = if cmpI (l.length : Int) m.length ≠ 0 then cmpI (l.length : Int) m.length else cmpL l m) := rfl
        have C1 : Hid (∀ w1, Calls Try.prog 69 #[.int .i64 l.length, .int .i64 m.length] w1 fun e w' => e = .returned (.int .i64 (cmpI (l.length : Int) m.length)) ∧ w' = w1) := fun w1 => (cmpI_any _ _ w1).mono fun _ _ h => ⟨h.1, h.2.symm⟩
        have C2 : Hid (Calls Try.prog 70 #[.slice (some ⟨gl, 0, none⟩) l.length cl, .slice (some ⟨gm, 0, none⟩) m.length cj] wq.drew fun e w' => e = .returned (.int .i64 (cmpL l m)) ∧ w' = wq.drew) := (compareL_any _ cl l _ cj m wq.drew (by omega) hm64 (own_rd hoq).drew (own_rd hom).drew).mono fun _ _ h => ⟨h.1, h.2.symm⟩
        have d0 : wq.drew.cell? ⟨px, 1, none⟩ = some (.int .i64 x.b) := n1q
        have d1 : wq.drew.cell? ⟨gl, 0, none⟩ = some (.int .i64 (headI l)) := u0q
        have d2 : wq.drew.cell? ⟨gb, 0, none⟩ = some (.slice (some ⟨gm, 0, none⟩) m.length cj) := BB.cell (j := 0) rfl
        generalize cmpI (l.length : Int) m.length = u1 at *
        generalize cmpL l m = u2 at *
        have HO : Hid (∀ w1 A c, Rd w1 A [.int .i64 u1, .int .i64 u2] → Calls Try.prog 68 #[.slice A 2 c] w1 fun e w' => e = .returned (.int .i64 (cmpN l m)) ∧ w1 = w') := fun w1 A c h => by rw [HCN.out]; exact or2_any A c u1 u2 w1 h
        clear HCN g0 g1
        refine wp_region_tail 18 (by kernel_rfl) (by kernel_rfl) ?_
        simp only [List.take_succ_cons, List.take_zero, List.drop_succ_cons, List.drop_zero]
        repeat (go_big_quiet_step (fail))
        go_big_quiet_want
        go_big_quiet_op
        apply Exists.intro
        refine ⟨?_, ?_⟩
        · exact C1.out _
        go_big_quiet_on
        repeat (go_big_quiet_step (fail))
        go_big_quiet_want
        go_big_quiet_op
        apply Exists.intro
        refine ⟨?_, ?_⟩
        · exact C2.out
        go_big_quiet_on
        repeat (go_big_quiet_step (fail))
        refine wpQuiet_nil ?_
        clear d0 d1 d2
        have hrd : Rd (wq.alloc (.cells #[.int .i64 u1, .int .i64 u2] 3)).drew (some ⟨wq.heap.size, 0, none⟩) [.int .i64 u1, .int .i64 u2] := Rd.made.drew
        have hb5' : Below wq.heap.size wq (wq.alloc (.cells #[.int .i64 u1, .int .i64 u2] 3)).drew := (bnew (Below.refl wq.heap.size wq) _).drew
        by_cases hc : cmpN l m < 0
        · have hcd : decide (cmpN l m < 0) = true := by simpa using hc
          have HB1 : Hid ((if x.b = headI l then takeB l (some m) else some m) = some l) := HB0.out.trans (HTk.out.trans (if_pos hc))
          clear HB0 HTk
          generalize cmpN l m = vc at *
          have BB5 := BB.below hb5'
          have hbbq : BestIs wq B gb 3 33 (some m) (some ⟨gm, 0, none⟩) cj := ⟨BB, hom, hnm, hm0, hm64⟩
          have n15o := cell_below' n1q hb5'
          have m05o := cell_below' m0q hb5'
          have m15o := cell_below' m1q hb5'
          have mv5o := cell_below' mvq hb5'
          have hx5o := hxq.below hb5'
          have ho5o := own_below hoq hb5'
          have hb5o := hbbq.below hb5'
          have hg5o := grown_below hgq hb5'
          clear n1q u0q BB hom m0q m1q mvq hxq hoq hbbq hgq hb5'
          have k5 : (wq.alloc (.cells #[.int .i64 u1, .int .i64 u2] 3)).drew.cell? ⟨gb, 0, none⟩ = some (.slice (some ⟨gm, 0, none⟩) m.length cj) := BB5.cell (j := 0) rfl
          have z5 : (wq.alloc (.cells #[.int .i64 u1, .int .i64 u2] 3)).drew.frozen? ⟨gb, 0, none⟩ = false := BB5.frozen 0
          have hb5 : BestIs ((wq.alloc (.cells #[.int .i64 u1, .int .i64 u2] 3)).drew.setCell ⟨gb, 0, none⟩ (.slice (some ⟨gl, 0, none⟩) l.length cl)) B gb 3 33 (some l) (some ⟨gl, 0, none⟩) cl := BestIs.put hb5o ho5o hlg hl (by omega)
          have n15 : ((wq.alloc (.cells #[.int .i64 u1, .int .i64 u2] 3)).drew.setCell ⟨gb, 0, none⟩ (.slice (some ⟨gl, 0, none⟩) l.length cl)).cell? ⟨px, 1, none⟩ = some (.int .i64 x.b) := (World.cell?_setCell_other _ _ _ _ (by simp)).trans n15o
          have hgs : (wq.alloc (.cells #[.int .i64 u1, .int .i64 u2] 3)).drew.grownBy ((wq.alloc (.cells #[.int .i64 u1, .int .i64 u2] 3)).drew.setCell ⟨gb, 0, none⟩ (.slice (some ⟨gl, 0, none⟩) l.length cl)) (some gb) := grown_set (World.grownBy.refl (wq.alloc (.cells #[.int .i64 u1, .int .i64 u2] 3)).drew (some gb)) 0 _
          have m05 := hgs.cell m05o (by simpa using hpg)
          have m15 := hgs.cell m15o (by simpa using hpg)
          have mv5 := hgs.cell mv5o (by simpa using hvg)
          have hx5 := hx5o.grown hgs (fun ad e => by simpa using (HAG.out ad e).resolve_right HXN.out)
          have ho5 := ho5o.kept hgs (.inr (Ne.symm hlg))
          have hg5 := grown_trans hg5o hgs
          clear hb5o n15o hgs m05o m15o mv5o hx5o ho5o hg5o
          have k5s : (wq.alloc (.cells #[.int .i64 u1, .int .i64 u2] 3)).cell? ⟨gb, 0, none⟩ = some (.slice (some ⟨gm, 0, none⟩) m.length cj) := k5
          have z5s : (wq.alloc (.cells #[.int .i64 u1, .int .i64 u2] 3)).frozen? ⟨gb, 0, none⟩ = false := z5
          have n15s : ((wq.alloc (.cells #[.int .i64 u1, .int .i64 u2] 3)).setCell ⟨gb, 0, none⟩ (.slice (some ⟨gl, 0, none⟩) l.length cl)).cell? ⟨px, 1, none⟩ = some (.int .i64 x.b) := n15
          clear BB5
          generalize hb1 : some l = b1 at *
          clear hb1
          obtain ⟨A5, hA5⟩ : ∃ A5, A5 = (some ⟨gl, 0, none⟩ : Option Addr) := ⟨_, rfl⟩
          replace hb5 : BestIs ((wq.alloc (.cells #[.int .i64 u1, .int .i64 u2] 3)).drew.setCell ⟨gb, 0, none⟩ (.slice (some ⟨gl, 0, none⟩) l.length cl)) B gb 3 33 b1 A5 cl := by rw [hA5]; exact hb5
          clear hA5
          obtain ⟨c5, hc5⟩ : ∃ c5, c5 = cl := ⟨_, rfl⟩
          replace hb5 : BestIs ((wq.alloc (.cells #[.int .i64 u1, .int .i64 u2] 3)).drew.setCell ⟨gb, 0, none⟩ (.slice (some ⟨gl, 0, none⟩) l.length cl)) B gb 3 33 b1 A5 c5 := by rw [hc5]; exact hb5
          clear hc5
          have hgo : some gl ≠ some gb := by simpa using hgg
          by_cases h3 : hasK l x.b = true
          · have HN : Hid ((xs.take (j + 1)).foldl (visX (visF xs f) l) b = b1) := HS.out.trans (HVY.out.trans ((if_pos h3).trans HB1.out))
            have HC : Hid (Calls Try.prog 71 #[.slice (some ⟨gl, 0, none⟩) l.length cl, .int .i64 x.b] ((wq.alloc (.cells #[.int .i64 u1, .int .i64 u2] 3)).drew.setCell ⟨gb, 0, none⟩ (.slice (some ⟨gl, 0, none⟩) l.length cl)) fun e w' => e = .returned (.bool true) ∧ Below ((wq.alloc (.cells #[.int .i64 u1, .int .i64 u2] 3)).drew.setCell ⟨gb, 0, none⟩ (.slice (some ⟨gl, 0, none⟩) l.length cl)).heap.size ((wq.alloc (.cells #[.int .i64 u1, .int .i64 u2] 3)).drew.setCell ⟨gb, 0, none⟩ (.slice (some ⟨gl, 0, none⟩) l.length cl)) w') := by
              have := containsInt_any (some ⟨gl, 0, none⟩) cl l x.b ((wq.alloc (.cells #[.int .i64 u1, .int .i64 u2] 3)).drew.setCell ⟨gb, 0, none⟩ (.slice (some ⟨gl, 0, none⟩) l.length cl)) (by unfold maxLen; omega) (own_rd ho5)
              rw [show (l.any fun y => y == x.b) = true from h3] at this
              exact this
            clear HS HVY HB1 h3
            go_wp2_with (first | (go_at_call 68; refine (HO.out _ _ _ hrd).mono ?_; rintro e w1 ⟨rfl, rfl⟩) | (go_at_call 71; refine HC.out.mono ?_; rintro e w6 ⟨rfl, hb6⟩))
            go_roundw
            case rel => exact ⟨j + 1, b1, A5, c5, by omega, by go_num, HN, hb5.below hb6, grown_below hg5 hb6⟩
            case measure => simp [intOf]; omega
          · have h3' : hasK l x.b = false := by simpa using h3
            have HN : Hid ((xs.take (j + 1)).foldl (visX (visF xs f) l) b = visF xs f (l ++ [x.b]) b1) := HS.out.trans (HVY.out.trans ((if_neg h3).trans (by rw [HB1.out])))
            have hni : x.b ∉ l := fun h => h3 (hasK_iff.2 h)
            have HC : Hid (Calls Try.prog 71 #[.slice (some ⟨gl, 0, none⟩) l.length cl, .int .i64 x.b] ((wq.alloc (.cells #[.int .i64 u1, .int .i64 u2] 3)).drew.setCell ⟨gb, 0, none⟩ (.slice (some ⟨gl, 0, none⟩) l.length cl)) fun e w' => e = .returned (.bool false) ∧ Below ((wq.alloc (.cells #[.int .i64 u1, .int .i64 u2] 3)).drew.setCell ⟨gb, 0, none⟩ (.slice (some ⟨gl, 0, none⟩) l.length cl)).heap.size ((wq.alloc (.cells #[.int .i64 u1, .int .i64 u2] 3)).drew.setCell ⟨gb, 0, none⟩ (.slice (some ⟨gl, 0, none⟩) l.length cl)) w') := by
              have := containsInt_any (some ⟨gl, 0, none⟩) cl l x.b ((wq.alloc (.cells #[.int .i64 u1, .int .i64 u2] 3)).drew.setCell ⟨gb, 0, none⟩ (.slice (some ⟨gl, 0, none⟩) l.length cl)) (by unfold maxLen; omega) (own_rd ho5)
              rw [show (l.any fun y => y == x.b) = false from h3'] at this
              exact this
            have HND2 : Hid ((l ++ [x.b]).Nodup) := by
              show List.Nodup _
              rw [List.nodup_append]
              refine ⟨HND.out, by simp, fun a ha b hb => ?_⟩
              simp at hb; subst hb
              exact fun e => hni (e ▸ ha)
            have HRG2 : Hid (∀ y ∈ l ++ [x.b], 0 ≤ y ∧ y < (K : Int)) := by
              intro y hy
              rcases List.mem_append.1 hy with hy | hy
              · exact HRG.out y hy
              · simp at hy; subst hy; exact hxin.2
            clear HS HVY HB1 h3 h3' hni
            go_wp2_with (first | (go_at_call 68; refine (HO.out _ _ _ hrd).mono ?_; rintro e w1 ⟨rfl, rfl⟩) | (go_at_call 71; refine HC.out.mono ?_; rintro e w6 ⟨rfl, hb6⟩; have n16a := cell_below' n15 hb6))
            have m06 := cell_below' m05 hb6
            have m16 := cell_below' m15 hb6
            have mv6 := cell_below' mv5 hb6
            have hx6 := hx5.below hb6
            have ho6 := own_below ho5 hb6
            have hbb6 := hb5.below hb6
            have hg6 := grown_below hg5 hb6
            clear HC m05 m15 mv5 hx5 ho5 hb5 hg5 hb6 n15
            have HLc : Hid (∀ w1, ClP w6.drew [] w1 → Calls Try.prog 72 #[.slice (some ⟨gl, 0, none⟩) l.length cl] w1 fun e w2 => ∃ u, e = .returned u ∧ w2.ownsRow w1.heap.size 3 1 u l.length (intCells l) ∧ w1.grownBy w2 none) := fun w1 h1 => by
              refine (copyInts_any (some ⟨gl, 0, none⟩) cl l w1 (by omega) (((own_rd ho6).drew).below (clP_below h1))).mono ?_
              rintro e w2 ⟨A1, c1, rfl, ho, hb⟩
              exact ⟨_, rfl, ho, grown_of_below hb⟩
            have g0 := cell_cl (w := w6.drew) n16a
            have g1 := cell_cl (w := w6.drew) mv6
            have hX1 : ([.int .i64 x.b] : List Value).length = 1 * 1 := rfl
            refine wp_loose_tail0 (U := fun _ => undef) (τ := lk [(2, rowS [] w6.drew.heap.size 3 1 l.length (intCells l)), (5, rowS [] w6.drew.heap.size 3 1 1 [.int .i64 x.b]), (6, rowS [2, 5] w6.drew.heap.size 3 1 (l.length + 1) (intCells l ++ [.int .i64 x.b]))]) (F := []) 7 (by kernel_rfl) (by kernel_rfl) (fits_of rfl (by kernel_rfl)) (inv_start (by intro r s h; have := lk_mem h; simp at this; (first | omega | (simp only [List.length_cons, List.length_nil]; omega)))) ?_
            simp only [List.take_succ_cons, List.take_zero, List.drop_succ_cons, List.drop_zero]
            refine wpL_quiet 2 rfl rfl ?_
            simp only [List.take_succ_cons, List.take_zero, List.drop_succ_cons, List.drop_zero]
            repeat (go_big_quiet_step (fail))
            refine wpQuiet_nil ?_
            refine gives_loose rfl (ob_row (Nat.le_refl _) (fun w1 h1 _ => by simp [stepTo, stepUpon, go_sem]; exact HLc.out w1 h1)) ?_
            rintro u2 ⟨A2, c2, rfl⟩
            simp only [Act.put, List.setIfInBounds_toArray, List.set_cons_zero, List.set_cons_succ]
            refine wpL_quiet 2 rfl rfl ?_
            simp only [List.take_succ_cons, List.take_zero, List.drop_succ_cons, List.drop_zero]
            repeat (go_big_quiet_step (fail))
            refine wpQuiet_nil ?_
            refine gives_loose rfl (ob_lit (cs := #[.int .i64 x.b]) (Nat.le_refl _) (by unfold maxLen; omega) rfl (fun w1 _ => ?_)) ?_
            · go_simp
            rintro ux ⟨Ax, cx, rfl⟩
            simp only [Act.put, List.setIfInBounds_toArray, List.set_cons_zero, List.set_cons_succ]
            refine gives_loose rfl (ob_app (.tmp 54) (.tmp 57) 33 rfl el_Int 2 rfl rfl rfl hX1 (ds := [5]) (fun w1 _ hh => own_rd (hh 5 (by simp) _ rfl)) (by simp [Value.oneCell']) (by unfold maxLen; omega) (by omega) (Nat.le_refl _)) ?_
            rintro u6 ⟨A6, c6, rfl⟩
            simp only [Act.put, List.setIfInBounds_toArray, List.set_cons_zero, List.set_cons_succ]
            refine wpL_nil ?_
            intro w8 hEnd
            have hRow : w8.ownsRow w6.drew.heap.size 3 1 (.slice A6 (l.length + 1) c6) (l.length + 1) (intCells l ++ [.int .i64 x.b]) := ends_get hEnd 6 rfl rfl
            have hb68 : Below w6.heap.size w6 w8 := btr (Below.refl w6.heap.size w6).drew (ends_below hEnd)
            have hBw6 : B ≤ w6.heap.size := Nat.le_trans hBw hg6.size
            have hnb : some gb ≠ (Value.slice A6 (l.length + 1) c6).ownBlock := own_ne hRow hbb6.lt
            have HCv : Hid (Calls Try.prog 67 #[.slice A6 (l.length + 1) c6, .pointer (some ⟨pb, 0, none⟩), .pointer (some ⟨gb, 0, none⟩), .pointer (some ⟨vb, 0, none⟩)] w8 fun e w' => e = .returned (.tuple #[]) ∧ ∃ Ab' cb', BestIs w' B gb 3 33 (visF xs f (l ++ [x.b]) b1) Ab' cb' ∧ w8.grownBy w' (some gb)) := by
              have hlen : (l ++ [x.b]).length = l.length + 1 := by simp
              have hcl : intCells (l ++ [x.b]) = intCells l ++ [.int .i64 x.b] := by simp [intCells]
              have := IH.out w8 (l ++ [x.b]) A6 c6 b1 A5 c5 (by rw [hlen]; omega) HND2.out HRG2.out (by rw [hlen]; omega) (cell_below' m06 hb68) (cell_below' m16 hb68) (hx6.below hb68) (cell_below' mv6 hb68) (hbb6.below hb68)
                (by rw [hlen, hcl]; exact own_base hRow hBw6) (by rw [hlen]; exact hnb) (Nat.le_trans hBw6 hb68.size)
              rwa [hlen] at this
            have hg8 := grown_below hg6 hb68
            clear hEnd g0 g1 HLc hRow hnb HND2 HRG2 n16a m06 m16 mv6 hx6 ho6 hbb6 hb68
            go_wp2_with (go_at_call 67; refine HCv.out.mono ?_; rintro e w9 ⟨rfl, A9, c9, hb9, hg9⟩)
            go_roundw
            case rel => exact ⟨j + 1, _, A9, c9, by omega, by go_num, HN, hb9, grown_trans hg8 hg9⟩
            case measure => simp [intOf]; omega
        · have hcd : decide (cmpN l m < 0) = false := by simpa using hc
          have HB1 : Hid ((if x.b = headI l then takeB l (some m) else some m) = some m) := HB0.out.trans (HTk.out.trans (if_neg hc))
          clear HB0 HTk
          generalize cmpN l m = vc at *
          have hbbq : BestIs wq B gb 3 33 (some m) (some ⟨gm, 0, none⟩) cj := ⟨BB, hom, hnm, hm0, hm64⟩
          have n15 := cell_below' n1q hb5'
          have m05 := cell_below' m0q hb5'
          have m15 := cell_below' m1q hb5'
          have mv5 := cell_below' mvq hb5'
          have hx5 := hxq.below hb5'
          have ho5 := own_below hoq hb5'
          have hb5 := hbbq.below hb5'
          have hg5 := grown_below hgq hb5'
          clear n1q u0q BB hom m0q m1q mvq hxq hoq hbbq hgq hb5'
          generalize hb1 : some m = b1 at *
          clear hb1
          obtain ⟨A5, hA5⟩ : ∃ A5, A5 = (some ⟨gm, 0, none⟩ : Option Addr) := ⟨_, rfl⟩
          replace hb5 : BestIs (wq.alloc (.cells #[.int .i64 u1, .int .i64 u2] 3)).drew B gb 3 33 b1 A5 cj := by rw [hA5]; exact hb5
          clear hA5
          obtain ⟨c5, hc5⟩ : ∃ c5, c5 = cj := ⟨_, rfl⟩
          replace hb5 : BestIs (wq.alloc (.cells #[.int .i64 u1, .int .i64 u2] 3)).drew B gb 3 33 b1 A5 c5 := by rw [hc5]; exact hb5
          clear hc5
          have n15s : (wq.alloc (.cells #[.int .i64 u1, .int .i64 u2] 3)).cell? ⟨px, 1, none⟩ = some (.int .i64 x.b) := n15
          have hgo : some gl ≠ some gb := by simpa using hgg
          by_cases h3 : hasK l x.b = true
          · have HN : Hid ((xs.take (j + 1)).foldl (visX (visF xs f) l) b = b1) := HS.out.trans (HVY.out.trans ((if_pos h3).trans HB1.out))
            have HC : Hid (Calls Try.prog 71 #[.slice (some ⟨gl, 0, none⟩) l.length cl, .int .i64 x.b] (wq.alloc (.cells #[.int .i64 u1, .int .i64 u2] 3)).drew fun e w' => e = .returned (.bool true) ∧ Below (wq.alloc (.cells #[.int .i64 u1, .int .i64 u2] 3)).drew.heap.size (wq.alloc (.cells #[.int .i64 u1, .int .i64 u2] 3)).drew w') := by
              have := containsInt_any (some ⟨gl, 0, none⟩) cl l x.b (wq.alloc (.cells #[.int .i64 u1, .int .i64 u2] 3)).drew (by unfold maxLen; omega) (own_rd ho5)
              rw [show (l.any fun y => y == x.b) = true from h3] at this
              exact this
            clear HS HVY HB1 h3
            go_wp2_with (first | (go_at_call 68; refine (HO.out _ _ _ hrd).mono ?_; rintro e w1 ⟨rfl, rfl⟩) | (go_at_call 71; refine HC.out.mono ?_; rintro e w6 ⟨rfl, hb6⟩))
            go_roundw
            case rel => exact ⟨j + 1, b1, A5, c5, by omega, by go_num, HN, hb5.below hb6, grown_below hg5 hb6⟩
            case measure => simp [intOf]; omega
          · have h3' : hasK l x.b = false := by simpa using h3
            have HN : Hid ((xs.take (j + 1)).foldl (visX (visF xs f) l) b = visF xs f (l ++ [x.b]) b1) := HS.out.trans (HVY.out.trans ((if_neg h3).trans (by rw [HB1.out])))
            have hni : x.b ∉ l := fun h => h3 (hasK_iff.2 h)
            have HC : Hid (Calls Try.prog 71 #[.slice (some ⟨gl, 0, none⟩) l.length cl, .int .i64 x.b] (wq.alloc (.cells #[.int .i64 u1, .int .i64 u2] 3)).drew fun e w' => e = .returned (.bool false) ∧ Below (wq.alloc (.cells #[.int .i64 u1, .int .i64 u2] 3)).drew.heap.size (wq.alloc (.cells #[.int .i64 u1, .int .i64 u2] 3)).drew w') := by
              have := containsInt_any (some ⟨gl, 0, none⟩) cl l x.b (wq.alloc (.cells #[.int .i64 u1, .int .i64 u2] 3)).drew (by unfold maxLen; omega) (own_rd ho5)
              rw [show (l.any fun y => y == x.b) = false from h3'] at this
              exact this
            have HND2 : Hid ((l ++ [x.b]).Nodup) := by
              show List.Nodup _
              rw [List.nodup_append]
              refine ⟨HND.out, by simp, fun a ha b hb => ?_⟩
              simp at hb; subst hb
              exact fun e => hni (e ▸ ha)
            have HRG2 : Hid (∀ y ∈ l ++ [x.b], 0 ≤ y ∧ y < (K : Int)) := by
              intro y hy
              rcases List.mem_append.1 hy with hy | hy
              · exact HRG.out y hy
              · simp at hy; subst hy; exact hxin.2
            clear HS HVY HB1 h3 h3' hni
            go_wp2_with (first | (go_at_call 68; refine (HO.out _ _ _ hrd).mono ?_; rintro e w1 ⟨rfl, rfl⟩) | (go_at_call 71; refine HC.out.mono ?_; rintro e w6 ⟨rfl, hb6⟩; have n16a := cell_below' n15 hb6))
            have m06 := cell_below' m05 hb6
            have m16 := cell_below' m15 hb6
            have mv6 := cell_below' mv5 hb6
            have hx6 := hx5.below hb6
            have ho6 := own_below ho5 hb6
            have hbb6 := hb5.below hb6
            have hg6 := grown_below hg5 hb6
            clear HC m05 m15 mv5 hx5 ho5 hb5 hg5 hb6 n15
            have HLc : Hid (∀ w1, ClP w6.drew [] w1 → Calls Try.prog 72 #[.slice (some ⟨gl, 0, none⟩) l.length cl] w1 fun e w2 => ∃ u, e = .returned u ∧ w2.ownsRow w1.heap.size 3 1 u l.length (intCells l) ∧ w1.grownBy w2 none) := fun w1 h1 => by
              refine (copyInts_any (some ⟨gl, 0, none⟩) cl l w1 (by omega) (((own_rd ho6).drew).below (clP_below h1))).mono ?_
              rintro e w2 ⟨A1, c1, rfl, ho, hb⟩
              exact ⟨_, rfl, ho, grown_of_below hb⟩
            have g0 := cell_cl (w := w6.drew) n16a
            have g1 := cell_cl (w := w6.drew) mv6
            have hX1 : ([.int .i64 x.b] : List Value).length = 1 * 1 := rfl
            refine wp_loose_tail0 (U := fun _ => undef) (τ := lk [(2, rowS [] w6.drew.heap.size 3 1 l.length (intCells l)), (5, rowS [] w6.drew.heap.size 3 1 1 [.int .i64 x.b]), (6, rowS [2, 5] w6.drew.heap.size 3 1 (l.length + 1) (intCells l ++ [.int .i64 x.b]))]) (F := []) 7 (by kernel_rfl) (by kernel_rfl) (fits_of rfl (by kernel_rfl)) (inv_start (by intro r s h; have := lk_mem h; simp at this; (first | omega | (simp only [List.length_cons, List.length_nil]; omega)))) ?_
            simp only [List.take_succ_cons, List.take_zero, List.drop_succ_cons, List.drop_zero]
            refine wpL_quiet 2 rfl rfl ?_
            simp only [List.take_succ_cons, List.take_zero, List.drop_succ_cons, List.drop_zero]
            repeat (go_big_quiet_step (fail))
            refine wpQuiet_nil ?_
            refine gives_loose rfl (ob_row (Nat.le_refl _) (fun w1 h1 _ => by simp [stepTo, stepUpon, go_sem]; exact HLc.out w1 h1)) ?_
            rintro u2 ⟨A2, c2, rfl⟩
            simp only [Act.put, List.setIfInBounds_toArray, List.set_cons_zero, List.set_cons_succ]
            refine wpL_quiet 2 rfl rfl ?_
            simp only [List.take_succ_cons, List.take_zero, List.drop_succ_cons, List.drop_zero]
            repeat (go_big_quiet_step (fail))
            refine wpQuiet_nil ?_
            refine gives_loose rfl (ob_lit (cs := #[.int .i64 x.b]) (Nat.le_refl _) (by unfold maxLen; omega) rfl (fun w1 _ => ?_)) ?_
            · go_simp
            rintro ux ⟨Ax, cx, rfl⟩
            simp only [Act.put, List.setIfInBounds_toArray, List.set_cons_zero, List.set_cons_succ]
            refine gives_loose rfl (ob_app (.tmp 54) (.tmp 57) 33 rfl el_Int 2 rfl rfl rfl hX1 (ds := [5]) (fun w1 _ hh => own_rd (hh 5 (by simp) _ rfl)) (by simp [Value.oneCell']) (by unfold maxLen; omega) (by omega) (Nat.le_refl _)) ?_
            rintro u6 ⟨A6, c6, rfl⟩
            simp only [Act.put, List.setIfInBounds_toArray, List.set_cons_zero, List.set_cons_succ]
            refine wpL_nil ?_
            intro w8 hEnd
            have hRow : w8.ownsRow w6.drew.heap.size 3 1 (.slice A6 (l.length + 1) c6) (l.length + 1) (intCells l ++ [.int .i64 x.b]) := ends_get hEnd 6 rfl rfl
            have hb68 : Below w6.heap.size w6 w8 := btr (Below.refl w6.heap.size w6).drew (ends_below hEnd)
            have hBw6 : B ≤ w6.heap.size := Nat.le_trans hBw hg6.size
            have hnb : some gb ≠ (Value.slice A6 (l.length + 1) c6).ownBlock := own_ne hRow hbb6.lt
            have HCv : Hid (Calls Try.prog 67 #[.slice A6 (l.length + 1) c6, .pointer (some ⟨pb, 0, none⟩), .pointer (some ⟨gb, 0, none⟩), .pointer (some ⟨vb, 0, none⟩)] w8 fun e w' => e = .returned (.tuple #[]) ∧ ∃ Ab' cb', BestIs w' B gb 3 33 (visF xs f (l ++ [x.b]) b1) Ab' cb' ∧ w8.grownBy w' (some gb)) := by
              have hlen : (l ++ [x.b]).length = l.length + 1 := by simp
              have hcl : intCells (l ++ [x.b]) = intCells l ++ [.int .i64 x.b] := by simp [intCells]
              have := IH.out w8 (l ++ [x.b]) A6 c6 b1 A5 c5 (by rw [hlen]; omega) HND2.out HRG2.out (by rw [hlen]; omega) (cell_below' m06 hb68) (cell_below' m16 hb68) (hx6.below hb68) (cell_below' mv6 hb68) (hbb6.below hb68)
                (by rw [hlen, hcl]; exact own_base hRow hBw6) (by rw [hlen]; exact hnb) (Nat.le_trans hBw6 hb68.size)
              rwa [hlen] at this
            have hg8 := grown_below hg6 hb68
            clear hEnd g0 g1 HLc hRow hnb HND2 HRG2 n16a m06 m16 mv6 hx6 ho6 hbb6 hb68
            go_wp2_with (go_at_call 67; refine HCv.out.mono ?_; rintro e w9 ⟨rfl, A9, c9, hb9, hg9⟩)
            go_roundw
            case rel => exact ⟨j + 1, _, A9, c9, by omega, by go_num, HN, hb9, grown_trans hg8 hg9⟩
            case measure => simp [intOf]; omega
    · have HE : Hid (bj = visF xs (f + 1) l b) := by
        show _ = _
        rw [HV.out, ← HF.out, List.take_of_length_le (by omega)]
      have hjI : ¬ (j : Int) < (xs.length : Int) := by omega
      clear HF HV
      go_wp2
      go_end0
      exact ⟨rfl, ⟨Aj, cj, by rw [← HE.out]; exact hbj⟩, hg⟩
theorem visit_any (xs : List Pr) (K : Nat) (A : Option Addr) (c pb vb gb B : Nat) (hn : xs.length ≤ 16) (hK8 : K ≤ 8) (hin : InK xs K) (hpg : pb ≠ gb) (hvg : vb ≠ gb) (hAg : ∀ ad, A = some ad → ad.block ≠ gb ∨ xs = []) : ∀ f, VisitAt xs K A c pb vb gb B f
  | 0 => fun w l Al cl b Ab cb hl hnd hrg hlf => by
    have := nodup_len hnd hrg
    omega
  | f + 1 => visit_step xs K A c pb vb gb B f hn hK8 hin hpg hvg hAg (visit_any xs K A c pb vb gb B hn hK8 hin hpg hvg hAg f)
def outR (b : Option (List Int)) : List Int × Bool := match b with | some m => (m, true) | none => ([], false)
def cycR (p : Prec) : List Int × Bool := if goodPc p = true then outR (bestF p.over p.kinds.toNat) else ([], false)
theorem kindsTo_succ (k : Nat) : kindsTo (k + 1) = kindsTo k ++ [(k : Int)] := by
  unfold kindsTo
  rw [List.range_succ, List.map_append]; rfl
set_option maxHeartbeats 8000000 in
set_option maxRecDepth 100000 in
theorem cycle_any (A : Option Addr) (c : Nat) (p : Prec) (w : World) (hn : p.over.length ≤ maxLen) (_ : p.over.length ≤ c) (hx : Rd w A (prCells p.over)) :
    Calls Try.prog 35 #[.agg #[.int .i64 p.kinds, .slice A p.over.length c]] w fun en w' => ∃ A' c', en = .returned (.tuple #[.slice A' (cycR p).1.length c', .bool (cycR p).2]) ∧ w'.ownsRow w.heap.size 3 1 (.slice A' (cycR p).1.length c') (cycR p).1.length (intCells (cycR p).1) ∧ Below w.heap.size w w' := by
  obtain ⟨r, hr⟩ : ∃ r, r = cycR p := ⟨_, rfl⟩
  rw [← hr]
  have hb0 : Below w.heap.size w (w.alloc (.cells #[.int .i64 p.kinds, .slice A p.over.length c] 27)) := bnew (Below.refl _ _) _
  have B0 : Blk (w.alloc (.cells #[.int .i64 p.kinds, .slice A p.over.length c] 27)) w.heap.size 27 [.int .i64 p.kinds, .slice A p.over.length c] := Blk.made #[.int .i64 p.kinds, .slice A p.over.length c] rfl
  have Hv : Hid (Calls Try.prog 17 #[.agg #[.int .i64 p.kinds, .slice A p.over.length c]] (w.alloc (.cells #[.int .i64 p.kinds, .slice A p.over.length c] 27)) fun e w' => e = .returned (.bool (goodPc p)) ∧ Below (w.alloc (.cells #[.int .i64 p.kinds, .slice A p.over.length c] 27)).heap.size (w.alloc (.cells #[.int .i64 p.kinds, .slice A p.over.length c] 27)) w') := isPrec_any A c p _ hn (hx.below hb0)
  have HXB : Hid (∀ ad, A = some ad → p.over ≠ [] → ad.block < w.heap.size) := fun ad e hne => by
    obtain ⟨b, off, e2, hlt⟩ := hx.addr (by cases h : p.over with | nil => exact absurd h hne | cons y ys => simp [prCells, Pr.cells])
    rw [e] at e2; cases e2; exact hlt
  have hx0 := hx.below hb0
  unfold cycR at hr
  have HRE := Lib.hid hr
  clear hr hx hn
  by_cases hg : goodPc p = true
  rotate_left
  · have hg' : goodPc p = false := by simpa using hg
    have HR := Lib.hid (HRE.out.trans (if_neg hg))
    rw [hg'] at Hv
    clear HRE hg hg' hx0
    have m0 := B0.cell (j := 0) rfl
    have m1 := B0.cell (j := 1) rfl
    go_enter Try.func35, Try.ntmps35
    go_wp2_with (go_at_call 17; refine Hv.out.mono ?_; rintro en w1 ⟨rfl, hb1⟩)
    exact bodyPost_ret (v := .tuple #[.slice none 0 0, .bool false]) (by simp [results, Try.results35, go_sem]) rfl ⟨none, 0, by rw [HR.out]; rfl, by rw [HR.out]; exact own_nil, btr hb0 hb1⟩
  have HR := Lib.hid (HRE.out.trans (if_pos hg))
  clear HRE
  rw [hg] at Hv
  obtain ⟨hk1, hk8, h16, hin, _⟩ := goodPc_in hg
  obtain ⟨ks, xs⟩ := p
  simp only at *
  obtain ⟨K, rfl⟩ : ∃ K : Nat, ks = (K : Int) := ⟨ks.toNat, by omega⟩
  simp only [Int.toNat_natCast] at hin HR
  have HIN := Lib.hid hin
  have m0 := B0.cell (j := 0) rfl
  have m1 := B0.cell (j := 1) rfl
  clear hg hin
  go_enter Try.func35, Try.ntmps35
  go_wp2_with fail
  generalize w.alloc (.cells #[.int .i64 (K : Int), .slice A xs.length c] 27) = W0 at *
  refine Hv.out.mono ?_
  rintro en w1 ⟨rfl, hb1⟩
  clear Hv
  have hbA := bnew (bnew hb1 (.cells #[.slice none 0 0] 33)) (.cells #[.func (.func 67) #[] #[.pointer (some ⟨w.heap.size, 0, none⟩), .pointer (some ⟨w1.heap.size, 0, none⟩), .pointer (some ⟨w1.heap.size + 1, 0, none⟩)]] 68)
  have BBest : Blk ((w1.alloc (.cells #[.slice none 0 0] 33)).alloc (.cells #[.func (.func 67) #[] #[.pointer (some ⟨w.heap.size, 0, none⟩), .pointer (some ⟨w1.heap.size, 0, none⟩), .pointer (some ⟨w1.heap.size + 1, 0, none⟩)]] 68)) w1.heap.size 33 [.slice none 0 0] := Blk.below (w := w1.alloc (.cells #[.slice none 0 0] 33)) (by unfold Blk; exact heap_alloc_new w1 (.cells #[.slice none 0 0] 33)) (bnew (Below.refl _ _) _)
  have mV : ((w1.alloc (.cells #[.slice none 0 0] 33)).alloc (.cells #[.func (.func 67) #[] #[.pointer (some ⟨w.heap.size, 0, none⟩), .pointer (some ⟨w1.heap.size, 0, none⟩), .pointer (some ⟨w1.heap.size + 1, 0, none⟩)]] 68)).cell? ⟨w1.heap.size + 1, 0, none⟩ = some (.func (.func 67) #[] #[.pointer (some ⟨w.heap.size, 0, none⟩), .pointer (some ⟨w1.heap.size, 0, none⟩), .pointer (some ⟨w1.heap.size + 1, 0, none⟩)]) := (World.cell?_alloc_at _ _ _ _ (by simp)).trans rfl
  have m0A := cell_below' m0 hbA
  have m1A := cell_below' m1 hbA
  have hW0 : w.heap.size < W0.heap.size := World.block_lt_of_cell? W0 _ m0
  have hw1 := hb1.size
  go_wp2_with fail
  generalize (w1.alloc (.cells #[.slice none 0 0] 33)).alloc (.cells #[.func (.func 67) #[] #[.pointer (some ⟨w.heap.size, 0, none⟩), .pointer (some ⟨w1.heap.size, 0, none⟩), .pointer (some ⟨w1.heap.size + 1, 0, none⟩)]] 68) = W2 at *
  generalize hgb : w1.heap.size = gb at *
  have hbw2 := btr hb0 hbA
  have hx2 := hx0.below hbA
  clear hb1 hx0 m0 m1
  have IH : Hid (VisitAt xs K A c w.heap.size (gb + 1) gb w.heap.size K) := visit_any xs K A c w.heap.size (gb + 1) gb w.heap.size h16 (by omega) HIN.out (by omega) (by omega) (fun ad e => by
    by_cases hxs : xs = []
    · exact .inr hxs
    · left; have := HXB.out ad e hxs; omega) K
  have hbst : BestIs W2 w.heap.size gb 3 33 none none 0 := BBest
  have hW2 : w.heap.size ≤ W2.heap.size := hbw2.size
  have hgw : w.heap.size ≤ gb := by omega
  clear BBest hbA hb0
  go_loopw [13] (fun q wr => ∃ (k : Nat) (bj : Option (List Int)) (Aj : Option Addr) (cj : Nat), k ≤ K ∧ q = .int .i64 k ∧ Hid ((kindsTo k).foldl (fun b k => visF xs K [k] b) none = bj) ∧ BestIs wr w.heap.size gb 3 33 bj Aj cj ∧ W2.grownBy wr (some gb)) (fun q _ => K - (intOf q).toNat)
  case atStart => exact ⟨0, none, none, 0, by omega, rfl, rfl, hbst, World.grownBy.refl W2 _⟩
  case round =>
    obtain ⟨k, bj, Aj, cj, hk, rfl, HF, hbj, hg⟩ := hrel
    clear hbst
    by_cases hlt : k < K
    · have hkI : (k : Int) < (K : Int) := by omega
      have hkI2 : ((k + 1 : Nat) : Int) = (k : Int) + 1 := by omega
      have m0r := hg.cell m0A (by simp; omega)
      have m1r := hg.cell m1A (by simp; omega)
      have mVr := hg.cell mV (by simp)
      have hxr : Rd wr A (prCells xs) := by
        by_cases hxs : xs = []
        · rw [hxs]; exact Rd.nil
        · exact hx2.grown hg (fun ad e => by have := HXB.out ad e hxs; simp; omega)
      have ho : (wr.alloc (.cells #[.int .i64 k] 3)).ownsRow w.heap.size 3 1 (.slice (some ⟨wr.heap.size, 0, none⟩) 1 1) 1 (intCells [(k : Int)]) := own_lit (cs := #[.int .i64 (k : Int)]) (n := 1) (Nat.le_trans hW2 hg.size) (by unfold maxLen; omega) rfl
      have hbw := bnew (Below.refl wr.heap.size wr) (.cells #[.int .i64 (k : Int)] 3)
      have HC : Hid (Calls Try.prog 67 #[.slice (some ⟨wr.heap.size, 0, none⟩) 1 1, .pointer (some ⟨w.heap.size, 0, none⟩), .pointer (some ⟨gb, 0, none⟩), .pointer (some ⟨gb + 1, 0, none⟩)] (wr.alloc (.cells #[.int .i64 (k : Int)] 3)) fun e w' => e = .returned (.tuple #[]) ∧ ∃ Ab' cb', BestIs w' w.heap.size gb 3 33 (visF xs K [(k : Int)] bj) Ab' cb' ∧ (wr.alloc (.cells #[.int .i64 (k : Int)] 3)).grownBy w' (some gb)) :=
        IH.out _ [(k : Int)] _ 1 bj Aj cj (by simp) (by simp) (by simp; omega) (by simp; omega) (cell_below' m0r hbw) (cell_below' m1r hbw) (hxr.below hbw) (cell_below' mVr hbw) (hbj.below hbw) ho (by have := hbj.lt; simp [Value.ownBlock]; omega) (Nat.le_trans hW2 (Nat.le_trans hg.size hbw.size))
      have HN : Hid ((kindsTo (k + 1)).foldl (fun b k => visF xs K [k] b) none = visF xs K [(k : Int)] bj) := by
        show _ = _
        rw [kindsTo_succ, List.foldl_append, HF.out]; rfl
      have hg2 := grown_below hg hbw
      clear HF
      go_wp2_with (go_at_call 67; refine HC.out.mono ?_; rintro e w9 ⟨rfl, A9, c9, hb9, hg9⟩)
      go_roundw
      case rel => exact ⟨k + 1, _, A9, c9, by omega, by go_num, HN, hb9, grown_trans hg2 hg9⟩
      case measure => simp [intOf]; omega
    · have hkI : ¬ (k : Int) < (K : Int) := by omega
      have HE : Hid (bj = bestF xs K) := by
        show _ = _
        rw [← HF.out, show k = K by omega]; rfl
      have HRm : Hid (r = outR bj) := by show _ = _; rw [HE.out]; exact HR.out
      have hnil : ∀ (w : World) (A : Option Addr) (n c : Nat), (binOp .neq 33 (.slice A n c) (.slice none 0 0)).run Try.prog w = .ok (.bool (!A.isNone)) w := fun w A n c => run_neq_slice_nil_any w _ _ A n c 0 0 Try.underlying33
      have hbr : Below w.heap.size w wr := hbw2.grown hg hbw2.size (fun k hk => by cases hk; exact hgw)
      clear HF HE HR IH
      cases bj with
      | none =>
        have kb : wr.cell? ⟨gb, 0, none⟩ = some (.slice none 0 0) := Blk.cell (j := 0) hbj rfl
        have g0 := cell_after kb
        clear kb
        go_wp2_with fail
        refine wp_region_after (by kernel_rfl) (by kernel_rfl) ?_
        repeat (go_big_quiet_step (fail))
        refine wpQuiet_nil ?_
        intro nq
        have hbe := btr hbr nq.bel
        go_wp2
        exact bodyPost_ret (v := .tuple #[.slice none 0 0, .bool false]) (by simp [results, Try.results35, go_sem]) rfl ⟨none, 0, by rw [HRm.out]; rfl, by rw [HRm.out]; exact own_nil, hbe⟩
      | some m =>
        obtain ⟨BB, hom, _, hm0, _⟩ : Blk wr gb 33 [.slice Aj m.length cj] ∧ wr.ownsRow w.heap.size 3 1 (.slice Aj m.length cj) m.length (intCells m) ∧ some gb ≠ (Value.slice Aj m.length cj).ownBlock ∧ 0 < m.length ∧ m.length ≤ 64 := hbj
        obtain ⟨gm, eAj, _, _⟩ := own_at hom hm0
        subst eAj
        have kb : wr.cell? ⟨gb, 0, none⟩ = some (.slice (some ⟨gm, 0, none⟩) m.length cj) := BB.cell (j := 0) rfl
        have g0 := cell_after kb
        clear kb
        go_wp2_with fail
        refine wp_region_after (by kernel_rfl) (by kernel_rfl) ?_
        repeat (go_big_quiet_step (fail))
        refine wpQuiet_nil ?_
        intro nq
        have hbe := btr hbr nq.bel
        go_wp2
        exact bodyPost_ret (v := .tuple #[.slice (some ⟨gm, 0, none⟩) m.length cj, .bool true]) (by simp [results, Try.results35, go_sem]) rfl ⟨some ⟨gm, 0, none⟩, cj, by rw [HRm.out]; rfl, by rw [HRm.out]; exact own_below hom nq.bel, hbe⟩
end Go.Proofs.Ytdbcbaahjhaonaa
