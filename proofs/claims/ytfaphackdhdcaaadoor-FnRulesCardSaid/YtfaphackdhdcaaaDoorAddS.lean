/-
  The reference AddRule. Conditions: lengths within Go's range.
-/
import Derived.Test.YtfaphackdhdcaaaDoorRul
import Derived.Test.YtfaphackdhdcaaaDoorSlRul
import Derived.Test.YtfaphackdhdcaaaDoorApp
namespace Go.My
open Go.RowKit
def insAt {α : Type} (xs : List α) (k : Nat) (x : α) : List α := xs.take k ++ x :: xs.drop k
theorem insAt_len {α : Type} (xs : List α) (k : Nat) (x : α) (hk : k ≤ xs.length) : (insAt xs k x).length = xs.length + 1 := by
  simp [insAt]; omega
theorem insAt_mem {α : Type} {xs : List α} {k : Nat} {x y : α} (h : y ∈ insAt xs k x) : y = x ∨ y ∈ xs := by
  unfold insAt at h
  rcases List.mem_append.1 h with h | h
  · exact .inr (List.mem_of_mem_take h)
  · rcases List.mem_cons.1 h with h | h
    · exact .inl h
    · exact .inr (List.mem_of_mem_drop h)
theorem rd_new' (w : World) (cs : Array Value) (e : TypeId) : Rd (w.alloc (.cells cs e)) (some ⟨w.heap.size, 0, none⟩) cs.toList := by
  refine .inr ⟨_, _, rfl, fun j hj => ?_⟩
  rw [Nat.zero_add, World.cell?_alloc_at _ _ _ _ rfl]
  simp only [Array.length_toList] at hj
  simp [hj]
theorem own_le {w : World} {B : Nat} {e : TypeId} {size n c : Nat} {A : Option Addr} {cells : List Value} (h : w.ownsRow B e size (.slice A n c) n cells) : n ≤ c := by
  obtain ⟨A0, c0, e0, hnc⟩ := own_form h
  simp only [Value.slice.injEq, true_and] at e0
  obtain ⟨rfl, rfl⟩ := e0
  exact hnc
theorem cell_below' {w w' : World} {p : Addr} {v : Value} (h : w.cell? p = some v) (hb : Below w.heap.size w w') : w'.cell? p = some v := (hb.cell (World.block_lt_of_cell? w _ h)).trans h
theorem own_ne2 {w : World} {B : Nat} {e : TypeId} {size n : Nat} {v : Value} {xs : List Value} (h : w.ownsRow B e size v n xs) : some w.heap.size ≠ v.ownBlock := fun e => by have := (h.lt _ e.symm).2; omega

def posFrom (i : Int) : Nat → List Rul → Nat
  | k, [] => k
  | k, x :: r => if x.id < i then posFrom i (k + 1) r else k
def pos (xs : List Rul) (i : Int) : Nat := posFrom i 0 xs
theorem posFrom_at {i : Int} {j : Nat} {xs : List Rul} {k : Nat} (hk : k < xs.length) : posFrom i j (xs.drop k) = if xs[k].id < i then posFrom i (j + 1) (xs.drop (k + 1)) else j := by
  rw [List.drop_eq_getElem_cons hk]; rfl
theorem posFrom_le (i : Int) (j : Nat) (xs : List Rul) : posFrom i j xs ≤ j + xs.length := by
  induction xs generalizing j with
  | nil => simp [posFrom]
  | cons x r ih =>
    simp only [posFrom, List.length_cons]
    split
    · have := ih (j + 1); omega
    · omega
theorem pos_le (xs : List Rul) (i : Int) : pos xs i ≤ xs.length := by have := posFrom_le i 0 xs; unfold pos; omega
def addL (xs : List Rul) (r : Rul) : List Rul := insAt xs (pos xs r.id) r
def addR (xs : List Rul) (r : Rul) : List Rul × Bool :=
  if goodRul xs = true then (if goodRul (addL xs r) = true then (addL xs r, true) else ([], false)) else ([], false)
theorem goodRul_len' {xs : List Rul} (h : goodRul xs = true) : xs.length ≤ 8 := by
  simp only [goodRul, Bool.and_eq_true, decide_eq_true_eq] at h; exact h.2
end Go.My
namespace Go.Proofs.YtfaphackdhdcaaaDoor
open Go.RowKit Go.My
set_option maxHeartbeats 8000000 in
set_option maxRecDepth 100000 in
theorem specAdd_any (A : Option Addr) (c : Nat) (xs : List Rul) (s : Rul) (w : World) (hn : xs.length ≤ maxLen) (hlc : xs.length ≤ c) (hx : Rd w A (rulCells xs)) (hs : ∀ y ∈ xs, y.name.size ≤ maxLen) (hz : s.name.size ≤ maxLen) :
    Calls Tryd.prog 69 #[.slice A xs.length c, .agg #[.int .i64 s.id, .string s.name, .int .i64 s.rank, .bool s.sec, .bool s.deb, .bool s.am, .int .i64 s.need]] w fun en w' => ∃ A' c', en = .returned (.tuple #[.slice A' (addR xs s).1.length c', .bool (addR xs s).2]) ∧ w'.ownsRow w.heap.size 27 7 (.slice A' (addR xs s).1.length c') (addR xs s).1.length (rulCells (addR xs s).1) ∧ Below w.heap.size w w' := by
  obtain ⟨r, hr⟩ : ∃ r, r = addR xs s := ⟨_, rfl⟩
  rw [← hr]
  have hbw := bnew (Below.refl w.heap.size w) (.cells #[.int .i64 s.id, .string s.name, .int .i64 s.rank, .bool s.sec, .bool s.deb, .bool s.am, .int .i64 s.need] 27)
  have Hv := Lib.hid (fun w0 (hb : Below w.heap.size w w0) => l2Good_any A c xs w0 hn hlc (hx.below hb) hs)
  by_cases hg : goodRul xs = true
  · have h12 := goodRul_len' hg
    have HRE : Hid (r = if goodRul (addL xs s) = true then (addL xs s, true) else ([], false)) := hr.trans (if_pos hg)
    have HGE : Hid (addL xs s = insAt xs (pos xs s.id) s) := rfl
    have HG0 : Hid (pos xs s.id = posFrom s.id 0 (xs.drop 0)) := rfl
    have HI : Hid (∀ ys : List Rul, ys = addL xs s → ∀ y ∈ ys, y.name.size ≤ maxLen) := by
      intro ys hy y h
      subst hy
      rcases insAt_mem h with rfl | h
      · exact hz
      · exact hs y h
    clear hr hs hn
    generalize addL xs s = ys at *
    generalize hG : pos xs s.id = G at *
    clear hG
    go_enter Tryd.func69, Tryd.ntmps69
    go_wp2_with fail
    have z0 : (w.alloc (.cells #[.int .i64 s.id, .string s.name, .int .i64 s.rank, .bool s.sec, .bool s.deb, .bool s.am, .int .i64 s.need] 27)).cell? ⟨w.heap.size, 0, none⟩ = some (.int .i64 s.id) := (World.cell?_alloc_at _ _ _ _ rfl).trans rfl
    have z1 : (w.alloc (.cells #[.int .i64 s.id, .string s.name, .int .i64 s.rank, .bool s.sec, .bool s.deb, .bool s.am, .int .i64 s.need] 27)).cell? ⟨w.heap.size, 1, none⟩ = some (.string s.name) := (World.cell?_alloc_at _ _ _ _ rfl).trans rfl
    have z2 : (w.alloc (.cells #[.int .i64 s.id, .string s.name, .int .i64 s.rank, .bool s.sec, .bool s.deb, .bool s.am, .int .i64 s.need] 27)).cell? ⟨w.heap.size, 2, none⟩ = some (.int .i64 s.rank) := (World.cell?_alloc_at _ _ _ _ rfl).trans rfl
    have z3 : (w.alloc (.cells #[.int .i64 s.id, .string s.name, .int .i64 s.rank, .bool s.sec, .bool s.deb, .bool s.am, .int .i64 s.need] 27)).cell? ⟨w.heap.size, 3, none⟩ = some (.bool s.sec) := (World.cell?_alloc_at _ _ _ _ rfl).trans rfl
    have z4 : (w.alloc (.cells #[.int .i64 s.id, .string s.name, .int .i64 s.rank, .bool s.sec, .bool s.deb, .bool s.am, .int .i64 s.need] 27)).cell? ⟨w.heap.size, 4, none⟩ = some (.bool s.deb) := (World.cell?_alloc_at _ _ _ _ rfl).trans rfl
    have z5 : (w.alloc (.cells #[.int .i64 s.id, .string s.name, .int .i64 s.rank, .bool s.sec, .bool s.deb, .bool s.am, .int .i64 s.need] 27)).cell? ⟨w.heap.size, 5, none⟩ = some (.bool s.am) := (World.cell?_alloc_at _ _ _ _ rfl).trans rfl
    have z6 : (w.alloc (.cells #[.int .i64 s.id, .string s.name, .int .i64 s.rank, .bool s.sec, .bool s.deb, .bool s.am, .int .i64 s.need] 27)).cell? ⟨w.heap.size, 6, none⟩ = some (.int .i64 s.need) := (World.cell?_alloc_at _ _ _ _ rfl).trans rfl
    generalize w.alloc (.cells #[.int .i64 s.id, .string s.name, .int .i64 s.rank, .bool s.sec, .bool s.deb, .bool s.am, .int .i64 s.need] 27) = W0 at *
    obtain ⟨bx, hbx⟩ : ∃ bx, bx = w.heap.size := ⟨_, rfl⟩
    rw [← hbx] at z0 z1 z2 z3 z4 z5 z6
    have HBX := Lib.hid hbx
    rw [← hbx]
    clear hbx
    refine (Hv.out W0 hbw).mono ?_
    rintro en w1 ⟨rfl, hb1⟩
    have hb01 := btr hbw hb1
    have k0 := cell_below' z0 hb1
    have k1 := cell_below' z1 hb1
    have k2 := cell_below' z2 hb1
    have k3 := cell_below' z3 hb1
    have k4 := cell_below' z4 hb1
    have k5 := cell_below' z5 hb1
    have k6 := cell_below' z6 hb1
    clear z0 z1 z2 z3 z4 z5 z6
    go_wp2
    go_loopw [6] (fun q wr => ∃ k : Nat, k ≤ xs.length ∧ q = .int .i64 k ∧ Hid (G = posFrom s.id k (xs.drop k)) ∧ Below w1.heap.size w1 wr) (fun q _ => xs.length - (intOf q).toNat)
    case atStart => exact ⟨0, by omega, rfl, HG0, Below.refl _ _⟩
    case round =>
      obtain ⟨k, hk, rfl, H, hb⟩ := hrel
      have hk12 : (k : Int) ≤ 8 := by omega
      have hkn : (k : Int) ≤ (xs.length : Int) := by omega
      have kr0 := cell_below' k0 hb
      have g0 := cell_after kr0
      by_cases hlt : k < xs.length
      · obtain ⟨b, off, rfl, c0, -⟩ := Rd.rul ((hx.below hb01).below hb) hlt
        have Hn := Lib.hid (H.out.trans (posFrom_at hlt))
        clear H
        have hkI : (k : Int) < (xs.length : Int) := by omega
        have hkD : decide ((k : Int) < (xs.length : Int)) = true := by simpa using hkI
        have gx := cell_after c0
        clear c0 kr0
        generalize xs[k].id = t at *
        by_cases hq : t < s.id
        · have hq1 : decide (t < s.id) = true := by simpa using hq
          have Hf := Lib.hid (Hn.out.trans (if_pos hq))
          clear Hn hq
          go_wp2_with fail
          refine wp_region_after (by kernel_rfl) (by kernel_rfl) ?_
          repeat (go_big_quiet_step (fail))
          refine wpQuiet_nil ?_
          intro nq
          go_wp2
          go_roundw
          case rel => exact ⟨k + 1, by omega, by go_num, Hf, btr hb nq.bel⟩
          case measure => simp [intOf]; omega
        · have hq1 : decide (t < s.id) = false := by simpa using hq
          have Hf := Lib.hid (Hn.out.trans (if_neg hq))
          clear Hn hq
          go_wp2_with fail
          refine wp_region_after (by kernel_rfl) (by kernel_rfl) ?_
          repeat (go_big_quiet_step (fail))
          refine wpQuiet_nil ?_
          intro nq
          have hbq := btr hb nq.bel
          have hb02 := btr hb01 hbq
          generalize nq.val = w2 at *
          have HY : Hid (ys = insAt xs k s) := HGE.out.trans (by rw [Hf.out])
          clear HGE HG0 g0
          have HYL : Hid (ys.length = xs.length + 1) := by show _ = _; rw [HY.out]; exact insAt_len _ _ _ hk
          have Hsz := Lib.hid (HI.out ys rfl)
          have hy13 : ys.length ≤ 9 := by have := HYL.out; omega
          have m0 := cell_below' k0 hbq
          have m1 := cell_below' k1 hbq
          have m2 := cell_below' k2 hbq
          have m3 := cell_below' k3 hbq
          have m4 := cell_below' k4 hbq
          have m5 := cell_below' k5 hbq
          have m6 := cell_below' k6 hbq
          have HYC : Hid (rulCells ys = rulCells (xs.take k) ++ [.int .i64 s.id, .string s.name, .int .i64 s.rank, .bool s.sec, .bool s.deb, .bool s.am, .int .i64 s.need] ++ rulCells (xs.drop k)) := by show _ = _; rw [HY.out]; simp [insAt, rulCells, Rul.cells]
          have HYN : Hid (∀ (n : Nat), n = ys.length → n = k + 1 + (xs.length - k)) := fun n h => by rw [h, HYL.out]; omega
          clear HY HI
          have hpre := run_pre el_Rul (some ⟨b, off, none⟩) (n := xs.length) (c := c) (k := k) (by omega)
          have hcut := run_cut el_Rul (some ⟨b, off, none⟩) (n := xs.length) (c := c) (k := k) (by omega)
          have hT : Rd w (some ⟨b, off, none⟩) (rulCells (xs.take k)) := by have := hx.take (k * 7); rwa [rulCells_take xs k (by omega)] at this
          have hD : Rd w (cutA (some ⟨b, off, none⟩) c k 7) (rulCells (xs.drop k)) := by
            have := hx.cutA k 7 c (by intro h; rw [rulCells_len]; omega)
            rwa [rulCells_drop xs k (by omega)] at this
          have hT1 := rulCells_one (xs.take k)
          have hTl : (rulCells (xs.take k)).length = k * 7 := by rw [rulCells_len, List.length_take, Nat.min_eq_left (by omega)]
          have hD1 := rulCells_one (xs.drop k)
          have hDl : (rulCells (xs.drop k)).length = (xs.length - k) * 7 := by rw [rulCells_len, List.length_drop]
          generalize rulCells (xs.take k) = TC at *
          generalize rulCells (xs.drop k) = DC at *
          generalize cutA (some ⟨b, off, none⟩) c k 7 = DA at *
          go_wp2_with fail
          have HX1 : ∀ u ∈ ([.int .i64 s.id, .string s.name, .int .i64 s.rank, .bool s.sec, .bool s.deb, .bool s.am, .int .i64 s.need] : List Value), u.oneCell' = true := by simp [Value.oneCell']
          have bA := (bnew (Below.refl w2.heap.size w2) (.cells #[] 27)).drew
          have bB := (bnew (bnew (Below.refl w2.heap.size w2) (.cells #[] 27)) (.cells #[.int .i64 s.id, .string s.name, .int .i64 s.rank, .bool s.sec, .bool s.deb, .bool s.am, .int .i64 s.need] 27)).drew
          have bC := (bnew (bnew (Below.refl w2.heap.size w2) (.cells #[.int .i64 s.id, .string s.name, .int .i64 s.rank, .bool s.sec, .bool s.deb, .bool s.am, .int .i64 s.need] 27)) (.cells #[] 27)).drew
          have oA := (own_lit (e := 27) (size := 7) (B := w2.heap.size) (w := w2) #[] 0 (Nat.le_refl _) (by unfold maxLen; omega) rfl).drew
          have oB := (own_below (own_lit (e := 27) (size := 7) (B := w2.heap.size) (w := w2) #[] 0 (Nat.le_refl _) (by unfold maxLen; omega) rfl) (bnew (Below.refl (w2.alloc (.cells #[] 27)).heap.size (w2.alloc (.cells #[] 27))) (.cells #[.int .i64 s.id, .string s.name, .int .i64 s.rank, .bool s.sec, .bool s.deb, .bool s.am, .int .i64 s.need] 27))).drew
          have oC : ((w2.alloc (.cells #[.int .i64 s.id, .string s.name, .int .i64 s.rank, .bool s.sec, .bool s.deb, .bool s.am, .int .i64 s.need] 27)).alloc (.cells #[] 27)).drew.ownsRow w2.heap.size 27 7 (.slice (some ⟨w2.heap.size + 1, 0, none⟩) 0 0) 0 [] := by
            have := (own_lit (e := 27) (size := 7) (B := w2.heap.size) (w := w2.alloc (.cells #[.int .i64 s.id, .string s.name, .int .i64 s.rank, .bool s.sec, .bool s.deb, .bool s.am, .int .i64 s.need] 27)) #[] 0 (by simp) (by unfold maxLen; omega) rfl).drew
            simpa using this
          have xB : Rd ((w2.alloc (.cells #[] 27)).alloc (.cells #[.int .i64 s.id, .string s.name, .int .i64 s.rank, .bool s.sec, .bool s.deb, .bool s.am, .int .i64 s.need] 27)).drew (some ⟨w2.heap.size + 1, 0, none⟩) [.int .i64 s.id, .string s.name, .int .i64 s.rank, .bool s.sec, .bool s.deb, .bool s.am, .int .i64 s.need] := by
            have := (rd_new' (w2.alloc (.cells #[] 27)) #[.int .i64 s.id, .string s.name, .int .i64 s.rank, .bool s.sec, .bool s.deb, .bool s.am, .int .i64 s.need] 27).drew
            simpa using this
          have xC : Rd ((w2.alloc (.cells #[.int .i64 s.id, .string s.name, .int .i64 s.rank, .bool s.sec, .bool s.deb, .bool s.am, .int .i64 s.need] 27)).alloc (.cells #[] 27)).drew (some ⟨w2.heap.size, 0, none⟩) [.int .i64 s.id, .string s.name, .int .i64 s.rank, .bool s.sec, .bool s.deb, .bool s.am, .int .i64 s.need] := ((rd_new' w2 #[.int .i64 s.id, .string s.name, .int .i64 s.rank, .bool s.sec, .bool s.deb, .bool s.am, .int .i64 s.need] 27).alloc (.cells #[] 27)).drew
          have tW := hT.below hb02
          have tA := tW.below bA; have tB := tW.below bB; have tC := tW.below bC
          go_region_held3 (fun w' => (w'.cell? ⟨bx, 0, none⟩ = some (.int .i64 s.id) ∧ w'.cell? ⟨bx, 1, none⟩ = some (.string s.name) ∧ w'.cell? ⟨bx, 2, none⟩ = some (.int .i64 s.rank) ∧ w'.cell? ⟨bx, 3, none⟩ = some (.bool s.sec) ∧ w'.cell? ⟨bx, 4, none⟩ = some (.bool s.deb) ∧ w'.cell? ⟨bx, 5, none⟩ = some (.bool s.am) ∧ w'.cell? ⟨bx, 6, none⟩ = some (.int .i64 s.need))) ((first | assumption | go_keep)) ((first | (refine step_app (by rfl) (.tmp 35) (.tmp 38) 33 (by rfl) el_Rul (v := .slice A2 (k + 1) c2) (by (first | rfl | exact congrArg (fun q => Value.slice A2 q c2) (Nat.zero_add k))) ho3 (by rfl) hDl hD4 hD1 (by unfold maxLen; omega) (by omega) hb4.size ?_; intro A5 c5 w5 ho5 hg5 _; have hb5 := hb4.grown hg5 hb4.size (fun q hq => (ho3.lt q hq).1); have hS5 : (w5.cell? ⟨bx, 0, none⟩ = some (.int .i64 s.id) ∧ w5.cell? ⟨bx, 1, none⟩ = some (.string s.name) ∧ w5.cell? ⟨bx, 2, none⟩ = some (.int .i64 s.rank) ∧ w5.cell? ⟨bx, 3, none⟩ = some (.bool s.sec) ∧ w5.cell? ⟨bx, 4, none⟩ = some (.bool s.deb) ∧ w5.cell? ⟨bx, 5, none⟩ = some (.bool s.am) ∧ w5.cell? ⟨bx, 6, none⟩ = some (.int .i64 s.need)) := ⟨My.cell_below' m0 hb5, My.cell_below' m1 hb5, My.cell_below' m2 hb5, My.cell_below' m3 hb5, My.cell_below' m4 hb5, My.cell_below' m5 hb5, My.cell_below' m6 hb5⟩) | (refine step_app (by rfl) (.tmp 32) (.tmp 34) 33 (by rfl) el_Rul (v := .slice A1 k c1) (by (first | rfl | exact congrArg (fun q => Value.slice A1 q c1) (Nat.zero_add k))) o2 (by rfl) rfl x2 HX1 (by unfold maxLen; omega) (by omega) b2.size ?_; intro A2 c2 w4 ho3 hg2 _; have hb4 := b2.grown hg2 b2.size (fun q hq => (o2.lt q hq).1); have hD4 := (hD.below hb02).below hb4; have hS4 : (w4.cell? ⟨bx, 0, none⟩ = some (.int .i64 s.id) ∧ w4.cell? ⟨bx, 1, none⟩ = some (.string s.name) ∧ w4.cell? ⟨bx, 2, none⟩ = some (.int .i64 s.rank) ∧ w4.cell? ⟨bx, 3, none⟩ = some (.bool s.sec) ∧ w4.cell? ⟨bx, 4, none⟩ = some (.bool s.deb) ∧ w4.cell? ⟨bx, 5, none⟩ = some (.bool s.am) ∧ w4.cell? ⟨bx, 6, none⟩ = some (.int .i64 s.need)) := ⟨My.cell_below' m0 hb4, My.cell_below' m1 hb4, My.cell_below' m2 hb4, My.cell_below' m3 hb4, My.cell_below' m4 hb4, My.cell_below' m5 hb4, My.cell_below' m6 hb4⟩) | (refine step_app (by rfl) (.tmp 28) (.tmp 31) 33 (by rfl) el_Rul (v := .slice (some ⟨w2.heap.size, 0, none⟩) 0 0) (by (first | rfl | exact congrArg (fun q => Value.slice none q 0) (Nat.zero_add 0))) oB (by rfl) hTl tB hT1 (by unfold maxLen; omega) (by omega) bB.size ?_; intro A1 c1 w3 ho1 hg1 _; have b2 := bB.grown hg1 bB.size (fun q hq => (oB.lt q hq).1); simp only [Nat.zero_add, List.nil_append] at ho1; have o2 := ho1; have x2 := xB.grown hg1 (fun ad h => by cases h; simp [Value.ownBlock]); have hS3 : (w3.cell? ⟨bx, 0, none⟩ = some (.int .i64 s.id) ∧ w3.cell? ⟨bx, 1, none⟩ = some (.string s.name) ∧ w3.cell? ⟨bx, 2, none⟩ = some (.int .i64 s.rank) ∧ w3.cell? ⟨bx, 3, none⟩ = some (.bool s.sec) ∧ w3.cell? ⟨bx, 4, none⟩ = some (.bool s.deb) ∧ w3.cell? ⟨bx, 5, none⟩ = some (.bool s.am) ∧ w3.cell? ⟨bx, 6, none⟩ = some (.int .i64 s.need)) := ⟨My.cell_below' m0 b2, My.cell_below' m1 b2, My.cell_below' m2 b2, My.cell_below' m3 b2, My.cell_below' m4 b2, My.cell_below' m5 b2, My.cell_below' m6 b2⟩; clear ho1) | (refine step_app (by rfl) (.tmp 28) (.tmp 31) 33 (by rfl) el_Rul (v := .slice (some ⟨w2.heap.size + 1, 0, none⟩) 0 0) (by (first | rfl | exact congrArg (fun q => Value.slice none q 0) (Nat.zero_add 0))) oC (by rfl) hTl tC hT1 (by unfold maxLen; omega) (by omega) bC.size ?_; intro A1 c1 w3 ho1 hg1 _; have b2 := bC.grown hg1 bC.size (fun q hq => (oC.lt q hq).1); simp only [Nat.zero_add, List.nil_append] at ho1; have o2 := ho1; have x2 := xC.grown hg1 (fun ad h => by cases h; simp [Value.ownBlock]); have hS3 : (w3.cell? ⟨bx, 0, none⟩ = some (.int .i64 s.id) ∧ w3.cell? ⟨bx, 1, none⟩ = some (.string s.name) ∧ w3.cell? ⟨bx, 2, none⟩ = some (.int .i64 s.rank) ∧ w3.cell? ⟨bx, 3, none⟩ = some (.bool s.sec) ∧ w3.cell? ⟨bx, 4, none⟩ = some (.bool s.deb) ∧ w3.cell? ⟨bx, 5, none⟩ = some (.bool s.am) ∧ w3.cell? ⟨bx, 6, none⟩ = some (.int .i64 s.need)) := ⟨My.cell_below' m0 b2, My.cell_below' m1 b2, My.cell_below' m2 b2, My.cell_below' m3 b2, My.cell_below' m4 b2, My.cell_below' m5 b2, My.cell_below' m6 b2⟩; clear ho1) | (refine step_app (by rfl) (.tmp 28) (.tmp 31) 33 (by rfl) el_Rul (v := .slice (some ⟨w2.heap.size, 0, none⟩) 0 0) (by (first | rfl | exact congrArg (fun q => Value.slice none q 0) (Nat.zero_add 0))) oA (by rfl) hTl tA hT1 (by unfold maxLen; omega) (by omega) bA.size ?_; intro A1 c1 w3 ho1 hg1 _; have hb3 := bA.grown hg1 bA.size (fun q hq => (oA.lt q hq).1); simp only [Nat.zero_add, List.nil_append] at ho1; have b2 := bnew hb3 (.cells #[.int .i64 s.id, .string s.name, .int .i64 s.rank, .bool s.sec, .bool s.deb, .bool s.am, .int .i64 s.need] 27); have o2 := own_below ho1 (bnew (Below.refl w3.heap.size w3) (.cells #[.int .i64 s.id, .string s.name, .int .i64 s.rank, .bool s.sec, .bool s.deb, .bool s.am, .int .i64 s.need] 27)); have x2 := rd_new' w3 #[.int .i64 s.id, .string s.name, .int .i64 s.rank, .bool s.sec, .bool s.deb, .bool s.am, .int .i64 s.need] 27; have hS3 : (w3.cell? ⟨bx, 0, none⟩ = some (.int .i64 s.id) ∧ w3.cell? ⟨bx, 1, none⟩ = some (.string s.name) ∧ w3.cell? ⟨bx, 2, none⟩ = some (.int .i64 s.rank) ∧ w3.cell? ⟨bx, 3, none⟩ = some (.bool s.sec) ∧ w3.cell? ⟨bx, 4, none⟩ = some (.bool s.deb) ∧ w3.cell? ⟨bx, 5, none⟩ = some (.bool s.am) ∧ w3.cell? ⟨bx, 6, none⟩ = some (.int .i64 s.need)) := ⟨My.cell_below' m0 hb3, My.cell_below' m1 hb3, My.cell_below' m2 hb3, My.cell_below' m3 hb3, My.cell_below' m4 hb3, My.cell_below' m5 hb3, My.cell_below' m6 hb3⟩; clear ho1)))
          all_goals
            have hL := HYN.out _ rfl
            rw [← HYC.out, ← hL] at ho5
            rw [← hL]
            have hle := own_le ho5
            have hR := own_rd ho5
            by_cases hgy : goodRul ys = true
            · have HR : Hid (r = (ys, true)) := HRE.out.trans (if_pos hgy)
              clear HRE hL HYN HYC HYL hT hD
              go_wp2_with fail
              refine (l2Good_any A5 c5 ys _ (by unfold maxLen; omega) hle hR Hsz.out).mono ?_
              rintro en w6 ⟨rfl, hb6⟩
              have ho6 := own_below ho5 hb6
              go_wp2
              exact bodyPost_ret (v := .tuple #[.slice A5 ys.length c5, .bool true]) (by simp [results, Tryd.results69, go_sem]) rfl ⟨A5, c5, by rw [HR.out], by rw [HR.out]; exact own_base ho6 hb02.size, btr hb02 (btr hb5 hb6)⟩
            · have HR : Hid (r = ([], false)) := HRE.out.trans (if_neg hgy)
              have hgy' : goodRul ys = false := by simpa using hgy
              clear HRE hL HYN HYC HYL hT hD hgy
              go_wp2_with fail
              refine (l2Good_any A5 c5 ys _ (by unfold maxLen; omega) hle hR Hsz.out).mono ?_
              rintro en w6 ⟨rfl, hb6⟩
              have hb16 := btr hb02 (btr hb5 hb6)
              go_wp2
              exact bodyPost_ret (v := .tuple #[.slice (some ⟨w6.heap.size, 0, none⟩) 0 0, .bool false]) (by simp [results, Tryd.results69, go_sem]) rfl ⟨some ⟨w6.heap.size, 0, none⟩, 0, by rw [HR.out]; rfl, by rw [HR.out]; exact own_lit (e := 27) (size := 7) (w := w6) #[] 0 hb16.size (by unfold maxLen; omega) rfl, bnew hb16 _⟩
      · have Hf : Hid (G = k) := H.out.trans (by rw [List.drop_eq_nil_of_le (by omega)]; rfl)
        have hkD : decide ((k : Int) < (xs.length : Int)) = false := by simp; omega
        clear H kr0
        go_wp2_with fail
        refine wp_region_after (by kernel_rfl) (by kernel_rfl) ?_
        repeat (go_big_quiet_step (fail))
        refine wpQuiet_nil ?_
        intro nq
        have hbq := btr hb nq.bel
        have hb02 := btr hb01 hbq
        generalize nq.val = w2 at *
        have HY : Hid (ys = insAt xs k s) := HGE.out.trans (by rw [Hf.out])
        clear HGE HG0 g0
        have HYL : Hid (ys.length = xs.length + 1) := by show _ = _; rw [HY.out]; exact insAt_len _ _ _ hk
        have Hsz := Lib.hid (HI.out ys rfl)
        have hy13 : ys.length ≤ 9 := by have := HYL.out; omega
        have m0 := cell_below' k0 hbq
        have m1 := cell_below' k1 hbq
        have m2 := cell_below' k2 hbq
        have m3 := cell_below' k3 hbq
        have m4 := cell_below' k4 hbq
        have m5 := cell_below' k5 hbq
        have m6 := cell_below' k6 hbq
        have HYC : Hid (rulCells ys = rulCells (xs.take k) ++ [.int .i64 s.id, .string s.name, .int .i64 s.rank, .bool s.sec, .bool s.deb, .bool s.am, .int .i64 s.need] ++ rulCells (xs.drop k)) := by show _ = _; rw [HY.out]; simp [insAt, rulCells, Rul.cells]
        have HYN : Hid (∀ (n : Nat), n = ys.length → n = k + 1 + (xs.length - k)) := fun n h => by rw [h, HYL.out]; omega
        clear HY HI
        have hpre := run_pre el_Rul (A) (n := xs.length) (c := c) (k := k) (by omega)
        have hcut := run_cut el_Rul (A) (n := xs.length) (c := c) (k := k) (by omega)
        have hT : Rd w (A) (rulCells (xs.take k)) := by have := hx.take (k * 7); rwa [rulCells_take xs k (by omega)] at this
        have hD : Rd w (cutA (A) c k 7) (rulCells (xs.drop k)) := by
          have := hx.cutA k 7 c (by intro h; rw [rulCells_len]; omega)
          rwa [rulCells_drop xs k (by omega)] at this
        have hT1 := rulCells_one (xs.take k)
        have hTl : (rulCells (xs.take k)).length = k * 7 := by rw [rulCells_len, List.length_take, Nat.min_eq_left (by omega)]
        have hD1 := rulCells_one (xs.drop k)
        have hDl : (rulCells (xs.drop k)).length = (xs.length - k) * 7 := by rw [rulCells_len, List.length_drop]
        generalize rulCells (xs.take k) = TC at *
        generalize rulCells (xs.drop k) = DC at *
        generalize cutA (A) c k 7 = DA at *
        go_wp2_with fail
        have HX1 : ∀ u ∈ ([.int .i64 s.id, .string s.name, .int .i64 s.rank, .bool s.sec, .bool s.deb, .bool s.am, .int .i64 s.need] : List Value), u.oneCell' = true := by simp [Value.oneCell']
        have bA := (bnew (Below.refl w2.heap.size w2) (.cells #[] 27)).drew
        have bB := (bnew (bnew (Below.refl w2.heap.size w2) (.cells #[] 27)) (.cells #[.int .i64 s.id, .string s.name, .int .i64 s.rank, .bool s.sec, .bool s.deb, .bool s.am, .int .i64 s.need] 27)).drew
        have bC := (bnew (bnew (Below.refl w2.heap.size w2) (.cells #[.int .i64 s.id, .string s.name, .int .i64 s.rank, .bool s.sec, .bool s.deb, .bool s.am, .int .i64 s.need] 27)) (.cells #[] 27)).drew
        have oA := (own_lit (e := 27) (size := 7) (B := w2.heap.size) (w := w2) #[] 0 (Nat.le_refl _) (by unfold maxLen; omega) rfl).drew
        have oB := (own_below (own_lit (e := 27) (size := 7) (B := w2.heap.size) (w := w2) #[] 0 (Nat.le_refl _) (by unfold maxLen; omega) rfl) (bnew (Below.refl (w2.alloc (.cells #[] 27)).heap.size (w2.alloc (.cells #[] 27))) (.cells #[.int .i64 s.id, .string s.name, .int .i64 s.rank, .bool s.sec, .bool s.deb, .bool s.am, .int .i64 s.need] 27))).drew
        have oC : ((w2.alloc (.cells #[.int .i64 s.id, .string s.name, .int .i64 s.rank, .bool s.sec, .bool s.deb, .bool s.am, .int .i64 s.need] 27)).alloc (.cells #[] 27)).drew.ownsRow w2.heap.size 27 7 (.slice (some ⟨w2.heap.size + 1, 0, none⟩) 0 0) 0 [] := by
          have := (own_lit (e := 27) (size := 7) (B := w2.heap.size) (w := w2.alloc (.cells #[.int .i64 s.id, .string s.name, .int .i64 s.rank, .bool s.sec, .bool s.deb, .bool s.am, .int .i64 s.need] 27)) #[] 0 (by simp) (by unfold maxLen; omega) rfl).drew
          simpa using this
        have xB : Rd ((w2.alloc (.cells #[] 27)).alloc (.cells #[.int .i64 s.id, .string s.name, .int .i64 s.rank, .bool s.sec, .bool s.deb, .bool s.am, .int .i64 s.need] 27)).drew (some ⟨w2.heap.size + 1, 0, none⟩) [.int .i64 s.id, .string s.name, .int .i64 s.rank, .bool s.sec, .bool s.deb, .bool s.am, .int .i64 s.need] := by
          have := (rd_new' (w2.alloc (.cells #[] 27)) #[.int .i64 s.id, .string s.name, .int .i64 s.rank, .bool s.sec, .bool s.deb, .bool s.am, .int .i64 s.need] 27).drew
          simpa using this
        have xC : Rd ((w2.alloc (.cells #[.int .i64 s.id, .string s.name, .int .i64 s.rank, .bool s.sec, .bool s.deb, .bool s.am, .int .i64 s.need] 27)).alloc (.cells #[] 27)).drew (some ⟨w2.heap.size, 0, none⟩) [.int .i64 s.id, .string s.name, .int .i64 s.rank, .bool s.sec, .bool s.deb, .bool s.am, .int .i64 s.need] := ((rd_new' w2 #[.int .i64 s.id, .string s.name, .int .i64 s.rank, .bool s.sec, .bool s.deb, .bool s.am, .int .i64 s.need] 27).alloc (.cells #[] 27)).drew
        have tW := hT.below hb02
        have tA := tW.below bA; have tB := tW.below bB; have tC := tW.below bC
        go_region_held3 (fun w' => (w'.cell? ⟨bx, 0, none⟩ = some (.int .i64 s.id) ∧ w'.cell? ⟨bx, 1, none⟩ = some (.string s.name) ∧ w'.cell? ⟨bx, 2, none⟩ = some (.int .i64 s.rank) ∧ w'.cell? ⟨bx, 3, none⟩ = some (.bool s.sec) ∧ w'.cell? ⟨bx, 4, none⟩ = some (.bool s.deb) ∧ w'.cell? ⟨bx, 5, none⟩ = some (.bool s.am) ∧ w'.cell? ⟨bx, 6, none⟩ = some (.int .i64 s.need))) ((first | assumption | go_keep)) ((first | (refine step_app (by rfl) (.tmp 35) (.tmp 38) 33 (by rfl) el_Rul (v := .slice A2 (k + 1) c2) (by (first | rfl | exact congrArg (fun q => Value.slice A2 q c2) (Nat.zero_add k))) ho3 (by rfl) hDl hD4 hD1 (by unfold maxLen; omega) (by omega) hb4.size ?_; intro A5 c5 w5 ho5 hg5 _; have hb5 := hb4.grown hg5 hb4.size (fun q hq => (ho3.lt q hq).1); have hS5 : (w5.cell? ⟨bx, 0, none⟩ = some (.int .i64 s.id) ∧ w5.cell? ⟨bx, 1, none⟩ = some (.string s.name) ∧ w5.cell? ⟨bx, 2, none⟩ = some (.int .i64 s.rank) ∧ w5.cell? ⟨bx, 3, none⟩ = some (.bool s.sec) ∧ w5.cell? ⟨bx, 4, none⟩ = some (.bool s.deb) ∧ w5.cell? ⟨bx, 5, none⟩ = some (.bool s.am) ∧ w5.cell? ⟨bx, 6, none⟩ = some (.int .i64 s.need)) := ⟨My.cell_below' m0 hb5, My.cell_below' m1 hb5, My.cell_below' m2 hb5, My.cell_below' m3 hb5, My.cell_below' m4 hb5, My.cell_below' m5 hb5, My.cell_below' m6 hb5⟩) | (refine step_app (by rfl) (.tmp 32) (.tmp 34) 33 (by rfl) el_Rul (v := .slice A1 k c1) (by (first | rfl | exact congrArg (fun q => Value.slice A1 q c1) (Nat.zero_add k))) o2 (by rfl) rfl x2 HX1 (by unfold maxLen; omega) (by omega) b2.size ?_; intro A2 c2 w4 ho3 hg2 _; have hb4 := b2.grown hg2 b2.size (fun q hq => (o2.lt q hq).1); have hD4 := (hD.below hb02).below hb4; have hS4 : (w4.cell? ⟨bx, 0, none⟩ = some (.int .i64 s.id) ∧ w4.cell? ⟨bx, 1, none⟩ = some (.string s.name) ∧ w4.cell? ⟨bx, 2, none⟩ = some (.int .i64 s.rank) ∧ w4.cell? ⟨bx, 3, none⟩ = some (.bool s.sec) ∧ w4.cell? ⟨bx, 4, none⟩ = some (.bool s.deb) ∧ w4.cell? ⟨bx, 5, none⟩ = some (.bool s.am) ∧ w4.cell? ⟨bx, 6, none⟩ = some (.int .i64 s.need)) := ⟨My.cell_below' m0 hb4, My.cell_below' m1 hb4, My.cell_below' m2 hb4, My.cell_below' m3 hb4, My.cell_below' m4 hb4, My.cell_below' m5 hb4, My.cell_below' m6 hb4⟩) | (refine step_app (by rfl) (.tmp 28) (.tmp 31) 33 (by rfl) el_Rul (v := .slice (some ⟨w2.heap.size, 0, none⟩) 0 0) (by (first | rfl | exact congrArg (fun q => Value.slice none q 0) (Nat.zero_add 0))) oB (by rfl) hTl tB hT1 (by unfold maxLen; omega) (by omega) bB.size ?_; intro A1 c1 w3 ho1 hg1 _; have b2 := bB.grown hg1 bB.size (fun q hq => (oB.lt q hq).1); simp only [Nat.zero_add, List.nil_append] at ho1; have o2 := ho1; have x2 := xB.grown hg1 (fun ad h => by cases h; simp [Value.ownBlock]); have hS3 : (w3.cell? ⟨bx, 0, none⟩ = some (.int .i64 s.id) ∧ w3.cell? ⟨bx, 1, none⟩ = some (.string s.name) ∧ w3.cell? ⟨bx, 2, none⟩ = some (.int .i64 s.rank) ∧ w3.cell? ⟨bx, 3, none⟩ = some (.bool s.sec) ∧ w3.cell? ⟨bx, 4, none⟩ = some (.bool s.deb) ∧ w3.cell? ⟨bx, 5, none⟩ = some (.bool s.am) ∧ w3.cell? ⟨bx, 6, none⟩ = some (.int .i64 s.need)) := ⟨My.cell_below' m0 b2, My.cell_below' m1 b2, My.cell_below' m2 b2, My.cell_below' m3 b2, My.cell_below' m4 b2, My.cell_below' m5 b2, My.cell_below' m6 b2⟩; clear ho1) | (refine step_app (by rfl) (.tmp 28) (.tmp 31) 33 (by rfl) el_Rul (v := .slice (some ⟨w2.heap.size + 1, 0, none⟩) 0 0) (by (first | rfl | exact congrArg (fun q => Value.slice none q 0) (Nat.zero_add 0))) oC (by rfl) hTl tC hT1 (by unfold maxLen; omega) (by omega) bC.size ?_; intro A1 c1 w3 ho1 hg1 _; have b2 := bC.grown hg1 bC.size (fun q hq => (oC.lt q hq).1); simp only [Nat.zero_add, List.nil_append] at ho1; have o2 := ho1; have x2 := xC.grown hg1 (fun ad h => by cases h; simp [Value.ownBlock]); have hS3 : (w3.cell? ⟨bx, 0, none⟩ = some (.int .i64 s.id) ∧ w3.cell? ⟨bx, 1, none⟩ = some (.string s.name) ∧ w3.cell? ⟨bx, 2, none⟩ = some (.int .i64 s.rank) ∧ w3.cell? ⟨bx, 3, none⟩ = some (.bool s.sec) ∧ w3.cell? ⟨bx, 4, none⟩ = some (.bool s.deb) ∧ w3.cell? ⟨bx, 5, none⟩ = some (.bool s.am) ∧ w3.cell? ⟨bx, 6, none⟩ = some (.int .i64 s.need)) := ⟨My.cell_below' m0 b2, My.cell_below' m1 b2, My.cell_below' m2 b2, My.cell_below' m3 b2, My.cell_below' m4 b2, My.cell_below' m5 b2, My.cell_below' m6 b2⟩; clear ho1) | (refine step_app (by rfl) (.tmp 28) (.tmp 31) 33 (by rfl) el_Rul (v := .slice (some ⟨w2.heap.size, 0, none⟩) 0 0) (by (first | rfl | exact congrArg (fun q => Value.slice none q 0) (Nat.zero_add 0))) oA (by rfl) hTl tA hT1 (by unfold maxLen; omega) (by omega) bA.size ?_; intro A1 c1 w3 ho1 hg1 _; have hb3 := bA.grown hg1 bA.size (fun q hq => (oA.lt q hq).1); simp only [Nat.zero_add, List.nil_append] at ho1; have b2 := bnew hb3 (.cells #[.int .i64 s.id, .string s.name, .int .i64 s.rank, .bool s.sec, .bool s.deb, .bool s.am, .int .i64 s.need] 27); have o2 := own_below ho1 (bnew (Below.refl w3.heap.size w3) (.cells #[.int .i64 s.id, .string s.name, .int .i64 s.rank, .bool s.sec, .bool s.deb, .bool s.am, .int .i64 s.need] 27)); have x2 := rd_new' w3 #[.int .i64 s.id, .string s.name, .int .i64 s.rank, .bool s.sec, .bool s.deb, .bool s.am, .int .i64 s.need] 27; have hS3 : (w3.cell? ⟨bx, 0, none⟩ = some (.int .i64 s.id) ∧ w3.cell? ⟨bx, 1, none⟩ = some (.string s.name) ∧ w3.cell? ⟨bx, 2, none⟩ = some (.int .i64 s.rank) ∧ w3.cell? ⟨bx, 3, none⟩ = some (.bool s.sec) ∧ w3.cell? ⟨bx, 4, none⟩ = some (.bool s.deb) ∧ w3.cell? ⟨bx, 5, none⟩ = some (.bool s.am) ∧ w3.cell? ⟨bx, 6, none⟩ = some (.int .i64 s.need)) := ⟨My.cell_below' m0 hb3, My.cell_below' m1 hb3, My.cell_below' m2 hb3, My.cell_below' m3 hb3, My.cell_below' m4 hb3, My.cell_below' m5 hb3, My.cell_below' m6 hb3⟩; clear ho1)))
        all_goals
          have hL := HYN.out _ rfl
          rw [← HYC.out, ← hL] at ho5
          rw [← hL]
          have hle := own_le ho5
          have hR := own_rd ho5
          by_cases hgy : goodRul ys = true
          · have HR : Hid (r = (ys, true)) := HRE.out.trans (if_pos hgy)
            clear HRE hL HYN HYC HYL hT hD
            go_wp2_with fail
            refine (l2Good_any A5 c5 ys _ (by unfold maxLen; omega) hle hR Hsz.out).mono ?_
            rintro en w6 ⟨rfl, hb6⟩
            have ho6 := own_below ho5 hb6
            go_wp2
            exact bodyPost_ret (v := .tuple #[.slice A5 ys.length c5, .bool true]) (by simp [results, Tryd.results69, go_sem]) rfl ⟨A5, c5, by rw [HR.out], by rw [HR.out]; exact own_base ho6 hb02.size, btr hb02 (btr hb5 hb6)⟩
          · have HR : Hid (r = ([], false)) := HRE.out.trans (if_neg hgy)
            have hgy' : goodRul ys = false := by simpa using hgy
            clear HRE hL HYN HYC HYL hT hD hgy
            go_wp2_with fail
            refine (l2Good_any A5 c5 ys _ (by unfold maxLen; omega) hle hR Hsz.out).mono ?_
            rintro en w6 ⟨rfl, hb6⟩
            have hb16 := btr hb02 (btr hb5 hb6)
            go_wp2
            exact bodyPost_ret (v := .tuple #[.slice (some ⟨w6.heap.size, 0, none⟩) 0 0, .bool false]) (by simp [results, Tryd.results69, go_sem]) rfl ⟨some ⟨w6.heap.size, 0, none⟩, 0, by rw [HR.out]; rfl, by rw [HR.out]; exact own_lit (e := 27) (size := 7) (w := w6) #[] 0 hb16.size (by unfold maxLen; omega) rfl, bnew hb16 _⟩
  · have HR : Hid (r = ([], false)) := hr.trans (if_neg hg)
    have hg' : goodRul xs = false := by simpa using hg
    clear hr hs hx hn hg
    go_enter Tryd.func69, Tryd.ntmps69
    go_wp2_with fail
    refine (Hv.out _ hbw).mono ?_
    rintro en w1 ⟨rfl, hb1⟩
    have hb01 := btr hbw hb1
    go_wp2
    exact bodyPost_ret (v := .tuple #[.slice (some ⟨w1.heap.size, 0, none⟩) 0 0, .bool false]) (by simp [results, Tryd.results69, go_sem]) rfl ⟨some ⟨w1.heap.size, 0, none⟩, 0, by rw [HR.out]; rfl, by rw [HR.out]; exact own_lit (e := 27) (size := 7) (w := w1) #[] 0 hb01.size (by unfold maxLen; omega) rfl, bnew hb01 _⟩
end Go.Proofs.YtfaphackdhdcaaaDoor
