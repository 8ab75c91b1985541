/-
  Contracts of MoveItem. Conditions: lengths within Go's range.
-/
import Derived.Test.YtpmliannnbfnmaaItm
import Derived.Test.YtpmliannnbfnmaaSlItm
import Derived.Test.YtpmliannnbfnmaaFindItm
import Derived.Test.YtpmliannnbfnmaaApp
namespace Go.My
open Go.RowKit
def insAt {α : Type} (xs : List α) (k : Nat) (x : α) : List α := xs.take k ++ x :: xs.drop k
theorem insAt_len {α : Type} (xs : List α) (k : Nat) (x : α) (hk : k ≤ xs.length) : (insAt xs k x).length = xs.length + 1 := by
  simp [insAt]; omega
theorem insAt_mem {α : Type} {xs : List α} {k : Nat} {x y : α} (h : y ∈ insAt xs k x) : y = x ∨ y ∈ xs := by
  unfold insAt at h
  rcases List.mem_append.1 h with h | h
  · exact .inr (List.mem_of_mem_take h)
  · rcases List.mem_cons.1 h with h | h
    · exact .inl h
    · exact .inr (List.mem_of_mem_drop h)
theorem rd_new' (w : World) (cs : Array Value) (e : TypeId) : Rd (w.alloc (.cells cs e)) (some ⟨w.heap.size, 0, none⟩) cs.toList := by
  refine .inr ⟨_, _, rfl, fun j hj => ?_⟩
  rw [Nat.zero_add, World.cell?_alloc_at _ _ _ _ rfl]
  simp only [Array.length_toList] at hj
  simp [hj]
theorem own_le {w : World} {B : Nat} {e : TypeId} {size n c : Nat} {A : Option Addr} {cells : List Value} (h : w.ownsRow B e size (.slice A n c) n cells) : n ≤ c := by
  obtain ⟨A0, c0, e0, hnc⟩ := own_form h
  simp only [Value.slice.injEq, true_and] at e0
  obtain ⟨rfl, rfl⟩ := e0
  exact hnc
theorem cell_below' {w w' : World} {p : Addr} {v : Value} (h : w.cell? p = some v) (hb : Below w.heap.size w w') : w'.cell? p = some v := (hb.cell (World.block_lt_of_cell? w _ h)).trans h
theorem own_ne2 {w : World} {B : Nat} {e : TypeId} {size n : Nat} {v : Value} {xs : List Value} (h : w.ownsRow B e size v n xs) : some w.heap.size ≠ v.ownBlock := fun e => by have := (h.lt _ e.symm).2; omega
def delAt {α : Type} (xs : List α) (k : Nat) : List α := xs.take k ++ xs.drop (k + 1)
theorem delAt_len {α : Type} (xs : List α) (k : Nat) (hk : k < xs.length) : (delAt xs k).length = xs.length - 1 := by
  simp [delAt]; omega

def moveL (xs : List Itm) (k j : Nat) : List Itm := match xs[k]? with
  | some s => insAt (delAt xs k) j s
  | none => []
def moveR (xs : List Itm) (i j : Int) : List Itm × Bool :=
  if (goodItm xs && decide (0 ≤ idxOf (fun s : Itm => s.id == i) xs) && inB j 0 ((xs.length : Int) - 1)) = true then (moveL xs (idxOf (fun s : Itm => s.id == i) xs).toNat j.toNat, true) else ([], false)
theorem goodItm_len {xs : List Itm} (h : goodItm xs = true) : xs.length ≤ 10 := by
  simp only [goodItm, Bool.and_eq_true, decide_eq_true_eq] at h; exact h.2
theorem moveL_eq {xs : List Itm} {k : Nat} (hk : k < xs.length) (j : Nat) : moveL xs k j = insAt (delAt xs k) j xs[k] := by simp [moveL, List.getElem?_eq_getElem hk]
end Go.My
namespace Go.Proofs.Ytpmliannnbfnmaa
open Go.RowKit Go.My
set_option maxHeartbeats 8000000 in
set_option maxRecDepth 100000 in
theorem specMove_any (A : Option Addr) (c : Nat) (xs : List Itm) (i t : Int) (w : World) (hn : xs.length ≤ maxLen) (hlc : xs.length ≤ c) (hx : Rd w A (itmCells xs)) (hs : ∀ y ∈ xs, y.title.size ≤ maxLen) :
    Calls Try.prog 7 #[.slice A xs.length c, .int .i64 i, .int .i64 t] w fun en w' => ∃ A' c', en = .returned (.tuple #[.slice A' (moveR xs i t).1.length c', .bool (moveR xs i t).2]) ∧ w'.ownsRow w.heap.size 38 4 (.slice A' (moveR xs i t).1.length c') (moveR xs i t).1.length (itmCells (moveR xs i t).1) ∧ Below w.heap.size w w' := by
  obtain ⟨r, hr⟩ : ∃ r, r = moveR xs i t := ⟨_, rfl⟩
  rw [← hr]
  have Hx := Lib.hid (findItm_any A c xs i w hn hx)
  have Hv : Hid (∀ w1, Below w.heap.size w w1 → Calls Try.prog 28 #[.slice A xs.length c] w1 fun e w' => e = .returned (.bool (goodItm xs)) ∧ Below w1.heap.size w1 w') :=
    fun w1 hb => l5Good_any A c xs w1 hn hlc (hx.below hb) hs
  obtain ⟨v, hv⟩ : ∃ v, v = idxOf (fun s : Itm => s.id == i) xs := ⟨_, rfl⟩
  unfold moveR at hr
  rw [← hv] at hr Hx
  have HV := Lib.hid hv
  have HRE := Lib.hid hr
  clear hv hr hs
  by_cases hg : goodItm xs = true
  · have h12 := goodItm_len hg
    by_cases hi : v < 0
    · have HR : Hid (r = ([], false)) := HRE.out.trans (if_neg (by simp; omega))
      have hid : decide (v < 0) = true := by simpa using hi
      clear HRE hx hn
      go_enter Try.func7, Try.ntmps7
      go_wp2_with (first | (go_at_call 27; refine Hx.out.mono ?_; rintro en w1 ⟨rfl, hb1⟩) | (go_at_call 28; refine (Hv.out w1 hb1).mono ?_; rintro en w2 ⟨rfl, hb2⟩; have hb02 := btr hb1 hb2) | (go_at_call 29; refine (l1In_any _ _ _ _).mono ?_; rintro en w9 ⟨rfl, rfl⟩))
      exact bodyPost_ret (v := .tuple #[.slice (some ⟨w2.heap.size, 0, none⟩) 0 0, .bool false]) (by simp [results, Try.results7, go_sem]) rfl ⟨some ⟨w2.heap.size, 0, none⟩, 0, by rw [HR.out]; rfl, by rw [HR.out]; exact own_lit (e := 38) (size := 4) (w := w2) #[] 0 hb02.size (by unfold maxLen; omega) rfl, bnew hb02 _⟩
    · obtain ⟨k, hk, e0, hp⟩ := idxOf_get (p := fun s : Itm => s.id == i) (xs := xs) (by have := HV.out; omega)
      have hvk : v = (k : Int) := HV.out.trans e0
      clear e0 hp HV hi
      subst hvk
      by_cases hq : inB t 0 ((xs.length : Int) - 1) = true
      · obtain ⟨j, hj⟩ : ∃ j : Nat, t = (j : Int) := ⟨t.toNat, by simp only [inB, decide_eq_true_eq] at hq; omega⟩
        subst hj
        have hjn : j + 1 ≤ xs.length := by simp only [inB, decide_eq_true_eq] at hq; omega
        have HR : Hid (r = (moveL xs k j, true)) := HRE.out.trans (by rw [if_pos (by simp [hg, hq])]; rfl)
        clear HRE hn
        have HY := Lib.hid (moveL_eq hk j)
        have hkI : (k : Int) < (xs.length : Int) := by omega
        generalize moveL xs k j = ys at *
        have HYL : Hid (ys.length = xs.length) := by show _ = _; rw [HY.out, insAt_len _ _ _ (by rw [delAt_len _ _ hk]; omega), delAt_len _ _ hk]; omega
        obtain ⟨rs, hrs⟩ : ∃ rs, rs = delAt xs k := ⟨_, rfl⟩
        have HRL : Hid (rs.length = xs.length - 1) := by show _ = _; rw [hrs, delAt_len _ _ hk]
        have HRC : Hid (itmCells rs = itmCells (xs.take k) ++ itmCells (xs.drop (k + 1))) := by show _ = _; rw [hrs]; exact itmCells_append _ _
        have HRN : Hid (∀ n, n = rs.length → n = k + (xs.length - (k + 1))) := fun n h => by rw [h, HRL.out]; omega
        have HYR : Hid (ys = insAt rs j xs[k]) := HY.out.trans (by rw [hrs])
        have HSP : Hid (∀ w1, Below w.heap.size w w1 → ∃ b off, A = some ⟨b, off, none⟩ ∧ w1.cell? ⟨b, off + k * 4, none⟩ = some (.int .i64 xs[k].id) ∧ w1.cell? ⟨b, off + k * 4 + 1, none⟩ = some (.string xs[k].title) ∧ w1.cell? ⟨b, off + k * 4 + 2, none⟩ = some (.int .i64 xs[k].mins) ∧ w1.cell? ⟨b, off + k * 4 + 3, none⟩ = some (.int .i64 xs[k].time)) := fun w1 hb => Rd.itm (hx.below hb) hk
        clear hrs HY
        generalize xs[k] = s at *
        have hpre := run_pre el_Itm A (n := xs.length) (c := c) (k := k) (by omega)
        have hcut : ∀ w : World, (Instr.slice 24 (.slice A xs.length c) (some (.int .i64 ((k : Int) + 1))) none none).run Try.prog w = .ok (.slice (cutA A c (k + 1) 4) (xs.length - (k + 1)) (c - (k + 1))) w := by
          intro w
          have := run_cut el_Itm A (n := xs.length) (c := c) (k := k + 1) (by omega) w
          rwa [show ((k + 1 : Nat) : Int) = (k : Int) + 1 by omega] at this
        have hT : Rd w A (itmCells (xs.take k)) := by have := hx.take (k * 4); rwa [itmCells_take xs k (by omega)] at this
        have hD : Rd w (cutA A c (k + 1) 4) (itmCells (xs.drop (k + 1))) := by
          have := hx.cutA (k + 1) 4 c (by intro h; rw [itmCells_len]; omega)
          rwa [itmCells_drop xs (k + 1) (by omega)] at this
        have hT1 := itmCells_one (xs.take k)
        have hTl : (itmCells (xs.take k)).length = k * 4 := by rw [itmCells_len, List.length_take, Nat.min_eq_left (by omega)]
        have hD1 := itmCells_one (xs.drop (k + 1))
        have hDl : (itmCells (xs.drop (k + 1))).length = (xs.length - (k + 1)) * 4 := by rw [itmCells_len, List.length_drop]
        generalize itmCells (xs.take k) = TC at *
        generalize itmCells (xs.drop (k + 1)) = DC at *
        generalize cutA A c (k + 1) 4 = DA at *
        have hkw : IntKind.i64.wrap ((k : Int) + 1) = (k : Int) + 1 := by rw [IntKind.wrap_i64]; omega
        go_enter Try.func7, Try.ntmps7
        go_wp2_with (first | (go_at_call 27; refine Hx.out.mono ?_; rintro en w1 ⟨rfl, hb1⟩) | (go_at_call 28; refine (Hv.out w1 hb1).mono ?_; rintro en w2 ⟨rfl, hb2⟩; have hb02 := btr hb1 hb2) | (go_at_call 29; refine (l1In_any _ _ _ _).mono ?_; rintro en w9 ⟨rfl, rfl⟩))
        have bA := (bnew (Below.refl w2.heap.size w2) (.cells #[] 38)).drew
        have oA := (own_lit (e := 38) (size := 4) (B := w2.heap.size) (w := w2) #[] 0 (Nat.le_refl _) (by unfold maxLen; omega) rfl).drew
        have tA := (hT.below hb02).below bA
        go_region_held3 (fun _ => True) (trivial) ((first | (refine step_app (by rfl) (.tmp 33) (.tmp 37) 24 (by rfl) el_Itm (v := .slice A1 k c1) (by (first | rfl | exact congrArg (fun q => Value.slice A1 q c1) (Nat.zero_add k))) o2 (by rfl) hDl hD4 hD1 (by unfold maxLen; omega) (by omega) hb3.size ?_; intro A5 c5 w5 ho5 hg5 _; have hb5 := hb3.grown hg5 hb3.size (fun q hq => (o2.lt q hq).1)) | (refine step_app (by rfl) (.tmp 29) (.tmp 32) 24 (by rfl) el_Itm (v := .slice (some ⟨w2.heap.size, 0, none⟩) 0 0) (by (first | rfl | fail)) oA (by rfl) hTl tA hT1 (by unfold maxLen; omega) (by omega) bA.size ?_; intro A1 c1 w3 ho1 hg1 _; have hb3 := bA.grown hg1 bA.size (fun q hq => (oA.lt q hq).1); simp only [Nat.zero_add, List.nil_append] at ho1; have o2 := ho1; have hD4 := (hD.below hb02).below hb3; clear ho1)))
        have hL := HRN.out _ rfl
        rw [← HRC.out, ← hL] at ho5
        rw [← hL]
        have hle := own_le ho5
        have hrl := HRL.out
        have hkr : j ≤ rs.length := by omega
        have hb05 := btr hb02 hb5
        clear hT hD hpre hcut bA oA tA hL HRC HRN hDl hTl hT1 hD1
        obtain ⟨b, off, rfl, c0, c1', c2', c3⟩ := HSP.out w5 hb05
        clear HSP hx
        have hx := own_rd ho5
        have HYC : Hid (itmCells ys = itmCells (rs.take j) ++ [.int .i64 s.id, .string s.title, .int .i64 s.mins, .int .i64 s.time] ++ itmCells (rs.drop j)) := by show _ = _; rw [HYR.out]; simp [insAt, itmCells, Itm.cells]
        have HYN : Hid (∀ (n : Nat), n = ys.length → n = j + 1 + (rs.length - j)) := fun n h => by rw [h, HYL.out]; omega
        have hrf := Below.refl w5.heap.size w5
        have hpre := run_pre el_Itm A5 (n := rs.length) (c := c5) (k := j) (by omega)
        have hcut := run_cut el_Itm A5 (n := rs.length) (c := c5) (k := j) (by omega)
        have hT : Rd w5 A5 (itmCells (rs.take j)) := by have := hx.take (j * 4); rwa [itmCells_take rs j (by omega)] at this
        have hD : Rd w5 (cutA A5 c5 j 4) (itmCells (rs.drop j)) := by
          have := hx.cutA j 4 c5 (by intro h; rw [itmCells_len]; omega)
          rwa [itmCells_drop rs j (by omega)] at this
        have hT1 := itmCells_one (rs.take j)
        have hTl : (itmCells (rs.take j)).length = j * 4 := by rw [itmCells_len, List.length_take, Nat.min_eq_left (by omega)]
        have hD1 := itmCells_one (rs.drop j)
        have hDl : (itmCells (rs.drop j)).length = (rs.length - j) * 4 := by rw [itmCells_len, List.length_drop]
        generalize itmCells (rs.take j) = TC at *
        generalize itmCells (rs.drop j) = DC at *
        generalize cutA A5 c5 j 4 = DA at *
        have hjI : (j : Int) ≤ (rs.length : Int) := by omega
        have hr10 : rs.length ≤ 10 := by omega
        clear HRL hrl
        go_wp2_with fail
        have HX1 : ∀ u ∈ ([.int .i64 s.id, .string s.title, .int .i64 s.mins, .int .i64 s.time] : List Value), u.oneCell' = true := by simp [Value.oneCell']
        have bA := (bnew (Below.refl w5.heap.size w5) (.cells #[] 38)).drew
        have bB := (bnew (bnew (Below.refl w5.heap.size w5) (.cells #[] 38)) (.cells #[.int .i64 s.id, .string s.title, .int .i64 s.mins, .int .i64 s.time] 38)).drew
        have bC := (bnew (bnew (Below.refl w5.heap.size w5) (.cells #[.int .i64 s.id, .string s.title, .int .i64 s.mins, .int .i64 s.time] 38)) (.cells #[] 38)).drew
        have oA := (own_lit (e := 38) (size := 4) (B := w5.heap.size) (w := w5) #[] 0 (Nat.le_refl _) (by unfold maxLen; omega) rfl).drew
        have oB := (own_below (own_lit (e := 38) (size := 4) (B := w5.heap.size) (w := w5) #[] 0 (Nat.le_refl _) (by unfold maxLen; omega) rfl) (bnew (Below.refl (w5.alloc (.cells #[] 38)).heap.size (w5.alloc (.cells #[] 38))) (.cells #[.int .i64 s.id, .string s.title, .int .i64 s.mins, .int .i64 s.time] 38))).drew
        have oC : ((w5.alloc (.cells #[.int .i64 s.id, .string s.title, .int .i64 s.mins, .int .i64 s.time] 38)).alloc (.cells #[] 38)).drew.ownsRow w5.heap.size 38 4 (.slice (some ⟨w5.heap.size + 1, 0, none⟩) 0 0) 0 [] := by
          have := (own_lit (e := 38) (size := 4) (B := w5.heap.size) (w := w5.alloc (.cells #[.int .i64 s.id, .string s.title, .int .i64 s.mins, .int .i64 s.time] 38)) #[] 0 (by simp) (by unfold maxLen; omega) rfl).drew
          simpa using this
        have xB : Rd ((w5.alloc (.cells #[] 38)).alloc (.cells #[.int .i64 s.id, .string s.title, .int .i64 s.mins, .int .i64 s.time] 38)).drew (some ⟨w5.heap.size + 1, 0, none⟩) [.int .i64 s.id, .string s.title, .int .i64 s.mins, .int .i64 s.time] := by
          have := (rd_new' (w5.alloc (.cells #[] 38)) #[.int .i64 s.id, .string s.title, .int .i64 s.mins, .int .i64 s.time] 38).drew
          simpa using this
        have xC : Rd ((w5.alloc (.cells #[.int .i64 s.id, .string s.title, .int .i64 s.mins, .int .i64 s.time] 38)).alloc (.cells #[] 38)).drew (some ⟨w5.heap.size, 0, none⟩) [.int .i64 s.id, .string s.title, .int .i64 s.mins, .int .i64 s.time] := ((rd_new' w5 #[.int .i64 s.id, .string s.title, .int .i64 s.mins, .int .i64 s.time] 38).alloc (.cells #[] 38)).drew
        have tW := hT.below hrf
        have tA := tW.below bA; have tB := tW.below bB; have tC := tW.below bC
        go_region_held3 (fun w' => (w'.cell? ⟨b, off + k * 4, none⟩ = some (.int .i64 s.id) ∧ w'.cell? ⟨b, off + k * 4 + 1, none⟩ = some (.string s.title) ∧ w'.cell? ⟨b, off + k * 4 + 2, none⟩ = some (.int .i64 s.mins) ∧ w'.cell? ⟨b, off + k * 4 + 3, none⟩ = some (.int .i64 s.time))) ((first | assumption | go_keep)) ((first | (refine step_app (by rfl) (.tmp 49) (.tmp 52) 24 (by rfl) el_Itm (v := .slice A2 (j + 1) c2) (by (first | rfl | exact congrArg (fun q => Value.slice A2 q c2) (Nat.zero_add j))) ho3 (by rfl) hDl hD4 hD1 (by unfold maxLen; omega) (by omega) hb4.size ?_; intro A6 c6 w6 ho6 hg6 _; have hb6 := hb4.grown hg6 hb4.size (fun q hq => (ho3.lt q hq).1); have hS5 : (w6.cell? ⟨b, off + k * 4, none⟩ = some (.int .i64 s.id) ∧ w6.cell? ⟨b, off + k * 4 + 1, none⟩ = some (.string s.title) ∧ w6.cell? ⟨b, off + k * 4 + 2, none⟩ = some (.int .i64 s.mins) ∧ w6.cell? ⟨b, off + k * 4 + 3, none⟩ = some (.int .i64 s.time)) := ⟨My.cell_below' c0 hb6, My.cell_below' c1' hb6, My.cell_below' c2' hb6, My.cell_below' c3 hb6⟩) | (refine step_app (by rfl) (.tmp 43) (.tmp 48) 24 (by rfl) el_Itm (v := .slice A1 j c1) (by (first | rfl | exact congrArg (fun q => Value.slice A1 q c1) (Nat.zero_add j))) o2 (by rfl) rfl x2 HX1 (by unfold maxLen; omega) (by omega) b2.size ?_; intro A2 c2 w4 ho3 hg2 _; have hb4 := b2.grown hg2 b2.size (fun q hq => (o2.lt q hq).1); have hD4 := (hD.below hrf).below hb4; have hS4 : (w4.cell? ⟨b, off + k * 4, none⟩ = some (.int .i64 s.id) ∧ w4.cell? ⟨b, off + k * 4 + 1, none⟩ = some (.string s.title) ∧ w4.cell? ⟨b, off + k * 4 + 2, none⟩ = some (.int .i64 s.mins) ∧ w4.cell? ⟨b, off + k * 4 + 3, none⟩ = some (.int .i64 s.time)) := ⟨My.cell_below' c0 hb4, My.cell_below' c1' hb4, My.cell_below' c2' hb4, My.cell_below' c3 hb4⟩) | (refine step_app (by rfl) (.tmp 39) (.tmp 42) 24 (by rfl) el_Itm (v := .slice (some ⟨w5.heap.size, 0, none⟩) 0 0) (by (first | rfl | exact congrArg (fun q => Value.slice none q 0) (Nat.zero_add 0))) oB (by rfl) hTl tB hT1 (by unfold maxLen; omega) (by omega) bB.size ?_; intro A1 c1 w3 ho1 hg1 _; have b2 := bB.grown hg1 bB.size (fun q hq => (oB.lt q hq).1); simp only [Nat.zero_add, List.nil_append] at ho1; have o2 := ho1; have x2 := xB.grown hg1 (fun ad h => by cases h; simp [Value.ownBlock]); have hS3 : (w3.cell? ⟨b, off + k * 4, none⟩ = some (.int .i64 s.id) ∧ w3.cell? ⟨b, off + k * 4 + 1, none⟩ = some (.string s.title) ∧ w3.cell? ⟨b, off + k * 4 + 2, none⟩ = some (.int .i64 s.mins) ∧ w3.cell? ⟨b, off + k * 4 + 3, none⟩ = some (.int .i64 s.time)) := ⟨My.cell_below' c0 b2, My.cell_below' c1' b2, My.cell_below' c2' b2, My.cell_below' c3 b2⟩; clear ho1) | (refine step_app (by rfl) (.tmp 39) (.tmp 42) 24 (by rfl) el_Itm (v := .slice (some ⟨w5.heap.size + 1, 0, none⟩) 0 0) (by (first | rfl | exact congrArg (fun q => Value.slice none q 0) (Nat.zero_add 0))) oC (by rfl) hTl tC hT1 (by unfold maxLen; omega) (by omega) bC.size ?_; intro A1 c1 w3 ho1 hg1 _; have b2 := bC.grown hg1 bC.size (fun q hq => (oC.lt q hq).1); simp only [Nat.zero_add, List.nil_append] at ho1; have o2 := ho1; have x2 := xC.grown hg1 (fun ad h => by cases h; simp [Value.ownBlock]); have hS3 : (w3.cell? ⟨b, off + k * 4, none⟩ = some (.int .i64 s.id) ∧ w3.cell? ⟨b, off + k * 4 + 1, none⟩ = some (.string s.title) ∧ w3.cell? ⟨b, off + k * 4 + 2, none⟩ = some (.int .i64 s.mins) ∧ w3.cell? ⟨b, off + k * 4 + 3, none⟩ = some (.int .i64 s.time)) := ⟨My.cell_below' c0 b2, My.cell_below' c1' b2, My.cell_below' c2' b2, My.cell_below' c3 b2⟩; clear ho1) | (refine step_app (by rfl) (.tmp 39) (.tmp 42) 24 (by rfl) el_Itm (v := .slice (some ⟨w5.heap.size, 0, none⟩) 0 0) (by (first | rfl | exact congrArg (fun q => Value.slice none q 0) (Nat.zero_add 0))) oA (by rfl) hTl tA hT1 (by unfold maxLen; omega) (by omega) bA.size ?_; intro A1 c1 w3 ho1 hg1 _; have hb3 := bA.grown hg1 bA.size (fun q hq => (oA.lt q hq).1); simp only [Nat.zero_add, List.nil_append] at ho1; have b2 := bnew hb3 (.cells #[.int .i64 s.id, .string s.title, .int .i64 s.mins, .int .i64 s.time] 38); have o2 := own_below ho1 (bnew (Below.refl w3.heap.size w3) (.cells #[.int .i64 s.id, .string s.title, .int .i64 s.mins, .int .i64 s.time] 38)); have x2 := rd_new' w3 #[.int .i64 s.id, .string s.title, .int .i64 s.mins, .int .i64 s.time] 38; have hS3 : (w3.cell? ⟨b, off + k * 4, none⟩ = some (.int .i64 s.id) ∧ w3.cell? ⟨b, off + k * 4 + 1, none⟩ = some (.string s.title) ∧ w3.cell? ⟨b, off + k * 4 + 2, none⟩ = some (.int .i64 s.mins) ∧ w3.cell? ⟨b, off + k * 4 + 3, none⟩ = some (.int .i64 s.time)) := ⟨My.cell_below' c0 hb3, My.cell_below' c1' hb3, My.cell_below' c2' hb3, My.cell_below' c3 hb3⟩; clear ho1)))
        all_goals
          have hL := HYN.out _ rfl
          rw [← HYC.out, ← hL] at ho6
          go_wp2
          exact bodyPost_ret (v := .tuple #[.slice A6 ys.length c6, .bool true]) (by simp [results, Try.results7, go_sem] <;> omega) rfl ⟨A6, c6, by rw [HR.out], by rw [HR.out]; exact own_base ho6 hb05.size, btr hb05 hb6⟩
      · have HR : Hid (r = ([], false)) := HRE.out.trans (if_neg (by simp [hq]))
        have hq' : inB t 0 ((xs.length : Int) - 1) = false := by simpa using hq
        clear HRE hx hn hq
        go_enter Try.func7, Try.ntmps7
        go_wp2_with (first | (go_at_call 27; refine Hx.out.mono ?_; rintro en w1 ⟨rfl, hb1⟩) | (go_at_call 28; refine (Hv.out w1 hb1).mono ?_; rintro en w2 ⟨rfl, hb2⟩; have hb02 := btr hb1 hb2) | (go_at_call 29; refine (l1In_any _ _ _ _).mono ?_; rintro en w9 ⟨rfl, rfl⟩))
        exact bodyPost_ret (v := .tuple #[.slice (some ⟨w2.heap.size, 0, none⟩) 0 0, .bool false]) (by simp [results, Try.results7, go_sem]) rfl ⟨some ⟨w2.heap.size, 0, none⟩, 0, by rw [HR.out]; rfl, by rw [HR.out]; exact own_lit (e := 38) (size := 4) (w := w2) #[] 0 hb02.size (by unfold maxLen; omega) rfl, bnew hb02 _⟩
  · have HR : Hid (r = ([], false)) := HRE.out.trans (if_neg (by simp [hg]))
    have hg' : goodItm xs = false := by simpa using hg
    clear HRE hx hn hg
    go_enter Try.func7, Try.ntmps7
    go_wp2_with (first | (go_at_call 27; refine Hx.out.mono ?_; rintro en w1 ⟨rfl, hb1⟩) | (go_at_call 28; refine (Hv.out w1 hb1).mono ?_; rintro en w2 ⟨rfl, hb2⟩; have hb02 := btr hb1 hb2) | (go_at_call 29; refine (l1In_any _ _ _ _).mono ?_; rintro en w9 ⟨rfl, rfl⟩))
    exact bodyPost_ret (v := .tuple #[.slice (some ⟨w2.heap.size, 0, none⟩) 0 0, .bool false]) (by simp [results, Try.results7, go_sem]) rfl ⟨some ⟨w2.heap.size, 0, none⟩, 0, by rw [HR.out]; rfl, by rw [HR.out]; exact own_lit (e := 38) (size := 4) (w := w2) #[] 0 hb02.size (by unfold maxLen; omega) rfl, bnew hb02 _⟩
set_option maxHeartbeats 8000000 in
set_option maxRecDepth 100000 in
theorem move_any (A : Option Addr) (c : Nat) (xs : List Itm) (i t : Int) (w : World) (hn : xs.length ≤ maxLen) (hlc : xs.length ≤ c) (hx : Rd w A (itmCells xs)) (hs : ∀ y ∈ xs, y.title.size ≤ maxLen) :
    Calls Try.prog 9 #[.slice A xs.length c, .int .i64 i, .int .i64 t] w fun en w' => ∃ A' c', en = .returned (.tuple #[.slice A' (moveR xs i t).1.length c', .bool (moveR xs i t).2]) ∧ w'.ownsRow w.heap.size 38 4 (.slice A' (moveR xs i t).1.length c') (moveR xs i t).1.length (itmCells (moveR xs i t).1) ∧ Below w.heap.size w w' := by
  obtain ⟨r, hr⟩ : ∃ r, r = moveR xs i t := ⟨_, rfl⟩
  rw [← hr]
  have Hx := Lib.hid (itemIndex_any A c xs i w hn hx)
  have Hv : Hid (∀ w1, Below w.heap.size w w1 → Calls Try.prog 32 #[.slice A xs.length c] w1 fun e w' => e = .returned (.bool (goodItm xs)) ∧ Below w1.heap.size w1 w') :=
    fun w1 hb => isAgenda_any A c xs w1 hn hlc (hx.below hb) hs
  obtain ⟨v, hv⟩ : ∃ v, v = idxOf (fun s : Itm => s.id == i) xs := ⟨_, rfl⟩
  unfold moveR at hr
  rw [← hv] at hr Hx
  have HV := Lib.hid hv
  have HRE := Lib.hid hr
  clear hv hr hs
  by_cases hg : goodItm xs = true
  · have h12 := goodItm_len hg
    by_cases hi : v < 0
    · have HR : Hid (r = ([], false)) := HRE.out.trans (if_neg (by simp; omega))
      have hid : decide (v < 0) = true := by simpa using hi
      clear HRE hx hn
      go_enter Try.func9, Try.ntmps9
      go_wp2_with (first | (go_at_call 31; refine Hx.out.mono ?_; rintro en w1 ⟨rfl, hb1⟩) | (go_at_call 32; refine (Hv.out w1 hb1).mono ?_; rintro en w2 ⟨rfl, hb2⟩; have hb02 := btr hb1 hb2) | (go_at_call 33; refine (inside_any _ _ _ _).mono ?_; rintro en w9 ⟨rfl, rfl⟩))
      exact bodyPost_ret (v := .tuple #[.slice none 0 0, .bool false]) (by simp [results, Try.results9, go_sem]) rfl ⟨none, 0, by rw [HR.out]; rfl, by rw [HR.out]; exact own_nil, hb02⟩
    · obtain ⟨k, hk, e0, hp⟩ := idxOf_get (p := fun s : Itm => s.id == i) (xs := xs) (by have := HV.out; omega)
      have hvk : v = (k : Int) := HV.out.trans e0
      clear e0 hp HV hi
      subst hvk
      by_cases hq : inB t 0 ((xs.length : Int) - 1) = true
      · obtain ⟨j, hj⟩ : ∃ j : Nat, t = (j : Int) := ⟨t.toNat, by simp only [inB, decide_eq_true_eq] at hq; omega⟩
        subst hj
        have hjn : j + 1 ≤ xs.length := by simp only [inB, decide_eq_true_eq] at hq; omega
        have HR : Hid (r = (moveL xs k j, true)) := HRE.out.trans (by rw [if_pos (by simp [hg, hq])]; rfl)
        clear HRE hn
        have HY := Lib.hid (moveL_eq hk j)
        have hkI : (k : Int) < (xs.length : Int) := by omega
        generalize moveL xs k j = ys at *
        have HYL : Hid (ys.length = xs.length) := by show _ = _; rw [HY.out, insAt_len _ _ _ (by rw [delAt_len _ _ hk]; omega), delAt_len _ _ hk]; omega
        obtain ⟨rs, hrs⟩ : ∃ rs, rs = delAt xs k := ⟨_, rfl⟩
        have HRL : Hid (rs.length = xs.length - 1) := by show _ = _; rw [hrs, delAt_len _ _ hk]
        have HYR : Hid (ys = rs.take j ++ xs[k] :: rs.drop j) := HY.out.trans (by rw [hrs]; rfl)
        have HDY : Hid (rs = xs.take k ++ xs.drop (k + 1)) := hrs
        have HSP : Hid (∀ w1, Below w.heap.size w w1 → ∃ b off, A = some ⟨b, off, none⟩ ∧ w1.cell? ⟨b, off + k * 4, none⟩ = some (.int .i64 xs[k].id) ∧ w1.cell? ⟨b, off + k * 4 + 1, none⟩ = some (.string xs[k].title) ∧ w1.cell? ⟨b, off + k * 4 + 2, none⟩ = some (.int .i64 xs[k].mins) ∧ w1.cell? ⟨b, off + k * 4 + 3, none⟩ = some (.int .i64 xs[k].time)) := fun w1 hb => Rd.itm (hx.below hb) hk
        clear hrs HY
        generalize xs[k] = s at *
        have HD : Hid (∀ (A1 : Option Addr) (c1 B : Nat) (w3 : World), w3.ownsRow B 38 4 (.slice A1 xs.length c1) xs.length (itmCells xs) → Calls Try.prog 34 #[.slice A1 xs.length c1, .int .i64 k, .int .i64 ((k : Int) + 1)] w3 (RowRet w3 B 38 4 A1 c1 rs.length (itmCells rs) (Value.slice A1 xs.length c1).ownBlock)) := by
          intro A1 c1 B w3 ho
          have := delete_Itm A1 c1 B xs rs k (k + 1) w3 (by omega) (by omega) (by omega) ho HDY
          rwa [show ((k + 1 : Nat) : Int) = (k : Int) + 1 by omega] at this
        have hrl : rs.length + 1 = xs.length := by have := HRL.out; omega
        have HIns : Hid (∀ (A1 : Option Addr) (c1 B : Nat) (w3 : World), B ≤ w3.heap.size → w3.ownsRow B 38 4 (.slice A1 rs.length c1) rs.length (itmCells rs) →
            Calls Try.prog 35 #[.slice A1 rs.length c1, .int .i64 j, .slice (some ⟨w3.heap.size, 0, none⟩) 1 1] (w3.alloc (.cells #[.int .i64 s.id, .string s.title, .int .i64 s.mins, .int .i64 s.time] 38)) (RowRetE (w3.alloc (.cells #[.int .i64 s.id, .string s.title, .int .i64 s.mins, .int .i64 s.time] 38)) B 38 4 ys.length (itmCells ys) (Value.slice A1 rs.length c1).ownBlock)) := by
          intro A1 c1 B w3 hsz ho
          exact insert_Itm A1 c1 B rs ys s j w3.heap.size 1 _ (by omega) (by omega) (by simp; omega) (own_below ho (bnew (Below.refl _ _) _)) (by unfold Blk; exact heap_alloc_new w3 _) (own_ne2 ho) HYR
        have Hrl := Lib.hid hrl
        clear hrl HRL HYR HDY
        have hl0 := itmCells_len xs
        have h10 := itmCells_one xs
        go_enter Try.func9, Try.ntmps9
        go_wp2_with (first | (go_at_call 31; refine Hx.out.mono ?_; rintro en w1 ⟨rfl, hb1⟩) | (go_at_call 32; refine (Hv.out w1 hb1).mono ?_; rintro en w2 ⟨rfl, hb2⟩; have hb02 := btr hb1 hb2) | (at_builtin; refine wpl_app rfl (.tmp 28) (.tmp 29) 24 rfl el_Itm (v := .slice (some ⟨w2.heap.size, 0, none⟩) 0 0) rfl (own_lit (e := 38) (size := 4) (B := w2.heap.size) (w := w2) #[] 0 (Nat.le_refl _) (by unfold maxLen; omega) rfl) rfl hl0 ((hx.below hb02).alloc (.cells #[] 38)) h10 (by unfold maxLen; omega) (by omega) (by simp) ?_; intro A1 c1 w3 ho1 hg1 _; have hb3 : Below w2.heap.size w2 w3 := ((bnew (Below.refl w2.heap.size w2) (.cells #[] 38)).grown hg1 (by simp) (fun q hq => by simp [Value.ownBlock] at hq; omega)); simp only [Nat.zero_add, List.nil_append] at ho1) | (go_at_call 34; refine (HD.out _ _ _ _ ho1).mono ?_; rintro en w4 ⟨rfl, ho4, hg4⟩; have hb4 := hb3.grown hg4 hb3.size (fun q hq => (ho1.lt q hq).1); obtain ⟨b, off, rfl, c0, c1', c2', c3'⟩ := HSP.out w4 (btr hb02 hb4)) | (go_at_call 35; refine (HIns.out A1 c1 w2.heap.size w4 hb4.size ho4).mono ?_; rintro en w5 ⟨A5, c5, rfl, ho5, hg5⟩) | (go_at_call 33; refine (inside_any _ _ _ _).mono ?_; rintro en w9 ⟨rfl, rfl⟩))
        have hb5 := (bnew hb4 (.cells #[.int .i64 s.id, .string s.title, .int .i64 s.mins, .int .i64 s.time] 38)).grown hg5 (bnew hb4 (.cells #[.int .i64 s.id, .string s.title, .int .i64 s.mins, .int .i64 s.time] 38)).size (fun q hq => (ho4.lt q hq).1)
        exact bodyPost_ret (v := .tuple #[.slice A5 ys.length c5, .bool true]) (by simp [results, Try.results9, go_sem]) rfl ⟨A5, c5, by rw [HR.out], by rw [HR.out]; exact own_base ho5 hb02.size, btr hb02 hb5⟩
      · have HR : Hid (r = ([], false)) := HRE.out.trans (if_neg (by simp [hq]))
        have hq' : inB t 0 ((xs.length : Int) - 1) = false := by simpa using hq
        clear HRE hx hn hq
        go_enter Try.func9, Try.ntmps9
        go_wp2_with (first | (go_at_call 31; refine Hx.out.mono ?_; rintro en w1 ⟨rfl, hb1⟩) | (go_at_call 32; refine (Hv.out w1 hb1).mono ?_; rintro en w2 ⟨rfl, hb2⟩; have hb02 := btr hb1 hb2) | (go_at_call 33; refine (inside_any _ _ _ _).mono ?_; rintro en w9 ⟨rfl, rfl⟩))
        exact bodyPost_ret (v := .tuple #[.slice none 0 0, .bool false]) (by simp [results, Try.results9, go_sem]) rfl ⟨none, 0, by rw [HR.out]; rfl, by rw [HR.out]; exact own_nil, hb02⟩
  · have HR : Hid (r = ([], false)) := HRE.out.trans (if_neg (by simp [hg]))
    have hg' : goodItm xs = false := by simpa using hg
    clear HRE hx hn hg
    go_enter Try.func9, Try.ntmps9
    go_wp2_with (first | (go_at_call 31; refine Hx.out.mono ?_; rintro en w1 ⟨rfl, hb1⟩) | (go_at_call 32; refine (Hv.out w1 hb1).mono ?_; rintro en w2 ⟨rfl, hb2⟩; have hb02 := btr hb1 hb2) | (go_at_call 33; refine (inside_any _ _ _ _).mono ?_; rintro en w9 ⟨rfl, rfl⟩))
    exact bodyPost_ret (v := .tuple #[.slice none 0 0, .bool false]) (by simp [results, Try.results9, go_sem]) rfl ⟨none, 0, by rw [HR.out]; rfl, by rw [HR.out]; exact own_nil, hb02⟩
end Go.Proofs.Ytpmliannnbfnmaa
