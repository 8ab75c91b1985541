/-
  Contracts of OrderItems. Conditions: lengths within Go's range.
-/
import Derived.Test.YtpmliannnbfnmaaItm4
import Derived.Test.YtpmliannnbfnmaaSrtItm
namespace Go.My
open Go.RowKit
section
variable {α : Type}
theorem posR_at (lt : α → α → Bool) (x : α) {o : List α} {k : Nat} (hk : k < o.length) : posR lt x o (k + 1) = if lt x o[k] = true then posR lt x o k else k + 1 := by
  rw [posR, List.getElem?_eq_getElem hk]
theorem posR_congr {lt lt' : α → α → Bool} {x : α} {o : List α} (h : ∀ y ∈ o, lt x y = lt' x y) : ∀ k, posR lt x o k = posR lt' x o k
  | 0 => rfl
  | k + 1 => by
    by_cases hk : k < o.length
    · rw [posR_at lt x hk, posR_at lt' x hk, h _ (List.getElem_mem hk), posR_congr h k]
    · rw [posR, posR, List.getElem?_eq_none (by omega)]
theorem foldS_congr {lt lt' : α → α → Bool} : ∀ (xs o : List α), (∀ x ∈ o ++ xs, ∀ y ∈ o ++ xs, lt x y = lt' x y) → xs.foldl (fun o x => insS lt x o) o = xs.foldl (fun o x => insS lt' x o) o
  | [], _, _ => rfl
  | x :: xs, o, h => by
    have e : insS lt x o = insS lt' x o := by
      unfold insS
      rw [posR_congr fun y hy => h x (by simp) y (by simp [hy])]
    rw [List.foldl_cons, List.foldl_cons, e]
    refine foldS_congr xs _ fun a ha b hb => ?_
    have m : ∀ a, a ∈ insS lt' x o ++ xs → a ∈ o ++ x :: xs := fun a ha => by
      rcases List.mem_append.1 ha with ha | ha
      · rcases insS_mem ha with rfl | ha <;> simp [*]
      · simp [ha]
    exact h a (m a ha) b (m b hb)
theorem sortS_congr {lt lt' : α → α → Bool} {xs : List α} (h : ∀ x ∈ xs, ∀ y ∈ xs, lt x y = lt' x y) : sortS lt xs = sortS lt' xs := foldS_congr xs [] (by simpa using h)
theorem sortS_at (lt : α → α → Bool) {xs : List α} {k : Nat} (hk : k < xs.length) : sortS lt (xs.take (k + 1)) = insAt (sortS lt (xs.take k)) (posR lt xs[k] (sortS lt (xs.take k)) (sortS lt (xs.take k)).length) xs[k] := by
  unfold sortS
  rw [List.take_succ_eq_append_getElem hk, List.foldl_append]
  rfl
end
theorem goodItm_in {xs : List Itm} (h : goodItm xs = true) : xs.length ≤ 10 ∧ ∀ s ∈ xs, 1 ≤ s.mins ∧ s.mins ≤ 240 ∧ -1 ≤ s.time ∧ s.time ≤ 1439 := by
  simp only [goodItm, Bool.and_eq_true, decide_eq_true_eq] at h
  refine ⟨h.2, fun s hs => ?_⟩
  obtain ⟨ys, hy⟩ := goodPre_all h.1 s hs
  simp only [itmFits, itmOk, Bool.and_eq_true, Bool.or_eq_true, decide_eq_true_eq, inB] at hy
  omega
def tLt (x y : Itm) : Bool := decide (x.time < y.time)
def orderR (xs : List Itm) : List Itm × Bool := if goodItm xs = true then (sortS tLt xs, true) else ([], false)
theorem orderR_len {xs : List Itm} : (orderR xs).1.length ≤ xs.length := by
  unfold orderR
  split
  · exact Nat.le_of_eq (sortS_len _ _)
  · simp
end Go.My
namespace Go.Proofs.Ytpmliannnbfnmaa
open Go.RowKit Go.My
theorem below_drewN {n : Nat} {w w' : World} (h : Below n w w') (q : Nat) : Below n w (w'.drewN q) := by
  induction q generalizing w' with
  | zero => exact h
  | succ q ih => first | exact ih h.drew | exact (ih h).drew | exact ⟨h.os, h.tape, h.output, h.size, h.block⟩
theorem timeLt_eq {x y : Itm} (hx : -1 ≤ x.time ∧ x.time ≤ 1439) (hy : -1 ≤ y.time ∧ y.time ≤ 1439) : timeLt x y = tLt x y := by
  have e : wrap64 (x.time - y.time) = x.time - y.time := by
    have := IntKind.wrap_i64 (x.time - y.time)
    unfold wrap64; omega
  simp only [timeLt, Go.Proofs.ltOf, timeCf, e, tLt]
  by_cases h : x.time < y.time
  · rw [decide_eq_true (by omega), decide_eq_true h]
  · rw [decide_eq_false (by omega), decide_eq_false h]
theorem sortI_eq {xs : List Itm} (hg : goodItm xs = true) : sortS timeLt xs = sortS tLt xs := by
  obtain ⟨_, hin⟩ := goodItm_in hg
  exact sortS_congr fun x hx y hy => timeLt_eq ⟨(hin x hx).2.2.1, (hin x hx).2.2.2⟩ ⟨(hin y hy).2.2.1, (hin y hy).2.2.2⟩
set_option maxHeartbeats 2000000 in
theorem order_any (A : Option Addr) (c : Nat) (xs : List Itm) (w : World) (hn : xs.length ≤ maxLen) (hlc : xs.length ≤ c) (hx : Rd w A (itmCells xs)) (hs : ∀ y ∈ xs, y.title.size ≤ maxLen) :
    Calls Try.prog 14 #[.slice A xs.length c] w fun en w' => ∃ A' c', en = .returned (.tuple #[.slice A' (orderR xs).1.length c', .bool (orderR xs).2]) ∧ w'.ownsRow w.heap.size 38 4 (.slice A' (orderR xs).1.length c') (orderR xs).1.length (itmCells (orderR xs).1) ∧ Below w.heap.size w w' := by
  have Hv : Hid (∀ w1, Below w.heap.size w w1 → Calls Try.prog 32 #[.slice A xs.length c] w1 fun e w' => e = .returned (.bool (goodItm xs)) ∧ Below w1.heap.size w1 w') :=
    fun w1 hb => isAgenda_any A c xs w1 hn hlc (hx.below hb) hs
  obtain ⟨r, hr⟩ : ∃ r, r = orderR xs := ⟨_, rfl⟩
  rw [← hr]
  unfold orderR at hr
  have HRE := Lib.hid hr
  clear hr hs
  by_cases hg : goodItm xs = true
  · have HR : Hid (r = (sortS tLt xs, true)) := HRE.out.trans (if_pos hg)
    have h10 := goodItm_len hg
    have HSo : Hid (∀ (A1 : Option Addr) (c1 : Nat) (w1 : World), w1.ownsRow w.heap.size 38 4 (.slice A1 xs.length c1) xs.length (itmCells xs) → Calls Try.prog 38 #[.slice A1 xs.length c1, .func (.func 39) #[] #[]] w1 fun e w' => e = .returned (.tuple #[]) ∧ w'.ownsRow w.heap.size 38 4 (.slice A1 xs.length c1) xs.length (itmCells (sortS tLt xs)) ∧ w1.grownBy w' (Value.slice A1 xs.length c1).ownBlock) := fun A1 c1 w1 ho => by
      have := sortI_any A1 c1 w.heap.size xs w1 h10 ho
      rwa [sortI_eq hg] at this
    have hYL := Lib.hid (sortS_len tLt xs)
    have hl0 := itmCells_len xs
    have h1 := itmCells_one xs
    clear HRE hn
    generalize sortS tLt xs = ys at *
    go_enter Try.func14, Try.ntmps14
    go_wp2_with (first | (go_at_call 32; refine (Hv.out _ (Below.refl _ _)).mono ?_; rintro en w1 ⟨rfl, hb1⟩) | (at_builtin; refine wpl_app rfl (.tmp 8) (.tmp 9) 24 rfl el_Itm (v := .slice (some ⟨w1.heap.size, 0, none⟩) 0 0) rfl (own_lit (e := 38) (size := 4) (B := w.heap.size) (w := w1) #[] 0 hb1.size (by unfold maxLen; omega) rfl) rfl hl0 ((hx.below hb1).alloc (.cells #[] 38)) h1 (by unfold maxLen; omega) (by omega) (Nat.le_trans hb1.size (by simp)) ?_; intro A1 c1 w3 ho1 hg1 _; have hb3 : Below w.heap.size w w3 := ((bnew hb1 (.cells #[] 38)).grown hg1 (by have := hb1.size; simp; omega) (fun q hq => by have := hb1.size; simp [Value.ownBlock] at hq; omega)); simp only [Nat.zero_add, List.nil_append] at ho1) | (go_at_call 38; refine (HSo.out _ _ _ ho1).mono ?_; rintro en w4 ⟨rfl, ho4, hg4⟩; have hb4 := hb3.grown hg4 hb3.size (fun q hq => (ho1.lt q hq).1)))
    rw [← hYL.out] at ho4
    exact bodyPost_ret (v := .tuple #[.slice A1 ys.length c1, .bool true]) (by simp [results, Try.results14, go_sem] <;> exact hYL.out.symm) rfl ⟨A1, c1, by rw [HR.out], by rw [HR.out]; exact ho4, hb4⟩
  · have HR : Hid (r = ([], false)) := HRE.out.trans (if_neg hg)
    have hg' : goodItm xs = false := by simpa using hg
    clear HRE hx hn hg
    go_enter Try.func14, Try.ntmps14
    go_wp2_with (go_at_call 32; refine (Hv.out _ (Below.refl _ _)).mono ?_; rintro en w1 ⟨rfl, hb1⟩)
    exact bodyPost_ret (v := .tuple #[.slice none 0 0, .bool false]) (by simp [results, Try.results14, go_sem]) rfl ⟨none, 0, by rw [HR.out]; rfl, by rw [HR.out]; exact own_nil, hb1⟩
set_option maxHeartbeats 8000000 in
set_option maxRecDepth 100000 in
theorem specOrder_any (A : Option Addr) (c : Nat) (xs : List Itm) (w : World) (hn : xs.length ≤ maxLen) (hlc : xs.length ≤ c) (hx : Rd w A (itmCells xs)) (hs : ∀ y ∈ xs, y.title.size ≤ maxLen) :
    Calls Try.prog 13 #[.slice A xs.length c] w fun en w' => ∃ A' c', en = .returned (.tuple #[.slice A' (orderR xs).1.length c', .bool (orderR xs).2]) ∧ w'.ownsRow w.heap.size 38 4 (.slice A' (orderR xs).1.length c') (orderR xs).1.length (itmCells (orderR xs).1) ∧ Below w.heap.size w w' := by
  have Hv : Hid (∀ w1, Below w.heap.size w w1 → Calls Try.prog 28 #[.slice A xs.length c] w1 fun e w' => e = .returned (.bool (goodItm xs)) ∧ Below w1.heap.size w1 w') :=
    fun w1 hb => l5Good_any A c xs w1 hn hlc (hx.below hb) hs
  obtain ⟨r, hr⟩ : ∃ r, r = orderR xs := ⟨_, rfl⟩
  rw [← hr]
  unfold orderR at hr
  have HRE := Lib.hid hr
  clear hr hs
  by_cases hg : goodItm xs = true
  · have HR : Hid (r = (sortS tLt xs, true)) := HRE.out.trans (if_pos hg)
    have h10 := goodItm_len hg
    clear HRE hn
    go_enter Try.func13, Try.ntmps13
    go_wp2_with (go_at_call 28; refine (Hv.out _ (bnew (Below.refl _ _) _)).mono ?_; rintro en w1 ⟨rfl, hb1⟩)
    have ho0 := own_below (own_lit (e := 38) (size := 4) (B := w.heap.size) (w := w) #[] 0 (Nat.le_refl _) (by unfold maxLen; omega) rfl) hb1
    have hb01 := btr (bnew (Below.refl _ _) (.cells #[] 38)) hb1
    clear hb1 Hv
    go_loopw [4, 5] (fun out i wr => ∃ k : Nat, ∃ (A' : Option Addr) (c' : Nat) (L : List Itm), k ≤ xs.length ∧ i = .int .i64 k ∧ out = .slice A' L.length c' ∧ Hid (sortS tLt (xs.take k) = L) ∧ L.length = k ∧ wr.ownsRow w.heap.size 38 4 (.slice A' L.length c') L.length (itmCells L) ∧ Below w.heap.size w wr) (fun _ i _ => xs.length - (intOf i).toNat)
    case atStart => exact ⟨0, some ⟨w.heap.size, 0, none⟩, 0, [], by omega, rfl, rfl, rfl, rfl, ho0, hb01⟩
    case round =>
      obtain ⟨k, A', c', L, hk, rfl, rfl, HS, hL, ho, hb⟩ := hrel
      obtain ⟨wo, hwo⟩ : ∃ q, q = wr := ⟨_, rfl⟩
      subst hwo
      clear ho0 hb01
      by_cases hlt : k < xs.length
      · have HSn : Hid (sortS tLt (xs.take (k + 1)) = insAt L (posR tLt xs[k] L L.length) xs[k]) := by show _ = _; rw [sortS_at tLt hlt, HS.out]
        obtain ⟨b, off, rfl, _, _, _, _⟩ := Rd.itm hx hlt
        have HXC : Hid (∀ w1, Below wo.heap.size wo w1 → w1.cell? ⟨b, off + k * 4, none⟩ = some (.int .i64 xs[k].id) ∧ w1.cell? ⟨b, off + k * 4 + 1, none⟩ = some (.string xs[k].title) ∧ w1.cell? ⟨b, off + k * 4 + 2, none⟩ = some (.int .i64 xs[k].mins) ∧ w1.cell? ⟨b, off + k * 4 + 3, none⟩ = some (.int .i64 xs[k].time)) := fun w1 hb1 => by
          obtain ⟨b', off', e, c0, c1, c2, c3⟩ := Rd.itm (hx.below (btr hb hb1)) hlt
          cases e
          exact ⟨c0, c1, c2, c3⟩
        generalize xs[k] = s at *
        have hkI : (k : Int) < (xs.length : Int) := by omega
        have hLk : L.length ≤ k := by omega
        have HL := Lib.hid hL
        clear hL
        go_wp2_with fail
        go_loopw [6] (fun q wj => ∃ j : Nat, j ≤ L.length ∧ q = .int .i64 j ∧ Hid (posR tLt s L L.length = posR tLt s L j) ∧ Below wo.heap.size wo wj) (fun q _ => (intOf q).toNat)
        case atStart => exact ⟨L.length, Nat.le_refl _, rfl, rfl, Below.refl _ _⟩
        case round =>
          obtain ⟨j, hj, rfl, HJ, hbj⟩ := hrel
          have hL10 : L.length ≤ 10 := by omega
          by_cases h0 : j = 0
          · have hz : decide ((j : Int) > 0) = false := decide_eq_false (by omega)
            have hz' : ((0 : Int) < (j : Int)) = False := eq_false (by omega)
            have hz2 : (0 < j) = False := eq_false (by omega)
            have hz3 : decide (0 < j) = false := decide_eq_false (by omega)
            have HYS : Hid (sortS tLt (xs.take (k + 1)) = insAt L j s) := by show _ = _; rw [HSn.out, HJ.out, h0]; rfl
            have H0 := Lib.hid h0
            clear HSn HJ h0
            go_wp2_with fail
            go_quiet (fail)
            go_wp2_with fail
            have hsz : Hid (w.heap.size ≤ (wr.drewN nq).heap.size) := Nat.le_trans hb.size hbj.size
            have hbw : Hid (Below w.heap.size w (wr.drewN nq)) := (below_drewN (btr hb hbj) nq)
            have ho' := own_below ho (below_drewN hbj nq)
            obtain ⟨c0, c1', c2', c3'⟩ := HXC.out _ (below_drewN hbj nq)
            have HYC : Hid (itmCells (insAt L j s) = itmCells (L.take j) ++ [.int .i64 s.id, .string s.title, .int .i64 s.mins, .int .i64 s.time] ++ itmCells (L.drop j)) := by show _ = _; simp [insAt, itmCells, Itm.cells]
            have HYL : Hid ((insAt L j s).length = k + 1) := by show _ = _; rw [insAt_len _ _ _ hj, HL.out]
            have HYN : Hid (∀ (n : Nat), n = (insAt L j s).length → n = j + 1 + (L.length - j)) := fun n h => by rw [h, insAt_len _ _ _ hj]; omega
            generalize (wr.drewN nq) = w5 at *
            have HX0 := Lib.hid hx
            clear hx
            have hx := own_rd ho'
            have hle := own_le ho'
            have hrf := Below.refl w5.heap.size w5
            clear ho hb hbj HXC ho'
            have hpre := run_pre el_Itm A' (n := L.length) (c := c') (k := j) (by omega)
            have hcut := run_cut el_Itm A' (n := L.length) (c := c') (k := j) (by omega)
            have hT : Rd w5 A' (itmCells (L.take j)) := by have := hx.take (j * 4); rwa [itmCells_take L j (by omega)] at this
            have hD : Rd w5 (cutA A' c' j 4) (itmCells (L.drop j)) := by
              have := hx.cutA j 4 c' (by intro h; rw [itmCells_len]; omega)
              rwa [itmCells_drop L j (by omega)] at this
            have hT1 := itmCells_one (L.take j)
            have hTl : (itmCells (L.take j)).length = j * 4 := by rw [itmCells_len, List.length_take, Nat.min_eq_left (by omega)]
            have hD1 := itmCells_one (L.drop j)
            have hDl : (itmCells (L.drop j)).length = (L.length - j) * 4 := by rw [itmCells_len, List.length_drop]
            generalize itmCells (L.take j) = TC at *
            generalize itmCells (L.drop j) = DC at *
            generalize cutA A' c' j 4 = DA at *
            have HX1 : ∀ u ∈ ([.int .i64 s.id, .string s.title, .int .i64 s.mins, .int .i64 s.time] : List Value), u.oneCell' = true := by simp [Value.oneCell']
            have bA := (bnew (Below.refl w5.heap.size w5) (.cells #[] 38)).drew
            have bB := (bnew (bnew (Below.refl w5.heap.size w5) (.cells #[] 38)) (.cells #[.int .i64 s.id, .string s.title, .int .i64 s.mins, .int .i64 s.time] 38)).drew
            have bC := (bnew (bnew (Below.refl w5.heap.size w5) (.cells #[.int .i64 s.id, .string s.title, .int .i64 s.mins, .int .i64 s.time] 38)) (.cells #[] 38)).drew
            have oA := (own_lit (e := 38) (size := 4) (B := w5.heap.size) (w := w5) #[] 0 (Nat.le_refl _) (by unfold maxLen; omega) rfl).drew
            have oB := (own_below (own_lit (e := 38) (size := 4) (B := w5.heap.size) (w := w5) #[] 0 (Nat.le_refl _) (by unfold maxLen; omega) rfl) (bnew (Below.refl (w5.alloc (.cells #[] 38)).heap.size (w5.alloc (.cells #[] 38))) (.cells #[.int .i64 s.id, .string s.title, .int .i64 s.mins, .int .i64 s.time] 38))).drew
            have oC : ((w5.alloc (.cells #[.int .i64 s.id, .string s.title, .int .i64 s.mins, .int .i64 s.time] 38)).alloc (.cells #[] 38)).drew.ownsRow w5.heap.size 38 4 (.slice (some ⟨w5.heap.size + 1, 0, none⟩) 0 0) 0 [] := by
              have := (own_lit (e := 38) (size := 4) (B := w5.heap.size) (w := w5.alloc (.cells #[.int .i64 s.id, .string s.title, .int .i64 s.mins, .int .i64 s.time] 38)) #[] 0 (by simp) (by unfold maxLen; omega) rfl).drew
              simpa using this
            have xB : Rd ((w5.alloc (.cells #[] 38)).alloc (.cells #[.int .i64 s.id, .string s.title, .int .i64 s.mins, .int .i64 s.time] 38)).drew (some ⟨w5.heap.size + 1, 0, none⟩) [.int .i64 s.id, .string s.title, .int .i64 s.mins, .int .i64 s.time] := by
              have := (rd_new' (w5.alloc (.cells #[] 38)) #[.int .i64 s.id, .string s.title, .int .i64 s.mins, .int .i64 s.time] 38).drew
              simpa using this
            have xC : Rd ((w5.alloc (.cells #[.int .i64 s.id, .string s.title, .int .i64 s.mins, .int .i64 s.time] 38)).alloc (.cells #[] 38)).drew (some ⟨w5.heap.size, 0, none⟩) [.int .i64 s.id, .string s.title, .int .i64 s.mins, .int .i64 s.time] := ((rd_new' w5 #[.int .i64 s.id, .string s.title, .int .i64 s.mins, .int .i64 s.time] 38).alloc (.cells #[] 38)).drew
            have tW := hT.below hrf
            have tA := tW.below bA; have tB := tW.below bB; have tC := tW.below bC
            go_region_held3 (fun w' => (w'.cell? ⟨b, off + k * 4, none⟩ = some (.int .i64 s.id) ∧ w'.cell? ⟨b, off + k * 4 + 1, none⟩ = some (.string s.title) ∧ w'.cell? ⟨b, off + k * 4 + 2, none⟩ = some (.int .i64 s.mins) ∧ w'.cell? ⟨b, off + k * 4 + 3, none⟩ = some (.int .i64 s.time))) ((first | assumption | go_keep)) ((first | (refine step_app (by rfl) (.tmp 48) (.tmp 51) 24 (by rfl) el_Itm (v := .slice A2 (j + 1) c2) (by (first | rfl | exact congrArg (fun q => Value.slice A2 q c2) (Nat.zero_add j))) ho3 (by rfl) hDl hD4 hD1 (by unfold maxLen; omega) (by omega) hb4.size ?_; intro A5 c5 w5 ho5 hg5 _; have hb5 := hb4.grown hg5 hb4.size (fun q hq => (ho3.lt q hq).1); have hS5 : (w5.cell? ⟨b, off + k * 4, none⟩ = some (.int .i64 s.id) ∧ w5.cell? ⟨b, off + k * 4 + 1, none⟩ = some (.string s.title) ∧ w5.cell? ⟨b, off + k * 4 + 2, none⟩ = some (.int .i64 s.mins) ∧ w5.cell? ⟨b, off + k * 4 + 3, none⟩ = some (.int .i64 s.time)) := ⟨My.cell_below' c0 hb5, My.cell_below' c1' hb5, My.cell_below' c2' hb5, My.cell_below' c3' hb5⟩) | (refine step_app (by rfl) (.tmp 42) (.tmp 47) 24 (by rfl) el_Itm (v := .slice A1 j c1) (by (first | rfl | exact congrArg (fun q => Value.slice A1 q c1) (Nat.zero_add j))) o2 (by rfl) rfl x2 HX1 (by unfold maxLen; omega) (by omega) b2.size ?_; intro A2 c2 w4 ho3 hg2 _; have hb4 := b2.grown hg2 b2.size (fun q hq => (o2.lt q hq).1); have hD4 := (hD.below hrf).below hb4; have hS4 : (w4.cell? ⟨b, off + k * 4, none⟩ = some (.int .i64 s.id) ∧ w4.cell? ⟨b, off + k * 4 + 1, none⟩ = some (.string s.title) ∧ w4.cell? ⟨b, off + k * 4 + 2, none⟩ = some (.int .i64 s.mins) ∧ w4.cell? ⟨b, off + k * 4 + 3, none⟩ = some (.int .i64 s.time)) := ⟨My.cell_below' c0 hb4, My.cell_below' c1' hb4, My.cell_below' c2' hb4, My.cell_below' c3' hb4⟩) | (refine step_app (by rfl) (.tmp 38) (.tmp 41) 24 (by rfl) el_Itm (v := .slice (some ⟨w5.heap.size, 0, none⟩) 0 0) (by (first | rfl | exact congrArg (fun q => Value.slice none q 0) (Nat.zero_add 0))) oB (by rfl) hTl tB hT1 (by unfold maxLen; omega) (by omega) bB.size ?_; intro A1 c1 w3 ho1 hg1 _; have b2 := bB.grown hg1 bB.size (fun q hq => (oB.lt q hq).1); simp only [Nat.zero_add, List.nil_append] at ho1; have o2 := ho1; have x2 := xB.grown hg1 (fun ad h => by cases h; simp [Value.ownBlock]); have hS3 : (w3.cell? ⟨b, off + k * 4, none⟩ = some (.int .i64 s.id) ∧ w3.cell? ⟨b, off + k * 4 + 1, none⟩ = some (.string s.title) ∧ w3.cell? ⟨b, off + k * 4 + 2, none⟩ = some (.int .i64 s.mins) ∧ w3.cell? ⟨b, off + k * 4 + 3, none⟩ = some (.int .i64 s.time)) := ⟨My.cell_below' c0 b2, My.cell_below' c1' b2, My.cell_below' c2' b2, My.cell_below' c3' b2⟩; clear ho1) | (refine step_app (by rfl) (.tmp 38) (.tmp 41) 24 (by rfl) el_Itm (v := .slice (some ⟨w5.heap.size + 1, 0, none⟩) 0 0) (by (first | rfl | exact congrArg (fun q => Value.slice none q 0) (Nat.zero_add 0))) oC (by rfl) hTl tC hT1 (by unfold maxLen; omega) (by omega) bC.size ?_; intro A1 c1 w3 ho1 hg1 _; have b2 := bC.grown hg1 bC.size (fun q hq => (oC.lt q hq).1); simp only [Nat.zero_add, List.nil_append] at ho1; have o2 := ho1; have x2 := xC.grown hg1 (fun ad h => by cases h; simp [Value.ownBlock]); have hS3 : (w3.cell? ⟨b, off + k * 4, none⟩ = some (.int .i64 s.id) ∧ w3.cell? ⟨b, off + k * 4 + 1, none⟩ = some (.string s.title) ∧ w3.cell? ⟨b, off + k * 4 + 2, none⟩ = some (.int .i64 s.mins) ∧ w3.cell? ⟨b, off + k * 4 + 3, none⟩ = some (.int .i64 s.time)) := ⟨My.cell_below' c0 b2, My.cell_below' c1' b2, My.cell_below' c2' b2, My.cell_below' c3' b2⟩; clear ho1) | (refine step_app (by rfl) (.tmp 38) (.tmp 41) 24 (by rfl) el_Itm (v := .slice (some ⟨w5.heap.size, 0, none⟩) 0 0) (by (first | rfl | exact congrArg (fun q => Value.slice none q 0) (Nat.zero_add 0))) oA (by rfl) hTl tA hT1 (by unfold maxLen; omega) (by omega) bA.size ?_; intro A1 c1 w3 ho1 hg1 _; have hb3 := bA.grown hg1 bA.size (fun q hq => (oA.lt q hq).1); simp only [Nat.zero_add, List.nil_append] at ho1; have b2 := bnew hb3 (.cells #[.int .i64 s.id, .string s.title, .int .i64 s.mins, .int .i64 s.time] 38); have o2 := own_below ho1 (bnew (Below.refl w3.heap.size w3) (.cells #[.int .i64 s.id, .string s.title, .int .i64 s.mins, .int .i64 s.time] 38)); have x2 := rd_new' w3 #[.int .i64 s.id, .string s.title, .int .i64 s.mins, .int .i64 s.time] 38; have hS3 : (w3.cell? ⟨b, off + k * 4, none⟩ = some (.int .i64 s.id) ∧ w3.cell? ⟨b, off + k * 4 + 1, none⟩ = some (.string s.title) ∧ w3.cell? ⟨b, off + k * 4 + 2, none⟩ = some (.int .i64 s.mins) ∧ w3.cell? ⟨b, off + k * 4 + 3, none⟩ = some (.int .i64 s.time)) := ⟨My.cell_below' c0 hb3, My.cell_below' c1' hb3, My.cell_below' c2' hb3, My.cell_below' c3' hb3⟩; clear ho1)))
            all_goals
              have hL5 := HYN.out _ rfl
              rw [← HYC.out, ← hL5] at ho5
              go_wp2
              go_roundw
              case rel => exact ⟨k + 1, A5, c5, insAt L j s, by omega, by go_num, by first | (rw [← hL5]; done) | (rw [← hL5]; congr 1; omega), HYS, HYL.out, own_base ho5 hsz.out, btr hbw.out hb5⟩
              case measure => simp [intOf]; omega
          · obtain ⟨jp, hjp⟩ : ∃ jp, j = jp + 1 := ⟨j - 1, by omega⟩
            have hz : decide ((j : Int) > 0) = true := decide_eq_true (by omega)
            have hz' : (0 : Int) < (j : Int) := by omega
            have hz2 : 0 < j := by omega
            have hjl : jp < L.length := by omega
            obtain ⟨b2, off2, hA2, y0, y1, y2, y3⟩ := Rd.itm (own_rd (own_below ho hbj)) hjl
            obtain ⟨x0, x1, x2, x3⟩ := HXC.out _ hbj
            have hP := posR_at tLt s hjl
            rw [← hjp] at hP
            have hw1 : wrap64 ((j : Int) - 1) = (jp : Int) := by
              have := IntKind.wrap_i64 ((j : Int) - 1)
              unfold wrap64; omega
            have hw2 : IntKind.i64.wrap ((j : Int) - 1) = (jp : Int) := by rw [IntKind.wrap_i64]; omega
            have hjI : (jp : Int) < (L.length : Int) := by omega
            generalize L[jp] = y at *
            subst hA2
            have hjj : jp < j := by omega
            have HJP := Lib.hid hjp
            clear hjp
            clear y0 y1 y2 x0 x1 x2
            by_cases hq : s.time < y.time
            · have hq' : decide (y.time > s.time) = true := decide_eq_true hq
              have HJ2 : Hid (posR tLt s L L.length = posR tLt s L jp) := by show _ = _; rw [HJ.out, hP, if_pos (by simpa [tLt] using hq)]
              clear hP HJ HSn HS
              go_wp2_with fail
              go_quiet (fail)
              go_wp2
              go_roundw
              case rel => exact ⟨jp, by omega, by go_num, HJ2, below_drewN hbj _⟩
              case measure => simp [intOf]; omega
            · have hq' : decide (y.time > s.time) = false := decide_eq_false (by omega)
              have HYS : Hid (sortS tLt (xs.take (k + 1)) = insAt L j s) := by show _ = _; rw [HSn.out, HJ.out, hP, if_neg (by simpa [tLt] using hq)]
              clear HSn HJ hP
              have X3 := Lib.hid x3
              have Y3 := Lib.hid y3
              go_wp2_with fail
              go_quiet (fail)
              go_wp2_with fail
              have hsz : Hid (w.heap.size ≤ (wr.drewN nq).heap.size) := Nat.le_trans hb.size hbj.size
              have hbw : Hid (Below w.heap.size w (wr.drewN nq)) := (below_drewN (btr hb hbj) nq)
              have ho' := own_below ho (below_drewN hbj nq)
              obtain ⟨c0, c1', c2', c3'⟩ := HXC.out _ (below_drewN hbj nq)
              have HYC : Hid (itmCells (insAt L j s) = itmCells (L.take j) ++ [.int .i64 s.id, .string s.title, .int .i64 s.mins, .int .i64 s.time] ++ itmCells (L.drop j)) := by show _ = _; simp [insAt, itmCells, Itm.cells]
              have HYL : Hid ((insAt L j s).length = k + 1) := by show _ = _; rw [insAt_len _ _ _ hj, HL.out]
              have HYN : Hid (∀ (n : Nat), n = (insAt L j s).length → n = j + 1 + (L.length - j)) := fun n h => by rw [h, insAt_len _ _ _ hj]; omega
              generalize (wr.drewN nq) = w5 at *
              have HX0 := Lib.hid hx
              clear hx
              have hx := own_rd ho'
              have hle := own_le ho'
              have hrf := Below.refl w5.heap.size w5
              clear ho hb hbj HXC ho'
              generalize (some ⟨b2, off2, none⟩ : Option Addr) = A' at *
              have hpre := run_pre el_Itm A' (n := L.length) (c := c') (k := j) (by omega)
              have hcut := run_cut el_Itm A' (n := L.length) (c := c') (k := j) (by omega)
              have hT : Rd w5 A' (itmCells (L.take j)) := by have := hx.take (j * 4); rwa [itmCells_take L j (by omega)] at this
              have hD : Rd w5 (cutA A' c' j 4) (itmCells (L.drop j)) := by
                have := hx.cutA j 4 c' (by intro h; rw [itmCells_len]; omega)
                rwa [itmCells_drop L j (by omega)] at this
              have hT1 := itmCells_one (L.take j)
              have hTl : (itmCells (L.take j)).length = j * 4 := by rw [itmCells_len, List.length_take, Nat.min_eq_left (by omega)]
              have hD1 := itmCells_one (L.drop j)
              have hDl : (itmCells (L.drop j)).length = (L.length - j) * 4 := by rw [itmCells_len, List.length_drop]
              generalize itmCells (L.take j) = TC at *
              generalize itmCells (L.drop j) = DC at *
              generalize cutA A' c' j 4 = DA at *
              have HX1 : ∀ u ∈ ([.int .i64 s.id, .string s.title, .int .i64 s.mins, .int .i64 s.time] : List Value), u.oneCell' = true := by simp [Value.oneCell']
              have bA := (bnew (Below.refl w5.heap.size w5) (.cells #[] 38)).drew
              have bB := (bnew (bnew (Below.refl w5.heap.size w5) (.cells #[] 38)) (.cells #[.int .i64 s.id, .string s.title, .int .i64 s.mins, .int .i64 s.time] 38)).drew
              have bC := (bnew (bnew (Below.refl w5.heap.size w5) (.cells #[.int .i64 s.id, .string s.title, .int .i64 s.mins, .int .i64 s.time] 38)) (.cells #[] 38)).drew
              have oA := (own_lit (e := 38) (size := 4) (B := w5.heap.size) (w := w5) #[] 0 (Nat.le_refl _) (by unfold maxLen; omega) rfl).drew
              have oB := (own_below (own_lit (e := 38) (size := 4) (B := w5.heap.size) (w := w5) #[] 0 (Nat.le_refl _) (by unfold maxLen; omega) rfl) (bnew (Below.refl (w5.alloc (.cells #[] 38)).heap.size (w5.alloc (.cells #[] 38))) (.cells #[.int .i64 s.id, .string s.title, .int .i64 s.mins, .int .i64 s.time] 38))).drew
              have oC : ((w5.alloc (.cells #[.int .i64 s.id, .string s.title, .int .i64 s.mins, .int .i64 s.time] 38)).alloc (.cells #[] 38)).drew.ownsRow w5.heap.size 38 4 (.slice (some ⟨w5.heap.size + 1, 0, none⟩) 0 0) 0 [] := by
                have := (own_lit (e := 38) (size := 4) (B := w5.heap.size) (w := w5.alloc (.cells #[.int .i64 s.id, .string s.title, .int .i64 s.mins, .int .i64 s.time] 38)) #[] 0 (by simp) (by unfold maxLen; omega) rfl).drew
                simpa using this
              have xB : Rd ((w5.alloc (.cells #[] 38)).alloc (.cells #[.int .i64 s.id, .string s.title, .int .i64 s.mins, .int .i64 s.time] 38)).drew (some ⟨w5.heap.size + 1, 0, none⟩) [.int .i64 s.id, .string s.title, .int .i64 s.mins, .int .i64 s.time] := by
                have := (rd_new' (w5.alloc (.cells #[] 38)) #[.int .i64 s.id, .string s.title, .int .i64 s.mins, .int .i64 s.time] 38).drew
                simpa using this
              have xC : Rd ((w5.alloc (.cells #[.int .i64 s.id, .string s.title, .int .i64 s.mins, .int .i64 s.time] 38)).alloc (.cells #[] 38)).drew (some ⟨w5.heap.size, 0, none⟩) [.int .i64 s.id, .string s.title, .int .i64 s.mins, .int .i64 s.time] := ((rd_new' w5 #[.int .i64 s.id, .string s.title, .int .i64 s.mins, .int .i64 s.time] 38).alloc (.cells #[] 38)).drew
              have tW := hT.below hrf
              have tA := tW.below bA; have tB := tW.below bB; have tC := tW.below bC
              go_region_held3 (fun w' => (w'.cell? ⟨b, off + k * 4, none⟩ = some (.int .i64 s.id) ∧ w'.cell? ⟨b, off + k * 4 + 1, none⟩ = some (.string s.title) ∧ w'.cell? ⟨b, off + k * 4 + 2, none⟩ = some (.int .i64 s.mins) ∧ w'.cell? ⟨b, off + k * 4 + 3, none⟩ = some (.int .i64 s.time))) ((first | assumption | go_keep)) ((first | (refine step_app (by rfl) (.tmp 48) (.tmp 51) 24 (by rfl) el_Itm (v := .slice A2 (j + 1) c2) (by (first | rfl | exact congrArg (fun q => Value.slice A2 q c2) (Nat.zero_add j))) ho3 (by rfl) hDl hD4 hD1 (by unfold maxLen; omega) (by omega) hb4.size ?_; intro A5 c5 w5 ho5 hg5 _; have hb5 := hb4.grown hg5 hb4.size (fun q hq => (ho3.lt q hq).1); have hS5 : (w5.cell? ⟨b, off + k * 4, none⟩ = some (.int .i64 s.id) ∧ w5.cell? ⟨b, off + k * 4 + 1, none⟩ = some (.string s.title) ∧ w5.cell? ⟨b, off + k * 4 + 2, none⟩ = some (.int .i64 s.mins) ∧ w5.cell? ⟨b, off + k * 4 + 3, none⟩ = some (.int .i64 s.time)) := ⟨My.cell_below' c0 hb5, My.cell_below' c1' hb5, My.cell_below' c2' hb5, My.cell_below' c3' hb5⟩) | (refine step_app (by rfl) (.tmp 42) (.tmp 47) 24 (by rfl) el_Itm (v := .slice A1 j c1) (by (first | rfl | exact congrArg (fun q => Value.slice A1 q c1) (Nat.zero_add j))) o2 (by rfl) rfl x2 HX1 (by unfold maxLen; omega) (by omega) b2.size ?_; intro A2 c2 w4 ho3 hg2 _; have hb4 := b2.grown hg2 b2.size (fun q hq => (o2.lt q hq).1); have hD4 := (hD.below hrf).below hb4; have hS4 : (w4.cell? ⟨b, off + k * 4, none⟩ = some (.int .i64 s.id) ∧ w4.cell? ⟨b, off + k * 4 + 1, none⟩ = some (.string s.title) ∧ w4.cell? ⟨b, off + k * 4 + 2, none⟩ = some (.int .i64 s.mins) ∧ w4.cell? ⟨b, off + k * 4 + 3, none⟩ = some (.int .i64 s.time)) := ⟨My.cell_below' c0 hb4, My.cell_below' c1' hb4, My.cell_below' c2' hb4, My.cell_below' c3' hb4⟩) | (refine step_app (by rfl) (.tmp 38) (.tmp 41) 24 (by rfl) el_Itm (v := .slice (some ⟨w5.heap.size, 0, none⟩) 0 0) (by (first | rfl | exact congrArg (fun q => Value.slice none q 0) (Nat.zero_add 0))) oB (by rfl) hTl tB hT1 (by unfold maxLen; omega) (by omega) bB.size ?_; intro A1 c1 w3 ho1 hg1 _; have b2 := bB.grown hg1 bB.size (fun q hq => (oB.lt q hq).1); simp only [Nat.zero_add, List.nil_append] at ho1; have o2 := ho1; have x2 := xB.grown hg1 (fun ad h => by cases h; simp [Value.ownBlock]); have hS3 : (w3.cell? ⟨b, off + k * 4, none⟩ = some (.int .i64 s.id) ∧ w3.cell? ⟨b, off + k * 4 + 1, none⟩ = some (.string s.title) ∧ w3.cell? ⟨b, off + k * 4 + 2, none⟩ = some (.int .i64 s.mins) ∧ w3.cell? ⟨b, off + k * 4 + 3, none⟩ = some (.int .i64 s.time)) := ⟨My.cell_below' c0 b2, My.cell_below' c1' b2, My.cell_below' c2' b2, My.cell_below' c3' b2⟩; clear ho1) | (refine step_app (by rfl) (.tmp 38) (.tmp 41) 24 (by rfl) el_Itm (v := .slice (some ⟨w5.heap.size + 1, 0, none⟩) 0 0) (by (first | rfl | exact congrArg (fun q => Value.slice none q 0) (Nat.zero_add 0))) oC (by rfl) hTl tC hT1 (by unfold maxLen; omega) (by omega) bC.size ?_; intro A1 c1 w3 ho1 hg1 _; have b2 := bC.grown hg1 bC.size (fun q hq => (oC.lt q hq).1); simp only [Nat.zero_add, List.nil_append] at ho1; have o2 := ho1; have x2 := xC.grown hg1 (fun ad h => by cases h; simp [Value.ownBlock]); have hS3 : (w3.cell? ⟨b, off + k * 4, none⟩ = some (.int .i64 s.id) ∧ w3.cell? ⟨b, off + k * 4 + 1, none⟩ = some (.string s.title) ∧ w3.cell? ⟨b, off + k * 4 + 2, none⟩ = some (.int .i64 s.mins) ∧ w3.cell? ⟨b, off + k * 4 + 3, none⟩ = some (.int .i64 s.time)) := ⟨My.cell_below' c0 b2, My.cell_below' c1' b2, My.cell_below' c2' b2, My.cell_below' c3' b2⟩; clear ho1) | (refine step_app (by rfl) (.tmp 38) (.tmp 41) 24 (by rfl) el_Itm (v := .slice (some ⟨w5.heap.size, 0, none⟩) 0 0) (by (first | rfl | exact congrArg (fun q => Value.slice none q 0) (Nat.zero_add 0))) oA (by rfl) hTl tA hT1 (by unfold maxLen; omega) (by omega) bA.size ?_; intro A1 c1 w3 ho1 hg1 _; have hb3 := bA.grown hg1 bA.size (fun q hq => (oA.lt q hq).1); simp only [Nat.zero_add, List.nil_append] at ho1; have b2 := bnew hb3 (.cells #[.int .i64 s.id, .string s.title, .int .i64 s.mins, .int .i64 s.time] 38); have o2 := own_below ho1 (bnew (Below.refl w3.heap.size w3) (.cells #[.int .i64 s.id, .string s.title, .int .i64 s.mins, .int .i64 s.time] 38)); have x2 := rd_new' w3 #[.int .i64 s.id, .string s.title, .int .i64 s.mins, .int .i64 s.time] 38; have hS3 : (w3.cell? ⟨b, off + k * 4, none⟩ = some (.int .i64 s.id) ∧ w3.cell? ⟨b, off + k * 4 + 1, none⟩ = some (.string s.title) ∧ w3.cell? ⟨b, off + k * 4 + 2, none⟩ = some (.int .i64 s.mins) ∧ w3.cell? ⟨b, off + k * 4 + 3, none⟩ = some (.int .i64 s.time)) := ⟨My.cell_below' c0 hb3, My.cell_below' c1' hb3, My.cell_below' c2' hb3, My.cell_below' c3' hb3⟩; clear ho1)))
              all_goals
                have hL5 := HYN.out _ rfl
                rw [← HYC.out, ← hL5] at ho5
                go_wp2
                go_roundw
                case rel => exact ⟨k + 1, A5, c5, insAt L j s, by omega, by go_num, by first | (rw [← hL5]; done) | (rw [← hL5]; congr 1; omega), HYS, HYL.out, own_base ho5 hsz.out, btr hbw.out hb5⟩
                case measure => simp [intOf]; omega
      · have HF : Hid (L = sortS tLt xs) := by have := HS.out; rw [List.take_of_length_le (by omega)] at this; exact this.symm
        clear HS
        go_wp2
        exact bodyPost_ret (v := .tuple #[.slice A' L.length c', .bool true]) (by simp [results, Try.results13, go_sem]) rfl ⟨A', c', by rw [HR.out, HF.out], by rw [HR.out, ← HF.out]; exact ho, hb⟩
  · have HR : Hid (r = ([], false)) := HRE.out.trans (if_neg hg)
    have hg' : goodItm xs = false := by simpa using hg
    clear HRE hx hn hg
    go_enter Try.func13, Try.ntmps13
    go_wp2_with (go_at_call 28; refine (Hv.out _ (bnew (Below.refl _ _) _)).mono ?_; rintro en w1 ⟨rfl, hb1⟩)
    exact bodyPost_ret (v := .tuple #[.slice (some ⟨w.heap.size, 0, none⟩) 0 0, .bool false]) (by simp [results, Try.results13, go_sem]) rfl ⟨some ⟨w.heap.size, 0, none⟩, 0, by rw [HR.out]; rfl, by rw [HR.out]; exact own_below (own_lit (e := 38) (size := 4) (B := w.heap.size) (w := w) #[] 0 (Nat.le_refl _) (by unfold maxLen; omega) rfl) hb1, btr (bnew (Below.refl _ _) _) hb1⟩
end Go.Proofs.Ytpmliannnbfnmaa

