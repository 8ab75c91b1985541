/-
  Contracts of AddSection. Conditions: lengths within Go's range.
-/
import Derived.Test.YthedlelkilkpaaaDoc2
import Derived.Test.YthedlelkilkpaaaSlSec
import Derived.Test.YthedlelkilkpaaaApp
namespace Go.My
open Go.RowKit
def insAt {α : Type} (xs : List α) (k : Nat) (x : α) : List α := xs.take k ++ x :: xs.drop k
theorem insAt_len {α : Type} (xs : List α) (k : Nat) (x : α) (hk : k ≤ xs.length) : (insAt xs k x).length = xs.length + 1 := by
  simp [insAt]; omega
theorem insAt_mem {α : Type} {xs : List α} {k : Nat} {x y : α} (h : y ∈ insAt xs k x) : y = x ∨ y ∈ xs := by
  unfold insAt at h
  rcases List.mem_append.1 h with h | h
  · exact .inr (List.mem_of_mem_take h)
  · rcases List.mem_cons.1 h with h | h
    · exact .inl h
    · exact .inr (List.mem_of_mem_drop h)
theorem rd_new' (w : World) (cs : Array Value) (e : TypeId) : Rd (w.alloc (.cells cs e)) (some ⟨w.heap.size, 0, none⟩) cs.toList := by
  refine .inr ⟨_, _, rfl, fun j hj => ?_⟩
  rw [Nat.zero_add, World.cell?_alloc_at _ _ _ _ rfl]
  simp only [Array.length_toList] at hj
  simp [hj]
theorem own_le {w : World} {B : Nat} {e : TypeId} {size n c : Nat} {A : Option Addr} {cells : List Value} (h : w.ownsRow B e size (.slice A n c) n cells) : n ≤ c := by
  obtain ⟨A0, c0, e0, hnc⟩ := own_form h
  simp only [Value.slice.injEq, true_and] at e0
  obtain ⟨rfl, rfl⟩ := e0
  exact hnc
theorem cell_below' {w w' : World} {p : Addr} {v : Value} (h : w.cell? p = some v) (hb : Below w.heap.size w w') : w'.cell? p = some v := (hb.cell (World.block_lt_of_cell? w _ h)).trans h
theorem own_ne2 {w : World} {B : Nat} {e : TypeId} {size n : Nat} {v : Value} {xs : List Value} (h : w.ownsRow B e size v n xs) : some w.heap.size ≠ v.ownBlock := fun e => by have := (h.lt _ e.symm).2; omega

def addSec (xs : List Sec) (i : Int) (s : Sec) : List Sec := insAt xs i.toNat s
def addSecR (xs : List Sec) (i : Int) (s : Sec) : List Sec × Bool :=
  if (goodDoc xs && inB i 0 xs.length) = true then (if goodDoc (addSec xs i s) = true then (addSec xs i s, true) else ([], false)) else ([], false)
theorem goodDoc_len' {xs : List Sec} (h : goodDoc xs = true) : xs.length ≤ 12 := by
  simp only [goodDoc, Bool.and_eq_true, decide_eq_true_eq] at h; exact h.2
end Go.My
namespace Go.Proofs.Ythedlelkilkpaaa
open Go.RowKit Go.My
set_option maxHeartbeats 400000 in
theorem asDoc_yes (A : Option Addr) (c : Nat) (xs : List Sec) (w : World) (hn : xs.length ≤ maxLen) (hx : Rd w A (secCells xs)) (hs : ∀ y ∈ xs, y.t.size ≤ maxLen) (hg : goodDoc xs = true) :
    Calls Try.prog 23 #[.slice A xs.length c] w fun e w' => e = .returned (.tuple #[.slice A xs.length c, .bool true]) ∧ Below w.heap.size w w' := by
  have Hv := Lib.hid (isDoc_any A c xs w hn hx hs)
  clear hx hs
  go_enter Try.func23, Try.ntmps23
  go_wp2_with (go_at_call 27; refine Hv.out.mono ?_; rintro en w1 ⟨rfl, hb1⟩)
  exact bodyPost_ret (v := .tuple #[.slice A xs.length c, .bool true]) (by simp [results, Try.results23, go_sem]) rfl ⟨rfl, hb1⟩
set_option maxHeartbeats 400000 in
theorem asDoc_no (A : Option Addr) (c : Nat) (xs : List Sec) (w : World) (hn : xs.length ≤ maxLen) (hx : Rd w A (secCells xs)) (hs : ∀ y ∈ xs, y.t.size ≤ maxLen) (hg : goodDoc xs = false) :
    Calls Try.prog 23 #[.slice A xs.length c] w fun e w' => e = .returned (.tuple #[.slice none 0 0, .bool false]) ∧ Below w.heap.size w w' := by
  have Hv := Lib.hid (isDoc_any A c xs w hn hx hs)
  clear hx hs
  go_enter Try.func23, Try.ntmps23
  go_wp2_with (go_at_call 27; refine Hv.out.mono ?_; rintro en w1 ⟨rfl, hb1⟩)
  exact bodyPost_ret (v := .tuple #[.slice none 0 0, .bool false]) (by simp [results, Try.results23, go_sem]) rfl ⟨rfl, hb1⟩
set_option maxHeartbeats 400000 in
theorem l6Chk_yes (A : Option Addr) (c : Nat) (xs : List Sec) (w : World) (hn : xs.length ≤ maxLen) (hx : Rd w A (secCells xs)) (hs : ∀ y ∈ xs, y.t.size ≤ maxLen) (hg : goodDoc xs = true) :
    Calls Try.prog 19 #[.slice A xs.length c] w fun e w' => e = .returned (.tuple #[.slice A xs.length c, .bool true]) ∧ Below w.heap.size w w' := by
  have Hv := Lib.hid (l6Good_any A c xs w hn hx hs)
  clear hx hs
  go_enter Try.func19, Try.ntmps19
  go_wp2_with (go_at_call 26; refine Hv.out.mono ?_; rintro en w1 ⟨rfl, hb1⟩)
  exact bodyPost_ret (v := .tuple #[.slice A xs.length c, .bool true]) (by simp [results, Try.results19, go_sem]) rfl ⟨rfl, hb1⟩
set_option maxHeartbeats 400000 in
theorem l6Chk_no (A : Option Addr) (c : Nat) (xs : List Sec) (w : World) (hn : xs.length ≤ maxLen) (hx : Rd w A (secCells xs)) (hs : ∀ y ∈ xs, y.t.size ≤ maxLen) (hg : goodDoc xs = false) :
    Calls Try.prog 19 #[.slice A xs.length c] w fun e w' => ∃ a, e = .returned (.tuple #[.slice a 0 0, .bool false]) ∧ w'.ownsRow w.heap.size 35 2 (.slice a 0 0) 0 [] ∧ Below w.heap.size w w' := by
  have Hv := Lib.hid (l6Good_any A c xs w hn hx hs)
  clear hx hs
  go_enter Try.func19, Try.ntmps19
  go_wp2_with (go_at_call 26; refine Hv.out.mono ?_; rintro en w1 ⟨rfl, hb1⟩)
  exact bodyPost_ret (v := .tuple #[.slice (some ⟨w1.heap.size, 0, none⟩) 0 0, .bool false]) (by simp [results, Try.results19, go_sem]) rfl ⟨_, rfl, own_lit (e := 35) (size := 2) (w := w1) #[] 0 hb1.size (by unfold maxLen; omega) rfl, bnew hb1 _⟩
set_option maxHeartbeats 8000000 in
set_option maxRecDepth 100000 in
theorem specAddSec_any (A : Option Addr) (c : Nat) (xs : List Sec) (i : Int) (s : Sec) (w : World) (hn : xs.length ≤ maxLen) (hlc : xs.length ≤ c) (hx : Rd w A (secCells xs)) (hs : ∀ y ∈ xs, y.t.size ≤ maxLen) (hz : s.t.size ≤ maxLen) :
    Calls Try.prog 13 #[.slice A xs.length c, .int .i64 i, .agg #[.int .i64 s.d, .string s.t]] w fun en w' => ∃ A' c', en = .returned (.tuple #[.slice A' (addSecR xs i s).1.length c', .bool (addSecR xs i s).2]) ∧ w'.ownsRow w.heap.size 35 2 (.slice A' (addSecR xs i s).1.length c') (addSecR xs i s).1.length (secCells (addSecR xs i s).1) ∧ Below w.heap.size w w' := by
  obtain ⟨r, hr⟩ : ∃ r, r = addSecR xs i s := ⟨_, rfl⟩
  rw [← hr]
  have hbw := bnew (Below.refl w.heap.size w) (.cells #[.int .i64 s.d, .string s.t] 35)
  have Hv := Lib.hid (fun w0 (hb : Below w.heap.size w w0) => l6Good_any A c xs w0 hn (hx.below hb) hs)
  by_cases hg : goodDoc xs = true
  · have h12 := goodDoc_len' hg
    by_cases hi : inB i 0 xs.length = true
    · obtain ⟨k, hki⟩ : ∃ k : Nat, i = (k : Int) := ⟨i.toNat, by simp only [inB, decide_eq_true_eq] at hi; omega⟩
      subst hki
      have hk : k ≤ xs.length := by simp only [inB, decide_eq_true_eq] at hi; omega
      have HRE : Hid (r = if goodDoc (addSec xs k s) = true then (addSec xs k s, true) else ([], false)) := hr.trans (if_pos (by rw [hg, hi]; rfl))
      have HGE : Hid (addSec xs k s = insAt xs k s) := rfl
      have HI : Hid (∀ ys : List Sec, ys = addSec xs k s → ∀ y ∈ ys, y.t.size ≤ maxLen) := by
        intro ys hy y h
        subst hy
        rcases insAt_mem h with rfl | h
        · exact hz
        · exact hs y h
      clear hr hs hn
      generalize addSec xs k s = ys at *
      have hkn : (k : Int) ≤ (xs.length : Int) := by omega
      have HYL : Hid (ys.length = xs.length + 1) := by show _ = _; rw [HGE.out]; exact insAt_len _ _ _ hk
      have Hsz := Lib.hid (HI.out ys rfl)
      have hy13 : ys.length ≤ 13 := by have := HYL.out; omega
      go_enter Try.func13, Try.ntmps13
      go_wp2_with fail
      have z0 : (w.alloc (.cells #[.int .i64 s.d, .string s.t] 35)).cell? ⟨w.heap.size, 0, none⟩ = some (.int .i64 s.d) := (World.cell?_alloc_at _ _ _ _ rfl).trans rfl
      have z1 : (w.alloc (.cells #[.int .i64 s.d, .string s.t] 35)).cell? ⟨w.heap.size, 1, none⟩ = some (.string s.t) := (World.cell?_alloc_at _ _ _ _ rfl).trans rfl
      generalize w.alloc (.cells #[.int .i64 s.d, .string s.t] 35) = W0 at *
      obtain ⟨bx, hbx⟩ : ∃ bx, bx = w.heap.size := ⟨_, rfl⟩
      rw [← hbx] at z0 z1
      have HBX := Lib.hid hbx
      rw [← hbx]
      clear hbx
      refine (Hv.out W0 hbw).mono ?_
      rintro en w1 ⟨rfl, hb1⟩
      have hb01 := btr hbw hb1
      have k0 := cell_below' z0 hb1
      have k1 := cell_below' z1 hb1
      clear z0 z1
      go_wp2_with (go_at_call 17; refine (l1In_any _ _ _ _).mono ?_; rintro en w9 ⟨rfl, rfl⟩)
      have HYC : Hid (secCells ys = secCells (xs.take k) ++ [.int .i64 s.d, .string s.t] ++ secCells (xs.drop k)) := by show _ = _; rw [HGE.out]; simp [insAt, secCells, Sec.cells]
      have HYN : Hid (∀ (n : Nat), n = ys.length → n = k + 1 + (xs.length - k)) := fun n h => by rw [h, HYL.out]; omega
      clear HGE HI HYL hi
      have hpre := run_pre el_Sec A (n := xs.length) (c := c) (k := k) (by omega)
      have hcut := run_cut el_Sec A (n := xs.length) (c := c) (k := k) (by omega)
      have hT : Rd w A (secCells (xs.take k)) := by have := hx.take (k * 2); rwa [secCells_take xs k (by omega)] at this
      have hD : Rd w (cutA A c k 2) (secCells (xs.drop k)) := by
        have := hx.cutA k 2 c (by intro h; rw [secCells_len]; omega)
        rwa [secCells_drop xs k (by omega)] at this
      have hT1 := secCells_one (xs.take k)
      have hTl : (secCells (xs.take k)).length = k * 2 := by rw [secCells_len, List.length_take, Nat.min_eq_left (by omega)]
      have hD1 := secCells_one (xs.drop k)
      have hDl : (secCells (xs.drop k)).length = (xs.length - k) * 2 := by rw [secCells_len, List.length_drop]
      generalize secCells (xs.take k) = TC at *
      generalize secCells (xs.drop k) = DC at *
      generalize cutA A c k 2 = DA at *
      by_cases hgy : goodDoc ys = true
      · have HR : Hid (r = (ys, true)) := HRE.out.trans (if_pos hgy)
        clear HRE
        have HX1 : ∀ u ∈ ([.int .i64 s.d, .string s.t] : List Value), u.oneCell' = true := by simp [Value.oneCell']
        have bA := (bnew (Below.refl w1.heap.size w1) (.cells #[] 35)).drew
        have bB := (bnew (bnew (Below.refl w1.heap.size w1) (.cells #[] 35)) (.cells #[.int .i64 s.d, .string s.t] 35)).drew
        have bC := (bnew (bnew (Below.refl w1.heap.size w1) (.cells #[.int .i64 s.d, .string s.t] 35)) (.cells #[] 35)).drew
        have oA := (own_lit (e := 35) (size := 2) (B := w1.heap.size) (w := w1) #[] 0 (Nat.le_refl _) (by unfold maxLen; omega) rfl).drew
        have oB := (own_below (own_lit (e := 35) (size := 2) (B := w1.heap.size) (w := w1) #[] 0 (Nat.le_refl _) (by unfold maxLen; omega) rfl) (bnew (Below.refl (w1.alloc (.cells #[] 35)).heap.size (w1.alloc (.cells #[] 35))) (.cells #[.int .i64 s.d, .string s.t] 35))).drew
        have oC : ((w1.alloc (.cells #[.int .i64 s.d, .string s.t] 35)).alloc (.cells #[] 35)).drew.ownsRow w1.heap.size 35 2 (.slice (some ⟨w1.heap.size + 1, 0, none⟩) 0 0) 0 [] := by
          have := (own_lit (e := 35) (size := 2) (B := w1.heap.size) (w := w1.alloc (.cells #[.int .i64 s.d, .string s.t] 35)) #[] 0 (by simp) (by unfold maxLen; omega) rfl).drew
          simpa using this
        have xB : Rd ((w1.alloc (.cells #[] 35)).alloc (.cells #[.int .i64 s.d, .string s.t] 35)).drew (some ⟨w1.heap.size + 1, 0, none⟩) [.int .i64 s.d, .string s.t] := by
          have := (rd_new' (w1.alloc (.cells #[] 35)) #[.int .i64 s.d, .string s.t] 35).drew
          simpa using this
        have xC : Rd ((w1.alloc (.cells #[.int .i64 s.d, .string s.t] 35)).alloc (.cells #[] 35)).drew (some ⟨w1.heap.size, 0, none⟩) [.int .i64 s.d, .string s.t] := ((rd_new' w1 #[.int .i64 s.d, .string s.t] 35).alloc (.cells #[] 35)).drew
        have tW := hT.below hb01
        have tA := tW.below bA; have tB := tW.below bB; have tC := tW.below bC
        go_region_held3 (fun w' => (w'.cell? ⟨bx, 0, none⟩ = some (.int .i64 s.d) ∧ w'.cell? ⟨bx, 1, none⟩ = some (.string s.t))) ((first | assumption | go_keep)) ((first | (refine step_app (by rfl) (.tmp 26) (.tmp 29) 24 (by rfl) el_Sec (v := .slice A2 (k + 1) c2) (by (first | rfl | exact congrArg (fun q => Value.slice A2 q c2) (Nat.zero_add k))) ho3 (by rfl) hDl hD4 hD1 (by unfold maxLen; omega) (by omega) hb4.size ?_; intro A5 c5 w5 ho5 hg5 _; have hb5 := hb4.grown hg5 hb4.size (fun q hq => (ho3.lt q hq).1); have hS5 : (w5.cell? ⟨bx, 0, none⟩ = some (.int .i64 s.d) ∧ w5.cell? ⟨bx, 1, none⟩ = some (.string s.t)) := ⟨My.cell_below' k0 hb5, My.cell_below' k1 hb5⟩; have hL := HYN.out _ rfl; rw [← HYC.out, ← hL] at ho5; have hR := own_rd ho5) | (refine step_app (by rfl) (.tmp 23) (.tmp 25) 24 (by rfl) el_Sec (v := .slice A1 k c1) (by (first | rfl | exact congrArg (fun q => Value.slice A1 q c1) (Nat.zero_add k))) o2 (by rfl) rfl x2 HX1 (by unfold maxLen; omega) (by omega) b2.size ?_; intro A2 c2 w4 ho3 hg2 _; have hb4 := b2.grown hg2 b2.size (fun q hq => (o2.lt q hq).1); have hD4 := (hD.below hb01).below hb4; have hS4 : (w4.cell? ⟨bx, 0, none⟩ = some (.int .i64 s.d) ∧ w4.cell? ⟨bx, 1, none⟩ = some (.string s.t)) := ⟨My.cell_below' k0 hb4, My.cell_below' k1 hb4⟩) | (go_at_call 19; rw [← HYN.out _ rfl]; refine (l6Chk_yes A5 c5 ys _ (by unfold maxLen; omega) hR Hsz.out hgy).mono ?_; rintro en w6 ⟨rfl, hb6⟩; have ho6 := own_below ho5 hb6; have hb56 := btr hb5 hb6; have hS6 : (w6.cell? ⟨bx, 0, none⟩ = some (.int .i64 s.d) ∧ w6.cell? ⟨bx, 1, none⟩ = some (.string s.t)) := ⟨My.cell_below' k0 hb56, My.cell_below' k1 hb56⟩) | (refine step_app (by rfl) (.tmp 19) (.tmp 22) 24 (by rfl) el_Sec (v := .slice (some ⟨w1.heap.size, 0, none⟩) 0 0) (by (first | rfl | exact congrArg (fun q => Value.slice none q 0) (Nat.zero_add 0))) oB (by rfl) hTl tB hT1 (by unfold maxLen; omega) (by omega) bB.size ?_; intro A1 c1 w3 ho1 hg1 _; have b2 := bB.grown hg1 bB.size (fun q hq => (oB.lt q hq).1); simp only [Nat.zero_add, List.nil_append] at ho1; have o2 := ho1; have x2 := xB.grown hg1 (fun ad h => by cases h; simp [Value.ownBlock]); have hS3 : (w3.cell? ⟨bx, 0, none⟩ = some (.int .i64 s.d) ∧ w3.cell? ⟨bx, 1, none⟩ = some (.string s.t)) := ⟨My.cell_below' k0 b2, My.cell_below' k1 b2⟩; clear ho1) | (refine step_app (by rfl) (.tmp 19) (.tmp 22) 24 (by rfl) el_Sec (v := .slice (some ⟨w1.heap.size + 1, 0, none⟩) 0 0) (by (first | rfl | exact congrArg (fun q => Value.slice none q 0) (Nat.zero_add 0))) oC (by rfl) hTl tC hT1 (by unfold maxLen; omega) (by omega) bC.size ?_; intro A1 c1 w3 ho1 hg1 _; have b2 := bC.grown hg1 bC.size (fun q hq => (oC.lt q hq).1); simp only [Nat.zero_add, List.nil_append] at ho1; have o2 := ho1; have x2 := xC.grown hg1 (fun ad h => by cases h; simp [Value.ownBlock]); have hS3 : (w3.cell? ⟨bx, 0, none⟩ = some (.int .i64 s.d) ∧ w3.cell? ⟨bx, 1, none⟩ = some (.string s.t)) := ⟨My.cell_below' k0 b2, My.cell_below' k1 b2⟩; clear ho1) | (refine step_app (by rfl) (.tmp 19) (.tmp 22) 24 (by rfl) el_Sec (v := .slice (some ⟨w1.heap.size, 0, none⟩) 0 0) (by (first | rfl | exact congrArg (fun q => Value.slice none q 0) (Nat.zero_add 0))) oA (by rfl) hTl tA hT1 (by unfold maxLen; omega) (by omega) bA.size ?_; intro A1 c1 w3 ho1 hg1 _; have hb3 := bA.grown hg1 bA.size (fun q hq => (oA.lt q hq).1); simp only [Nat.zero_add, List.nil_append] at ho1; have b2 := bnew hb3 (.cells #[.int .i64 s.d, .string s.t] 35); have o2 := own_below ho1 (bnew (Below.refl w3.heap.size w3) (.cells #[.int .i64 s.d, .string s.t] 35)); have x2 := rd_new' w3 #[.int .i64 s.d, .string s.t] 35; have hS3 : (w3.cell? ⟨bx, 0, none⟩ = some (.int .i64 s.d) ∧ w3.cell? ⟨bx, 1, none⟩ = some (.string s.t)) := ⟨My.cell_below' k0 hb3, My.cell_below' k1 hb3⟩; clear ho1)))
        all_goals
          go_wp2
          exact bodyPost_ret (v := .tuple #[.slice A5 ys.length c5, .bool true]) (by simp [results, Try.results13, go_sem] <;> omega) rfl ⟨A5, c5, by rw [HR.out], by rw [HR.out]; exact own_base ho6 hb01.size, btr hb01 hb56⟩
      · have HR : Hid (r = ([], false)) := HRE.out.trans (if_neg hgy)
        have hgy1 : goodDoc ys = false := by simpa using hgy
        clear HRE hgy
        have HX1 : ∀ u ∈ ([.int .i64 s.d, .string s.t] : List Value), u.oneCell' = true := by simp [Value.oneCell']
        have bA := (bnew (Below.refl w1.heap.size w1) (.cells #[] 35)).drew
        have bB := (bnew (bnew (Below.refl w1.heap.size w1) (.cells #[] 35)) (.cells #[.int .i64 s.d, .string s.t] 35)).drew
        have bC := (bnew (bnew (Below.refl w1.heap.size w1) (.cells #[.int .i64 s.d, .string s.t] 35)) (.cells #[] 35)).drew
        have oA := (own_lit (e := 35) (size := 2) (B := w1.heap.size) (w := w1) #[] 0 (Nat.le_refl _) (by unfold maxLen; omega) rfl).drew
        have oB := (own_below (own_lit (e := 35) (size := 2) (B := w1.heap.size) (w := w1) #[] 0 (Nat.le_refl _) (by unfold maxLen; omega) rfl) (bnew (Below.refl (w1.alloc (.cells #[] 35)).heap.size (w1.alloc (.cells #[] 35))) (.cells #[.int .i64 s.d, .string s.t] 35))).drew
        have oC : ((w1.alloc (.cells #[.int .i64 s.d, .string s.t] 35)).alloc (.cells #[] 35)).drew.ownsRow w1.heap.size 35 2 (.slice (some ⟨w1.heap.size + 1, 0, none⟩) 0 0) 0 [] := by
          have := (own_lit (e := 35) (size := 2) (B := w1.heap.size) (w := w1.alloc (.cells #[.int .i64 s.d, .string s.t] 35)) #[] 0 (by simp) (by unfold maxLen; omega) rfl).drew
          simpa using this
        have xB : Rd ((w1.alloc (.cells #[] 35)).alloc (.cells #[.int .i64 s.d, .string s.t] 35)).drew (some ⟨w1.heap.size + 1, 0, none⟩) [.int .i64 s.d, .string s.t] := by
          have := (rd_new' (w1.alloc (.cells #[] 35)) #[.int .i64 s.d, .string s.t] 35).drew
          simpa using this
        have xC : Rd ((w1.alloc (.cells #[.int .i64 s.d, .string s.t] 35)).alloc (.cells #[] 35)).drew (some ⟨w1.heap.size, 0, none⟩) [.int .i64 s.d, .string s.t] := ((rd_new' w1 #[.int .i64 s.d, .string s.t] 35).alloc (.cells #[] 35)).drew
        have tW := hT.below hb01
        have tA := tW.below bA; have tB := tW.below bB; have tC := tW.below bC
        go_region_held3 (fun w' => (w'.cell? ⟨bx, 0, none⟩ = some (.int .i64 s.d) ∧ w'.cell? ⟨bx, 1, none⟩ = some (.string s.t))) ((first | assumption | go_keep)) ((first | (refine step_app (by rfl) (.tmp 26) (.tmp 29) 24 (by rfl) el_Sec (v := .slice A2 (k + 1) c2) (by (first | rfl | exact congrArg (fun q => Value.slice A2 q c2) (Nat.zero_add k))) ho3 (by rfl) hDl hD4 hD1 (by unfold maxLen; omega) (by omega) hb4.size ?_; intro A5 c5 w5 ho5 hg5 _; have hb5 := hb4.grown hg5 hb4.size (fun q hq => (ho3.lt q hq).1); have hS5 : (w5.cell? ⟨bx, 0, none⟩ = some (.int .i64 s.d) ∧ w5.cell? ⟨bx, 1, none⟩ = some (.string s.t)) := ⟨My.cell_below' k0 hb5, My.cell_below' k1 hb5⟩; have hL := HYN.out _ rfl; rw [← HYC.out, ← hL] at ho5; have hR := own_rd ho5) | (refine step_app (by rfl) (.tmp 23) (.tmp 25) 24 (by rfl) el_Sec (v := .slice A1 k c1) (by (first | rfl | exact congrArg (fun q => Value.slice A1 q c1) (Nat.zero_add k))) o2 (by rfl) rfl x2 HX1 (by unfold maxLen; omega) (by omega) b2.size ?_; intro A2 c2 w4 ho3 hg2 _; have hb4 := b2.grown hg2 b2.size (fun q hq => (o2.lt q hq).1); have hD4 := (hD.below hb01).below hb4; have hS4 : (w4.cell? ⟨bx, 0, none⟩ = some (.int .i64 s.d) ∧ w4.cell? ⟨bx, 1, none⟩ = some (.string s.t)) := ⟨My.cell_below' k0 hb4, My.cell_below' k1 hb4⟩) | (go_at_call 19; rw [← HYN.out _ rfl]; refine (l6Chk_no A5 c5 ys _ (by unfold maxLen; omega) hR Hsz.out hgy1).mono ?_; rintro en w6 ⟨a6, rfl, ho6, hb6⟩; have hb56 := btr hb5 hb6; have ho7 := own_base ho6 hb5.size; have hS6 : (w6.cell? ⟨bx, 0, none⟩ = some (.int .i64 s.d) ∧ w6.cell? ⟨bx, 1, none⟩ = some (.string s.t)) := ⟨My.cell_below' k0 hb56, My.cell_below' k1 hb56⟩) | (refine step_app (by rfl) (.tmp 19) (.tmp 22) 24 (by rfl) el_Sec (v := .slice (some ⟨w1.heap.size, 0, none⟩) 0 0) (by (first | rfl | exact congrArg (fun q => Value.slice none q 0) (Nat.zero_add 0))) oB (by rfl) hTl tB hT1 (by unfold maxLen; omega) (by omega) bB.size ?_; intro A1 c1 w3 ho1 hg1 _; have b2 := bB.grown hg1 bB.size (fun q hq => (oB.lt q hq).1); simp only [Nat.zero_add, List.nil_append] at ho1; have o2 := ho1; have x2 := xB.grown hg1 (fun ad h => by cases h; simp [Value.ownBlock]); have hS3 : (w3.cell? ⟨bx, 0, none⟩ = some (.int .i64 s.d) ∧ w3.cell? ⟨bx, 1, none⟩ = some (.string s.t)) := ⟨My.cell_below' k0 b2, My.cell_below' k1 b2⟩; clear ho1) | (refine step_app (by rfl) (.tmp 19) (.tmp 22) 24 (by rfl) el_Sec (v := .slice (some ⟨w1.heap.size + 1, 0, none⟩) 0 0) (by (first | rfl | exact congrArg (fun q => Value.slice none q 0) (Nat.zero_add 0))) oC (by rfl) hTl tC hT1 (by unfold maxLen; omega) (by omega) bC.size ?_; intro A1 c1 w3 ho1 hg1 _; have b2 := bC.grown hg1 bC.size (fun q hq => (oC.lt q hq).1); simp only [Nat.zero_add, List.nil_append] at ho1; have o2 := ho1; have x2 := xC.grown hg1 (fun ad h => by cases h; simp [Value.ownBlock]); have hS3 : (w3.cell? ⟨bx, 0, none⟩ = some (.int .i64 s.d) ∧ w3.cell? ⟨bx, 1, none⟩ = some (.string s.t)) := ⟨My.cell_below' k0 b2, My.cell_below' k1 b2⟩; clear ho1) | (refine step_app (by rfl) (.tmp 19) (.tmp 22) 24 (by rfl) el_Sec (v := .slice (some ⟨w1.heap.size, 0, none⟩) 0 0) (by (first | rfl | exact congrArg (fun q => Value.slice none q 0) (Nat.zero_add 0))) oA (by rfl) hTl tA hT1 (by unfold maxLen; omega) (by omega) bA.size ?_; intro A1 c1 w3 ho1 hg1 _; have hb3 := bA.grown hg1 bA.size (fun q hq => (oA.lt q hq).1); simp only [Nat.zero_add, List.nil_append] at ho1; have b2 := bnew hb3 (.cells #[.int .i64 s.d, .string s.t] 35); have o2 := own_below ho1 (bnew (Below.refl w3.heap.size w3) (.cells #[.int .i64 s.d, .string s.t] 35)); have x2 := rd_new' w3 #[.int .i64 s.d, .string s.t] 35; have hS3 : (w3.cell? ⟨bx, 0, none⟩ = some (.int .i64 s.d) ∧ w3.cell? ⟨bx, 1, none⟩ = some (.string s.t)) := ⟨My.cell_below' k0 hb3, My.cell_below' k1 hb3⟩; clear ho1)))
        all_goals
          go_wp2
          exact bodyPost_ret (v := .tuple #[.slice a6 0 0, .bool false]) (by simp [results, Try.results13, go_sem]) rfl ⟨a6, 0, by rw [HR.out]; rfl, by rw [HR.out]; exact own_base ho7 hb01.size, btr hb01 hb56⟩
    · have HR : Hid (r = ([], false)) := hr.trans (if_neg (by simp [hi]))
      have hi' : inB i 0 xs.length = false := by simpa using hi
      clear hr hs hx hn hi
      go_enter Try.func13, Try.ntmps13
      go_wp2_with fail
      refine (Hv.out _ hbw).mono ?_
      rintro en w1 ⟨rfl, hb1⟩
      have hb01 := btr hbw hb1
      go_wp2_with (go_at_call 17; refine (l1In_any _ _ _ _).mono ?_; rintro en w9 ⟨rfl, rfl⟩)
      exact bodyPost_ret (v := .tuple #[.slice (some ⟨w1.heap.size, 0, none⟩) 0 0, .bool false]) (by simp [results, Try.results13, go_sem]) rfl ⟨some ⟨w1.heap.size, 0, none⟩, 0, by rw [HR.out]; rfl, by rw [HR.out]; exact own_lit (e := 35) (size := 2) (w := w1) #[] 0 hb01.size (by unfold maxLen; omega) rfl, bnew hb01 _⟩
  · have HR : Hid (r = ([], false)) := hr.trans (if_neg (by simp [hg]))
    have hg' : goodDoc xs = false := by simpa using hg
    clear hr hs hx hn hg
    go_enter Try.func13, Try.ntmps13
    go_wp2_with fail
    refine (Hv.out _ hbw).mono ?_
    rintro en w1 ⟨rfl, hb1⟩
    have hb01 := btr hbw hb1
    go_wp2_with (go_at_call 17; refine (l1In_any _ _ _ _).mono ?_; rintro en w9 ⟨rfl, rfl⟩)
    exact bodyPost_ret (v := .tuple #[.slice (some ⟨w1.heap.size, 0, none⟩) 0 0, .bool false]) (by simp [results, Try.results13, go_sem]) rfl ⟨some ⟨w1.heap.size, 0, none⟩, 0, by rw [HR.out]; rfl, by rw [HR.out]; exact own_lit (e := 35) (size := 2) (w := w1) #[] 0 hb01.size (by unfold maxLen; omega) rfl, bnew hb01 _⟩
set_option maxHeartbeats 8000000 in
set_option maxRecDepth 100000 in
theorem addSec_any (A : Option Addr) (c : Nat) (xs : List Sec) (i : Int) (s : Sec) (w : World) (hn : xs.length ≤ maxLen) (_ : xs.length ≤ c) (hx : Rd w A (secCells xs)) (hs : ∀ y ∈ xs, y.t.size ≤ maxLen) (hz : s.t.size ≤ maxLen) :
    Calls Try.prog 15 #[.slice A xs.length c, .int .i64 i, .agg #[.int .i64 s.d, .string s.t]] w fun en w' => ∃ A' c', en = .returned (.tuple #[.slice A' (addSecR xs i s).1.length c', .bool (addSecR xs i s).2]) ∧ w'.ownsRow w.heap.size 35 2 (.slice A' (addSecR xs i s).1.length c') (addSecR xs i s).1.length (secCells (addSecR xs i s).1) ∧ Below w.heap.size w w' := by
  obtain ⟨r, hr⟩ : ∃ r, r = addSecR xs i s := ⟨_, rfl⟩
  rw [← hr]
  have hbw := bnew (Below.refl w.heap.size w) (.cells #[.int .i64 s.d, .string s.t] 35)
  have Hv := Lib.hid (fun w0 (hb : Below w.heap.size w w0) => isDoc_any A c xs w0 hn (hx.below hb) hs)
  by_cases hg : goodDoc xs = true
  · have h12 := goodDoc_len' hg
    by_cases hi : inB i 0 xs.length = true
    · obtain ⟨k, hki⟩ : ∃ k : Nat, i = (k : Int) := ⟨i.toNat, by simp only [inB, decide_eq_true_eq] at hi; omega⟩
      subst hki
      have hk : k ≤ xs.length := by simp only [inB, decide_eq_true_eq] at hi; omega
      have HRE : Hid (r = if goodDoc (addSec xs k s) = true then (addSec xs k s, true) else ([], false)) := hr.trans (if_pos (by rw [hg, hi]; rfl))
      have HGE : Hid (addSec xs k s = insAt xs k s) := rfl
      have HI : Hid (∀ ys : List Sec, ys = addSec xs k s → ∀ y ∈ ys, y.t.size ≤ maxLen) := by
        intro ys hy y h
        subst hy
        rcases insAt_mem h with rfl | h
        · exact hz
        · exact hs y h
      clear hr hs hn
      generalize addSec xs k s = ys at *
      have hkn : (k : Int) ≤ (xs.length : Int) := by omega
      have HYL : Hid (ys.length = xs.length + 1) := by show _ = _; rw [HGE.out]; exact insAt_len _ _ _ hk
      have Hsz := Lib.hid (HI.out ys rfl)
      have hy13 : ys.length ≤ 13 := by have := HYL.out; omega
      go_enter Try.func15, Try.ntmps15
      go_wp2_with fail
      have z0 : (w.alloc (.cells #[.int .i64 s.d, .string s.t] 35)).cell? ⟨w.heap.size, 0, none⟩ = some (.int .i64 s.d) := (World.cell?_alloc_at _ _ _ _ rfl).trans rfl
      have z1 : (w.alloc (.cells #[.int .i64 s.d, .string s.t] 35)).cell? ⟨w.heap.size, 1, none⟩ = some (.string s.t) := (World.cell?_alloc_at _ _ _ _ rfl).trans rfl
      generalize w.alloc (.cells #[.int .i64 s.d, .string s.t] 35) = W0 at *
      obtain ⟨bx, hbx⟩ : ∃ bx, bx = w.heap.size := ⟨_, rfl⟩
      rw [← hbx] at z0 z1
      have HBX := Lib.hid hbx
      rw [← hbx]
      clear hbx
      refine (Hv.out W0 hbw).mono ?_
      rintro en w1 ⟨rfl, hb1⟩
      have hb01 := btr hbw hb1
      have k0 := cell_below' z0 hb1
      have k1 := cell_below' z1 hb1
      clear z0 z1
      go_wp2_with (go_at_call 21; refine (inside_any _ _ _ _).mono ?_; rintro en w9 ⟨rfl, rfl⟩)
      have HIns : Hid (∀ (A1 : Option Addr) (c1 vb : Nat) (wX : World), w1.heap.size ≤ wX.heap.size → wX.ownsRow w1.heap.size 35 2 (.slice A1 xs.length c1) xs.length (secCells xs) → Blk wX vb 35 [.int .i64 s.d, .string s.t] → some vb ≠ (Value.slice A1 xs.length c1).ownBlock →
          Calls Try.prog 28 #[.slice A1 xs.length c1, .int .i64 k, .slice (some ⟨vb, 0, none⟩) 1 1] wX (RowRetE wX w1.heap.size 35 2 ys.length (secCells ys) (Value.slice A1 xs.length c1).ownBlock)) := by
        intro A1 c1 vb wX hsz ho hb1 hne
        exact insert_Sec A1 c1 w1.heap.size xs ys s k vb 1 wX hk (by omega) hsz ho hb1 hne HGE
      clear HGE HI HYL hi
      have hT := hx
      have hTl := secCells_len xs
      have hT1 := secCells_one xs
      by_cases hgy : goodDoc ys = true
      · have HR : Hid (r = (ys, true)) := HRE.out.trans (if_pos hgy)
        clear HRE
        have bA := (bnew (Below.refl w1.heap.size w1) (.cells #[] 35)).drew
        have bB := (bnew (bnew (Below.refl w1.heap.size w1) (.cells #[] 35)) (.cells #[.int .i64 s.d, .string s.t] 35)).drew
        have bC := (bnew (bnew (Below.refl w1.heap.size w1) (.cells #[.int .i64 s.d, .string s.t] 35)) (.cells #[] 35)).drew
        have oA := (own_lit (e := 35) (size := 2) (B := w1.heap.size) (w := w1) #[] 0 (Nat.le_refl _) (by unfold maxLen; omega) rfl).drew
        have oB := (own_below (own_lit (e := 35) (size := 2) (B := w1.heap.size) (w := w1) #[] 0 (Nat.le_refl _) (by unfold maxLen; omega) rfl) (bnew (Below.refl (w1.alloc (.cells #[] 35)).heap.size (w1.alloc (.cells #[] 35))) (.cells #[.int .i64 s.d, .string s.t] 35))).drew
        have oC : ((w1.alloc (.cells #[.int .i64 s.d, .string s.t] 35)).alloc (.cells #[] 35)).drew.ownsRow w1.heap.size 35 2 (.slice (some ⟨w1.heap.size + 1, 0, none⟩) 0 0) 0 [] := by
          have := (own_lit (e := 35) (size := 2) (B := w1.heap.size) (w := w1.alloc (.cells #[.int .i64 s.d, .string s.t] 35)) #[] 0 (by simp) (by unfold maxLen; omega) rfl).drew
          simpa using this
        have xB0 : Blk ((w1.alloc (.cells #[] 35)).alloc (.cells #[.int .i64 s.d, .string s.t] 35)) (w1.heap.size + 1) 35 [.int .i64 s.d, .string s.t] := by
          have := heap_alloc_new (w1.alloc (.cells #[] 35)) (.cells #[.int .i64 s.d, .string s.t] 35)
          unfold Blk; simpa using this
        have xB : Blk ((w1.alloc (.cells #[] 35)).alloc (.cells #[.int .i64 s.d, .string s.t] 35)).drew (w1.heap.size + 1) 35 [.int .i64 s.d, .string s.t] := xB0
        have xC : Blk ((w1.alloc (.cells #[.int .i64 s.d, .string s.t] 35)).alloc (.cells #[] 35)).drew w1.heap.size 35 [.int .i64 s.d, .string s.t] := by
          have := (show Blk (w1.alloc (.cells #[.int .i64 s.d, .string s.t] 35)) w1.heap.size 35 [.int .i64 s.d, .string s.t] from by unfold Blk; exact heap_alloc_new w1 (.cells #[.int .i64 s.d, .string s.t] 35)).below (bnew (Below.refl _ _) (.cells #[] 35))
          exact this
        have tW := hT.below hb01
        have tA := tW.below bA; have tB := tW.below bB; have tC := tW.below bC
        go_region_held3 (fun w' => (w'.cell? ⟨bx, 0, none⟩ = some (.int .i64 s.d) ∧ w'.cell? ⟨bx, 1, none⟩ = some (.string s.t))) ((first | assumption | go_keep)) ((first | (go_at_call 28; refine (HIns.out A1 c1 _ _ b2.size o2 x2 vne).mono ?_; rintro en w4 ⟨A4, c4, rfl, ho4, hg4⟩; have hb4 := b2.grown hg4 b2.size (fun q hq => (o2.lt q hq).1); have hR := own_rd ho4; have hS4 : (w4.cell? ⟨bx, 0, none⟩ = some (.int .i64 s.d) ∧ w4.cell? ⟨bx, 1, none⟩ = some (.string s.t)) := ⟨My.cell_below' k0 hb4, My.cell_below' k1 hb4⟩) | (go_at_call 23; refine (asDoc_yes A4 c4 ys _ (by unfold maxLen; omega) hR Hsz.out hgy).mono ?_; rintro en w6 ⟨rfl, hb6⟩; have ho6 := own_below ho4 hb6; have hb46 := btr hb4 hb6; have hS6 : (w6.cell? ⟨bx, 0, none⟩ = some (.int .i64 s.d) ∧ w6.cell? ⟨bx, 1, none⟩ = some (.string s.t)) := ⟨My.cell_below' k0 hb46, My.cell_below' k1 hb46⟩) | (refine step_app (by rfl) (.tmp 18) (.tmp 19) 24 (by rfl) el_Sec (v := .slice (some ⟨w1.heap.size, 0, none⟩) 0 0) (by (first | rfl | exact congrArg (fun q => Value.slice none q 0) (Nat.zero_add 0))) oB (by rfl) hTl tB hT1 (by unfold maxLen; omega) (by omega) bB.size ?_; intro A1 c1 w3 ho1 hg1 hor; have b2 := bB.grown hg1 bB.size (fun q hq => (oB.lt q hq).1); simp only [Nat.zero_add, List.nil_append] at ho1 hor; have o2 := ho1; have x2 := xB.grown hg1 (by simp [Value.ownBlock]); have hS3 : (w3.cell? ⟨bx, 0, none⟩ = some (.int .i64 s.d) ∧ w3.cell? ⟨bx, 1, none⟩ = some (.string s.t)) := ⟨My.cell_below' k0 b2, My.cell_below' k1 b2⟩; have vne : some (w1.heap.size + 1) ≠ (Value.slice A1 xs.length c1).ownBlock := hor.elim (fun h => by rw [h]; simp [Value.ownBlock] <;> omega) (fun h => by rw [h]; simp <;> omega); clear ho1) | (refine step_app (by rfl) (.tmp 18) (.tmp 19) 24 (by rfl) el_Sec (v := .slice (some ⟨w1.heap.size + 1, 0, none⟩) 0 0) (by (first | rfl | exact congrArg (fun q => Value.slice none q 0) (Nat.zero_add 0))) oC (by rfl) hTl tC hT1 (by unfold maxLen; omega) (by omega) bC.size ?_; intro A1 c1 w3 ho1 hg1 hor; have b2 := bC.grown hg1 bC.size (fun q hq => (oC.lt q hq).1); simp only [Nat.zero_add, List.nil_append] at ho1 hor; have o2 := ho1; have x2 := xC.grown hg1 (by simp [Value.ownBlock]); have hS3 : (w3.cell? ⟨bx, 0, none⟩ = some (.int .i64 s.d) ∧ w3.cell? ⟨bx, 1, none⟩ = some (.string s.t)) := ⟨My.cell_below' k0 b2, My.cell_below' k1 b2⟩; have vne : some (w1.heap.size) ≠ (Value.slice A1 xs.length c1).ownBlock := hor.elim (fun h => by rw [h]; simp [Value.ownBlock] <;> omega) (fun h => by rw [h]; simp <;> omega); clear ho1) | (refine step_app (by rfl) (.tmp 18) (.tmp 19) 24 (by rfl) el_Sec (v := .slice (some ⟨w1.heap.size, 0, none⟩) 0 0) (by (first | rfl | exact congrArg (fun q => Value.slice none q 0) (Nat.zero_add 0))) oA (by rfl) hTl tA hT1 (by unfold maxLen; omega) (by omega) bA.size ?_; intro A1 c1 w3 ho1 hg1 _; have hb3 := bA.grown hg1 bA.size (fun q hq => (oA.lt q hq).1); simp only [Nat.zero_add, List.nil_append] at ho1; have b2 := bnew hb3 (.cells #[.int .i64 s.d, .string s.t] 35); have o2 := own_below ho1 (bnew (Below.refl w3.heap.size w3) (.cells #[.int .i64 s.d, .string s.t] 35)); have x2 := (show Blk (w3.alloc (.cells #[.int .i64 s.d, .string s.t] 35)) w3.heap.size 35 [.int .i64 s.d, .string s.t] from by unfold Blk; exact heap_alloc_new w3 (.cells #[.int .i64 s.d, .string s.t] 35)); have hS3 : (w3.cell? ⟨bx, 0, none⟩ = some (.int .i64 s.d) ∧ w3.cell? ⟨bx, 1, none⟩ = some (.string s.t)) := ⟨My.cell_below' k0 hb3, My.cell_below' k1 hb3⟩; have vne := own_ne2 ho1; clear ho1)))
        all_goals
          go_wp2
          exact bodyPost_ret (v := .tuple #[.slice A4 ys.length c4, .bool true]) (by simp [results, Try.results15, go_sem]) rfl ⟨A4, c4, by rw [HR.out], by rw [HR.out]; exact own_base ho6 hb01.size, btr hb01 hb46⟩
      · have HR : Hid (r = ([], false)) := HRE.out.trans (if_neg hgy)
        have hgy1 : goodDoc ys = false := by simpa using hgy
        clear HRE hgy
        have bA := (bnew (Below.refl w1.heap.size w1) (.cells #[] 35)).drew
        have bB := (bnew (bnew (Below.refl w1.heap.size w1) (.cells #[] 35)) (.cells #[.int .i64 s.d, .string s.t] 35)).drew
        have bC := (bnew (bnew (Below.refl w1.heap.size w1) (.cells #[.int .i64 s.d, .string s.t] 35)) (.cells #[] 35)).drew
        have oA := (own_lit (e := 35) (size := 2) (B := w1.heap.size) (w := w1) #[] 0 (Nat.le_refl _) (by unfold maxLen; omega) rfl).drew
        have oB := (own_below (own_lit (e := 35) (size := 2) (B := w1.heap.size) (w := w1) #[] 0 (Nat.le_refl _) (by unfold maxLen; omega) rfl) (bnew (Below.refl (w1.alloc (.cells #[] 35)).heap.size (w1.alloc (.cells #[] 35))) (.cells #[.int .i64 s.d, .string s.t] 35))).drew
        have oC : ((w1.alloc (.cells #[.int .i64 s.d, .string s.t] 35)).alloc (.cells #[] 35)).drew.ownsRow w1.heap.size 35 2 (.slice (some ⟨w1.heap.size + 1, 0, none⟩) 0 0) 0 [] := by
          have := (own_lit (e := 35) (size := 2) (B := w1.heap.size) (w := w1.alloc (.cells #[.int .i64 s.d, .string s.t] 35)) #[] 0 (by simp) (by unfold maxLen; omega) rfl).drew
          simpa using this
        have xB0 : Blk ((w1.alloc (.cells #[] 35)).alloc (.cells #[.int .i64 s.d, .string s.t] 35)) (w1.heap.size + 1) 35 [.int .i64 s.d, .string s.t] := by
          have := heap_alloc_new (w1.alloc (.cells #[] 35)) (.cells #[.int .i64 s.d, .string s.t] 35)
          unfold Blk; simpa using this
        have xB : Blk ((w1.alloc (.cells #[] 35)).alloc (.cells #[.int .i64 s.d, .string s.t] 35)).drew (w1.heap.size + 1) 35 [.int .i64 s.d, .string s.t] := xB0
        have xC : Blk ((w1.alloc (.cells #[.int .i64 s.d, .string s.t] 35)).alloc (.cells #[] 35)).drew w1.heap.size 35 [.int .i64 s.d, .string s.t] := by
          have := (show Blk (w1.alloc (.cells #[.int .i64 s.d, .string s.t] 35)) w1.heap.size 35 [.int .i64 s.d, .string s.t] from by unfold Blk; exact heap_alloc_new w1 (.cells #[.int .i64 s.d, .string s.t] 35)).below (bnew (Below.refl _ _) (.cells #[] 35))
          exact this
        have tW := hT.below hb01
        have tA := tW.below bA; have tB := tW.below bB; have tC := tW.below bC
        go_region_held3 (fun w' => (w'.cell? ⟨bx, 0, none⟩ = some (.int .i64 s.d) ∧ w'.cell? ⟨bx, 1, none⟩ = some (.string s.t))) ((first | assumption | go_keep)) ((first | (go_at_call 28; refine (HIns.out A1 c1 _ _ b2.size o2 x2 vne).mono ?_; rintro en w4 ⟨A4, c4, rfl, ho4, hg4⟩; have hb4 := b2.grown hg4 b2.size (fun q hq => (o2.lt q hq).1); have hR := own_rd ho4; have hS4 : (w4.cell? ⟨bx, 0, none⟩ = some (.int .i64 s.d) ∧ w4.cell? ⟨bx, 1, none⟩ = some (.string s.t)) := ⟨My.cell_below' k0 hb4, My.cell_below' k1 hb4⟩) | (go_at_call 23; refine (asDoc_no A4 c4 ys _ (by unfold maxLen; omega) hR Hsz.out hgy1).mono ?_; rintro en w6 ⟨rfl, hb6⟩; have ho6 := own_below ho4 hb6; have hb46 := btr hb4 hb6; have hS6 : (w6.cell? ⟨bx, 0, none⟩ = some (.int .i64 s.d) ∧ w6.cell? ⟨bx, 1, none⟩ = some (.string s.t)) := ⟨My.cell_below' k0 hb46, My.cell_below' k1 hb46⟩) | (refine step_app (by rfl) (.tmp 18) (.tmp 19) 24 (by rfl) el_Sec (v := .slice (some ⟨w1.heap.size, 0, none⟩) 0 0) (by (first | rfl | exact congrArg (fun q => Value.slice none q 0) (Nat.zero_add 0))) oB (by rfl) hTl tB hT1 (by unfold maxLen; omega) (by omega) bB.size ?_; intro A1 c1 w3 ho1 hg1 hor; have b2 := bB.grown hg1 bB.size (fun q hq => (oB.lt q hq).1); simp only [Nat.zero_add, List.nil_append] at ho1 hor; have o2 := ho1; have x2 := xB.grown hg1 (by simp [Value.ownBlock]); have hS3 : (w3.cell? ⟨bx, 0, none⟩ = some (.int .i64 s.d) ∧ w3.cell? ⟨bx, 1, none⟩ = some (.string s.t)) := ⟨My.cell_below' k0 b2, My.cell_below' k1 b2⟩; have vne : some (w1.heap.size + 1) ≠ (Value.slice A1 xs.length c1).ownBlock := hor.elim (fun h => by rw [h]; simp [Value.ownBlock] <;> omega) (fun h => by rw [h]; simp <;> omega); clear ho1) | (refine step_app (by rfl) (.tmp 18) (.tmp 19) 24 (by rfl) el_Sec (v := .slice (some ⟨w1.heap.size + 1, 0, none⟩) 0 0) (by (first | rfl | exact congrArg (fun q => Value.slice none q 0) (Nat.zero_add 0))) oC (by rfl) hTl tC hT1 (by unfold maxLen; omega) (by omega) bC.size ?_; intro A1 c1 w3 ho1 hg1 hor; have b2 := bC.grown hg1 bC.size (fun q hq => (oC.lt q hq).1); simp only [Nat.zero_add, List.nil_append] at ho1 hor; have o2 := ho1; have x2 := xC.grown hg1 (by simp [Value.ownBlock]); have hS3 : (w3.cell? ⟨bx, 0, none⟩ = some (.int .i64 s.d) ∧ w3.cell? ⟨bx, 1, none⟩ = some (.string s.t)) := ⟨My.cell_below' k0 b2, My.cell_below' k1 b2⟩; have vne : some (w1.heap.size) ≠ (Value.slice A1 xs.length c1).ownBlock := hor.elim (fun h => by rw [h]; simp [Value.ownBlock] <;> omega) (fun h => by rw [h]; simp <;> omega); clear ho1) | (refine step_app (by rfl) (.tmp 18) (.tmp 19) 24 (by rfl) el_Sec (v := .slice (some ⟨w1.heap.size, 0, none⟩) 0 0) (by (first | rfl | exact congrArg (fun q => Value.slice none q 0) (Nat.zero_add 0))) oA (by rfl) hTl tA hT1 (by unfold maxLen; omega) (by omega) bA.size ?_; intro A1 c1 w3 ho1 hg1 _; have hb3 := bA.grown hg1 bA.size (fun q hq => (oA.lt q hq).1); simp only [Nat.zero_add, List.nil_append] at ho1; have b2 := bnew hb3 (.cells #[.int .i64 s.d, .string s.t] 35); have o2 := own_below ho1 (bnew (Below.refl w3.heap.size w3) (.cells #[.int .i64 s.d, .string s.t] 35)); have x2 := (show Blk (w3.alloc (.cells #[.int .i64 s.d, .string s.t] 35)) w3.heap.size 35 [.int .i64 s.d, .string s.t] from by unfold Blk; exact heap_alloc_new w3 (.cells #[.int .i64 s.d, .string s.t] 35)); have hS3 : (w3.cell? ⟨bx, 0, none⟩ = some (.int .i64 s.d) ∧ w3.cell? ⟨bx, 1, none⟩ = some (.string s.t)) := ⟨My.cell_below' k0 hb3, My.cell_below' k1 hb3⟩; have vne := own_ne2 ho1; clear ho1)))
        all_goals
          go_wp2
          exact bodyPost_ret (v := .tuple #[.slice none 0 0, .bool false]) (by simp [results, Try.results15, go_sem]) rfl ⟨none, 0, by rw [HR.out]; rfl, by rw [HR.out]; exact own_nil, btr hb01 hb46⟩
    · have HR : Hid (r = ([], false)) := hr.trans (if_neg (by simp [hi]))
      have hi' : inB i 0 xs.length = false := by simpa using hi
      clear hr hs hx hn hi
      go_enter Try.func15, Try.ntmps15
      go_wp2_with fail
      refine (Hv.out _ hbw).mono ?_
      rintro en w1 ⟨rfl, hb1⟩
      have hb01 := btr hbw hb1
      go_wp2_with (go_at_call 21; refine (inside_any _ _ _ _).mono ?_; rintro en w9 ⟨rfl, rfl⟩)
      exact bodyPost_ret (v := .tuple #[.slice none 0 0, .bool false]) (by simp [results, Try.results15, go_sem]) rfl ⟨none, 0, by rw [HR.out]; rfl, by rw [HR.out]; exact own_nil, hb01⟩
  · have HR : Hid (r = ([], false)) := hr.trans (if_neg (by simp [hg]))
    have hg' : goodDoc xs = false := by simpa using hg
    clear hr hs hx hn hg
    go_enter Try.func15, Try.ntmps15
    go_wp2_with fail
    refine (Hv.out _ hbw).mono ?_
    rintro en w1 ⟨rfl, hb1⟩
    have hb01 := btr hbw hb1
    go_wp2_with (go_at_call 21; refine (inside_any _ _ _ _).mono ?_; rintro en w9 ⟨rfl, rfl⟩)
    exact bodyPost_ret (v := .tuple #[.slice none 0 0, .bool false]) (by simp [results, Try.results15, go_sem]) rfl ⟨none, 0, by rw [HR.out]; rfl, by rw [HR.out]; exact own_nil, hb01⟩
end Go.Proofs.Ythedlelkilkpaaa
