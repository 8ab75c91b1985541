/-
  Contracts of AdmitMember. Conditions: lengths within Go's range.
-/
import Derived.Test.YtngheildmhimoaaGreatDoorMemb
import Derived.Test.YtngheildmhimoaaGreatDoorSlMem
import Derived.Test.YtngheildmhimoaaGreatDoorApp
namespace Go.My
open Go.RowKit
def insAt {α : Type} (xs : List α) (k : Nat) (x : α) : List α := xs.take k ++ x :: xs.drop k
theorem insAt_len {α : Type} (xs : List α) (k : Nat) (x : α) (hk : k ≤ xs.length) : (insAt xs k x).length = xs.length + 1 := by
  simp [insAt]; omega
theorem insAt_mem {α : Type} {xs : List α} {k : Nat} {x y : α} (h : y ∈ insAt xs k x) : y = x ∨ y ∈ xs := by
  unfold insAt at h
  rcases List.mem_append.1 h with h | h
  · exact .inr (List.mem_of_mem_take h)
  · rcases List.mem_cons.1 h with h | h
    · exact .inl h
    · exact .inr (List.mem_of_mem_drop h)
theorem rd_new' (w : World) (cs : Array Value) (e : TypeId) : Rd (w.alloc (.cells cs e)) (some ⟨w.heap.size, 0, none⟩) cs.toList := by
  refine .inr ⟨_, _, rfl, fun j hj => ?_⟩
  rw [Nat.zero_add, World.cell?_alloc_at _ _ _ _ rfl]
  simp only [Array.length_toList] at hj
  simp [hj]
theorem own_le {w : World} {B : Nat} {e : TypeId} {size n c : Nat} {A : Option Addr} {cells : List Value} (h : w.ownsRow B e size (.slice A n c) n cells) : n ≤ c := by
  obtain ⟨A0, c0, e0, hnc⟩ := own_form h
  simp only [Value.slice.injEq, true_and] at e0
  obtain ⟨rfl, rfl⟩ := e0
  exact hnc
theorem cell_below' {w w' : World} {p : Addr} {v : Value} (h : w.cell? p = some v) (hb : Below w.heap.size w w') : w'.cell? p = some v := (hb.cell (World.block_lt_of_cell? w _ h)).trans h
theorem own_ne2 {w : World} {B : Nat} {e : TypeId} {size n : Nat} {v : Value} {xs : List Value} (h : w.ownsRow B e size v n xs) : some w.heap.size ≠ v.ownBlock := fun e => by have := (h.lt _ e.symm).2; omega

def gapFrom : Nat → List Mem → Nat
  | k, [] => k
  | k, x :: r => if x.num = (k : Int) + 1 then gapFrom (k + 1) r else k
def gap (xs : List Mem) : Nat := gapFrom 0 xs
theorem gapFrom_at {j : Nat} {xs : List Mem} {k : Nat} (hk : k < xs.length) : gapFrom j (xs.drop k) = if xs[k].num = (j : Int) + 1 then gapFrom (j + 1) (xs.drop (k + 1)) else j := by
  rw [List.drop_eq_getElem_cons hk]; rfl
theorem gapFrom_le (j : Nat) (xs : List Mem) : gapFrom j xs ≤ j + xs.length := by
  induction xs generalizing j with
  | nil => simp [gapFrom]
  | cons x r ih =>
    simp only [gapFrom, List.length_cons]
    split
    · have := ih (j + 1); omega
    · omega
theorem gap_le (xs : List Mem) : gap xs ≤ xs.length := by have := gapFrom_le 0 xs; unfold gap; omega
def admitL (xs : List Mem) (name : ByteArray) : List Mem := insAt xs (gap xs) ⟨(gap xs : Int) + 1, name, 0⟩
def admitR (xs : List Mem) (name : ByteArray) : List Mem × Int × Bool :=
  if goodMem xs = true then (if goodMem (admitL xs name) = true then (admitL xs name, (gap xs : Int) + 1, true) else ([], 0, false)) else ([], 0, false)
theorem goodMem_len' {xs : List Mem} (h : goodMem xs = true) : xs.length ≤ 12 := by
  simp only [goodMem, Bool.and_eq_true, decide_eq_true_eq] at h; exact h.2
end Go.My
namespace Go.Proofs.YtngheildmhimoaaGreatDoor
open Go.RowKit Go.My
set_option maxHeartbeats 4000000 in
set_option maxRecDepth 100000 in
theorem admit_any (A : Option Addr) (c : Nat) (xs : List Mem) (name : ByteArray) (w : World) (hn : xs.length ≤ maxLen) (hlc : xs.length ≤ c) (hx : Rd w A (memCells xs)) (hs : ∀ s ∈ xs, s.name.size ≤ maxLen) (hz : name.size ≤ maxLen) :
    Calls Tryz.prog 6 #[.slice A xs.length c, .string name] w fun en w' => ∃ A' c', en = .returned (.tuple #[.slice A' (admitR xs name).1.length c', .int .i64 (admitR xs name).2.1, .bool (admitR xs name).2.2]) ∧ w'.ownsRow w.heap.size 54 3 (.slice A' (admitR xs name).1.length c') (admitR xs name).1.length (memCells (admitR xs name).1) ∧ Below w.heap.size w w' := by
  obtain ⟨r, hr⟩ : ∃ r, r = admitR xs name := ⟨_, rfl⟩
  rw [← hr]
  have Hv := Lib.hid (isMembers_any A c xs w hn hlc hx hs)
  by_cases hg : goodMem xs = true
  · have h12 := goodMem_len' hg
    have HRE : Hid (r = if goodMem (admitL xs name) = true then (admitL xs name, (gap xs : Int) + 1, true) else ([], 0, false)) := hr.trans (if_pos hg)
    have HGE : Hid (admitL xs name = insAt xs (gap xs) ⟨(gap xs : Int) + 1, name, 0⟩) := rfl
    have HGL := Lib.hid (gap_le xs)
    have HG0 : Hid (gap xs = gapFrom 0 (xs.drop 0)) := rfl
    have HI : Hid (∀ ys : List Mem, ys = admitL xs name → ∀ s ∈ ys, s.name.size ≤ maxLen) := by
      intro ys hy s h
      subst hy
      rcases insAt_mem h with rfl | h
      · exact hz
      · exact hs s h
    clear hr hs hn
    generalize admitL xs name = ys at *
    generalize hG : gap xs = G at *
    clear hG
    go_enter Tryz.func6, Tryz.ntmps6
    go_wp2_with fail
    refine Hv.out.mono ?_
    rintro en w1 ⟨rfl, hb1⟩
    go_wp2
    go_loop [7] (fun q => ∃ k : Nat, k ≤ xs.length ∧ q = .int .i64 k ∧ Hid (G = gapFrom k (xs.drop k))) (fun q => xs.length - (intOf q).toNat)
    case atStart => exact ⟨0, by omega, rfl, HG0⟩
    case round =>
      obtain ⟨k, hk, rfl, H⟩ := hrel
      have hk12 : (k : Int) ≤ 12 := by omega
      by_cases hlt : k < xs.length
      · obtain ⟨b, off, rfl, c0, c1, c2⟩ := Rd.mem (hx.below hb1) hlt
        have Hn := Lib.hid (H.out.trans (gapFrom_at hlt))
        clear H
        have hkI : (k : Int) < (xs.length : Int) := by omega
        generalize xs[k] = s at *
        by_cases hq : s.num = (k : Int) + 1
        · have hq1 : (s.num == (k : Int) + 1) = true := by simpa using hq
          have Hf := Lib.hid (Hn.out.trans (if_pos hq))
          clear Hn hq
          go_wp2
          go_round
          case rel => exact ⟨k + 1, by omega, by go_num, Hf⟩
          case measure => simp [intOf]; omega
        · have hq1 : (s.num == (k : Int) + 1) = false := by simpa using hq
          have Hf := Lib.hid (Hn.out.trans (if_neg hq))
          clear Hn hq
          have HY : Hid (ys = xs.take k ++ ⟨(k : Int) + 1, name, 0⟩ :: xs.drop k) := HGE.out.trans (by rw [Hf.out]; rfl)
          clear HGE HG0 HGL
          have hy13 : ys.length = xs.length + 1 := by rw [HY.out]; simp; omega
          have Hsz := Lib.hid (HI.out ys rfl)
          have HIns : Hid (∀ (A1 : Option Addr) (c1 : Nat) (w3 : World), w1.heap.size ≤ w3.heap.size → w3.ownsRow w1.heap.size 54 3 (.slice A1 xs.length c1) xs.length (memCells xs) →
              Calls Tryz.prog 27 #[.slice A1 xs.length c1, .int .i64 k, .slice (some ⟨w3.heap.size, 0, none⟩) 1 1] (w3.alloc (.cells #[.int .i64 ((k : Int) + 1), .string name, .int .i64 0] 54)) (RowRetE (w3.alloc (.cells #[.int .i64 ((k : Int) + 1), .string name, .int .i64 0] 54)) w1.heap.size 54 3 ys.length (memCells ys) (Value.slice A1 xs.length c1).ownBlock)) := by
            intro A1 c1 w3 hsz ho
            exact insert_Mem A1 c1 w1.heap.size xs ys ⟨(k : Int) + 1, name, 0⟩ k w3.heap.size 1 _ hk (by omega) (by simp; omega) (own_below ho (bnew (Below.refl _ _) _)) (by unfold Blk; exact heap_alloc_new w3 _) (own_ne2 ho) HY
          have HyL := Lib.hid hy13
          have hy : ys.length ≤ 13 := by omega
          clear HY HI hy13
          have ho0 := own_lit (e := 54) (size := 3) (B := w1.heap.size) (w := w1) #[] 0 (Nat.le_refl _) (by unfold maxLen; omega) rfl
          have hx1 := (hx.below hb1).alloc (.cells #[] 54)
          have hba := bnew (Below.refl w1.heap.size w1) (.cells #[] 54)
          have hl0 := memCells_len xs
          have h10 := memCells_one xs
          clear hx
          by_cases hgy : goodMem ys = true
          · have HR : Hid (r = (ys, (k : Int) + 1, true)) := HRE.out.trans (by rw [if_pos hgy, Hf.out])
            clear HRE
            go_wp2_with (first | (at_builtin; refine wpl_app rfl (.tmp 28) (.tmp 29) 24 rfl el_Mem (v := .slice (some ⟨w1.heap.size, 0, none⟩) 0 0) rfl ho0 rfl hl0 hx1 h10 (by unfold maxLen; omega) (by omega) hba.size ?_; intro A1 c1 w3 ho1 hg1 _; have hb3 : Below w1.heap.size w1 w3 := (hba.grown hg1 hba.size (fun q hq => (ho0.lt q hq).1)); simp only [Nat.zero_add, List.nil_append] at ho1) | (go_at_call 27; refine (HIns.out A1 c1 w3 hb3.size ho1).mono ?_; rintro en w4 ⟨A4, c4, rfl, ho4, hg4⟩; have hb4 := (bnew hb3 (.cells #[.int .i64 ((k : Int) + 1), .string name, .int .i64 0] 54)).grown hg4 (bnew hb3 (.cells #[.int .i64 ((k : Int) + 1), .string name, .int .i64 0] 54)).size (fun q hq => (ho1.lt q hq).1); have hle := own_le ho4; have hR := own_rd ho4) | (go_at_call 10; refine (isMembers_any A4 c4 ys _ (by unfold maxLen; omega) hle hR Hsz.out).mono ?_; rintro en w6 ⟨rfl, hb6⟩; have ho6 := own_below ho4 hb6))
            exact bodyPost_ret (v := .tuple #[.slice A4 ys.length c4, .int .i64 ((k : Int) + 1), .bool true]) (by simp [results, Tryz.results6, go_sem]) rfl ⟨A4, c4, by rw [HR.out], by rw [HR.out]; exact own_base ho6 hb1.size, btr hb1 (btr hb4 hb6)⟩
          · have HR : Hid (r = ([], 0, false)) := HRE.out.trans (if_neg hgy)
            have hgy' : goodMem ys = false := by simpa using hgy
            clear HRE hgy
            go_wp2_with (first | (at_builtin; refine wpl_app rfl (.tmp 28) (.tmp 29) 24 rfl el_Mem (v := .slice (some ⟨w1.heap.size, 0, none⟩) 0 0) rfl ho0 rfl hl0 hx1 h10 (by unfold maxLen; omega) (by omega) hba.size ?_; intro A1 c1 w3 ho1 hg1 _; have hb3 : Below w1.heap.size w1 w3 := (hba.grown hg1 hba.size (fun q hq => (ho0.lt q hq).1)); simp only [Nat.zero_add, List.nil_append] at ho1) | (go_at_call 27; refine (HIns.out A1 c1 w3 hb3.size ho1).mono ?_; rintro en w4 ⟨A4, c4, rfl, ho4, hg4⟩; have hb4 := (bnew hb3 (.cells #[.int .i64 ((k : Int) + 1), .string name, .int .i64 0] 54)).grown hg4 (bnew hb3 (.cells #[.int .i64 ((k : Int) + 1), .string name, .int .i64 0] 54)).size (fun q hq => (ho1.lt q hq).1); have hle := own_le ho4; have hR := own_rd ho4) | (go_at_call 10; refine (isMembers_any A4 c4 ys _ (by unfold maxLen; omega) hle hR Hsz.out).mono ?_; rintro en w6 ⟨rfl, hb6⟩; have ho6 := own_below ho4 hb6))
            exact bodyPost_ret (v := .tuple #[.slice none 0 0, .int .i64 0, .bool false]) (by simp [results, Tryz.results6, go_sem]) rfl ⟨none, 0, by rw [HR.out]; rfl, by rw [HR.out]; exact own_nil, btr hb1 (btr hb4 hb6)⟩
      · have Hf : Hid (G = k) := H.out.trans (by rw [List.drop_eq_nil_of_le (by omega)]; rfl)
        clear H
        have HY : Hid (ys = xs.take k ++ ⟨(k : Int) + 1, name, 0⟩ :: xs.drop k) := HGE.out.trans (by rw [Hf.out]; rfl)
        clear HGE HG0 HGL
        have hy13 : ys.length = xs.length + 1 := by rw [HY.out]; simp; omega
        have Hsz := Lib.hid (HI.out ys rfl)
        have HIns : Hid (∀ (A1 : Option Addr) (c1 : Nat) (w3 : World), w1.heap.size ≤ w3.heap.size → w3.ownsRow w1.heap.size 54 3 (.slice A1 xs.length c1) xs.length (memCells xs) →
            Calls Tryz.prog 27 #[.slice A1 xs.length c1, .int .i64 k, .slice (some ⟨w3.heap.size, 0, none⟩) 1 1] (w3.alloc (.cells #[.int .i64 ((k : Int) + 1), .string name, .int .i64 0] 54)) (RowRetE (w3.alloc (.cells #[.int .i64 ((k : Int) + 1), .string name, .int .i64 0] 54)) w1.heap.size 54 3 ys.length (memCells ys) (Value.slice A1 xs.length c1).ownBlock)) := by
          intro A1 c1 w3 hsz ho
          exact insert_Mem A1 c1 w1.heap.size xs ys ⟨(k : Int) + 1, name, 0⟩ k w3.heap.size 1 _ hk (by omega) (by simp; omega) (own_below ho (bnew (Below.refl _ _) _)) (by unfold Blk; exact heap_alloc_new w3 _) (own_ne2 ho) HY
        have HyL := Lib.hid hy13
        have hy : ys.length ≤ 13 := by omega
        clear HY HI hy13
        have ho0 := own_lit (e := 54) (size := 3) (B := w1.heap.size) (w := w1) #[] 0 (Nat.le_refl _) (by unfold maxLen; omega) rfl
        have hx1 := (hx.below hb1).alloc (.cells #[] 54)
        have hba := bnew (Below.refl w1.heap.size w1) (.cells #[] 54)
        have hl0 := memCells_len xs
        have h10 := memCells_one xs
        clear hx
        by_cases hgy : goodMem ys = true
        · have HR : Hid (r = (ys, (k : Int) + 1, true)) := HRE.out.trans (by rw [if_pos hgy, Hf.out])
          clear HRE
          go_wp2_with (first | (at_builtin; refine wpl_app rfl (.tmp 28) (.tmp 29) 24 rfl el_Mem (v := .slice (some ⟨w1.heap.size, 0, none⟩) 0 0) rfl ho0 rfl hl0 hx1 h10 (by unfold maxLen; omega) (by omega) hba.size ?_; intro A1 c1 w3 ho1 hg1 _; have hb3 : Below w1.heap.size w1 w3 := (hba.grown hg1 hba.size (fun q hq => (ho0.lt q hq).1)); simp only [Nat.zero_add, List.nil_append] at ho1) | (go_at_call 27; refine (HIns.out A1 c1 w3 hb3.size ho1).mono ?_; rintro en w4 ⟨A4, c4, rfl, ho4, hg4⟩; have hb4 := (bnew hb3 (.cells #[.int .i64 ((k : Int) + 1), .string name, .int .i64 0] 54)).grown hg4 (bnew hb3 (.cells #[.int .i64 ((k : Int) + 1), .string name, .int .i64 0] 54)).size (fun q hq => (ho1.lt q hq).1); have hle := own_le ho4; have hR := own_rd ho4) | (go_at_call 10; refine (isMembers_any A4 c4 ys _ (by unfold maxLen; omega) hle hR Hsz.out).mono ?_; rintro en w6 ⟨rfl, hb6⟩; have ho6 := own_below ho4 hb6))
          exact bodyPost_ret (v := .tuple #[.slice A4 ys.length c4, .int .i64 ((k : Int) + 1), .bool true]) (by simp [results, Tryz.results6, go_sem]) rfl ⟨A4, c4, by rw [HR.out], by rw [HR.out]; exact own_base ho6 hb1.size, btr hb1 (btr hb4 hb6)⟩
        · have HR : Hid (r = ([], 0, false)) := HRE.out.trans (if_neg hgy)
          have hgy' : goodMem ys = false := by simpa using hgy
          clear HRE hgy
          go_wp2_with (first | (at_builtin; refine wpl_app rfl (.tmp 28) (.tmp 29) 24 rfl el_Mem (v := .slice (some ⟨w1.heap.size, 0, none⟩) 0 0) rfl ho0 rfl hl0 hx1 h10 (by unfold maxLen; omega) (by omega) hba.size ?_; intro A1 c1 w3 ho1 hg1 _; have hb3 : Below w1.heap.size w1 w3 := (hba.grown hg1 hba.size (fun q hq => (ho0.lt q hq).1)); simp only [Nat.zero_add, List.nil_append] at ho1) | (go_at_call 27; refine (HIns.out A1 c1 w3 hb3.size ho1).mono ?_; rintro en w4 ⟨A4, c4, rfl, ho4, hg4⟩; have hb4 := (bnew hb3 (.cells #[.int .i64 ((k : Int) + 1), .string name, .int .i64 0] 54)).grown hg4 (bnew hb3 (.cells #[.int .i64 ((k : Int) + 1), .string name, .int .i64 0] 54)).size (fun q hq => (ho1.lt q hq).1); have hle := own_le ho4; have hR := own_rd ho4) | (go_at_call 10; refine (isMembers_any A4 c4 ys _ (by unfold maxLen; omega) hle hR Hsz.out).mono ?_; rintro en w6 ⟨rfl, hb6⟩; have ho6 := own_below ho4 hb6))
          exact bodyPost_ret (v := .tuple #[.slice none 0 0, .int .i64 0, .bool false]) (by simp [results, Tryz.results6, go_sem]) rfl ⟨none, 0, by rw [HR.out]; rfl, by rw [HR.out]; exact own_nil, btr hb1 (btr hb4 hb6)⟩
  · have HR : Hid (r = ([], 0, false)) := hr.trans (if_neg hg)
    have hg' : goodMem xs = false := by simpa using hg
    clear hr hs hx hn hg
    go_enter Tryz.func6, Tryz.ntmps6
    go_wp2_with fail
    refine Hv.out.mono ?_
    rintro en w1 ⟨rfl, hb1⟩
    go_wp2
    exact bodyPost_ret (v := .tuple #[.slice none 0 0, .int .i64 0, .bool false]) (by simp [results, Tryz.results6, go_sem]) rfl ⟨none, 0, by rw [HR.out]; rfl, by rw [HR.out]; exact own_nil, hb1⟩
set_option maxHeartbeats 4000000 in
set_option maxRecDepth 100000 in
theorem specAdmit_any (A : Option Addr) (c : Nat) (xs : List Mem) (name : ByteArray) (w : World) (hn : xs.length ≤ maxLen) (hlc : xs.length ≤ c) (hx : Rd w A (memCells xs)) (hs : ∀ s ∈ xs, s.name.size ≤ maxLen) (hz : name.size ≤ maxLen) :
    Calls Tryz.prog 7 #[.slice A xs.length c, .string name] w fun en w' => ∃ A' c', en = .returned (.tuple #[.slice A' (admitR xs name).1.length c', .int .i64 (admitR xs name).2.1, .bool (admitR xs name).2.2]) ∧ w'.ownsRow w.heap.size 54 3 (.slice A' (admitR xs name).1.length c') (admitR xs name).1.length (memCells (admitR xs name).1) ∧ Below w.heap.size w w' := by
  obtain ⟨r, hr⟩ : ∃ r, r = admitR xs name := ⟨_, rfl⟩
  rw [← hr]
  have Hv := Lib.hid (l3Good_any A c xs w hn hlc hx hs)
  by_cases hg : goodMem xs = true
  · have h12 := goodMem_len' hg
    have HRE : Hid (r = if goodMem (admitL xs name) = true then (admitL xs name, (gap xs : Int) + 1, true) else ([], 0, false)) := hr.trans (if_pos hg)
    have HGE : Hid (admitL xs name = insAt xs (gap xs) ⟨(gap xs : Int) + 1, name, 0⟩) := rfl
    have HGL := Lib.hid (gap_le xs)
    have HG0 : Hid (gap xs = gapFrom 0 (xs.drop 0)) := rfl
    have HI : Hid (∀ ys : List Mem, ys = admitL xs name → ∀ s ∈ ys, s.name.size ≤ maxLen) := by
      intro ys hy s h
      subst hy
      rcases insAt_mem h with rfl | h
      · exact hz
      · exact hs s h
    clear hr hs hn
    generalize admitL xs name = ys at *
    generalize hG : gap xs = G at *
    clear hG
    go_enter Tryz.func7, Tryz.ntmps7
    go_wp2_with fail
    refine Hv.out.mono ?_
    rintro en w1 ⟨rfl, hb1⟩
    go_wp2
    go_loop [7] (fun q => ∃ k : Nat, k ≤ xs.length ∧ q = .int .i64 k ∧ Hid (G = gapFrom k (xs.drop k))) (fun q => xs.length - (intOf q).toNat)
    case atStart => exact ⟨0, by omega, rfl, HG0⟩
    case round =>
      obtain ⟨k, hk, rfl, H⟩ := hrel
      have hk12 : (k : Int) ≤ 12 := by omega
      by_cases hlt : k < xs.length
      · obtain ⟨b, off, rfl, c0, c1, c2⟩ := Rd.mem (hx.below hb1) hlt
        have Hn := Lib.hid (H.out.trans (gapFrom_at hlt))
        clear H
        have hkI : (k : Int) < (xs.length : Int) := by omega
        generalize xs[k] = s at *
        by_cases hq : s.num = (k : Int) + 1
        · have hq1 : (s.num == (k : Int) + 1) = true := by simpa using hq
          have Hf := Lib.hid (Hn.out.trans (if_pos hq))
          clear Hn hq
          go_wp2
          go_round
          case rel => exact ⟨k + 1, by omega, by go_num, Hf⟩
          case measure => simp [intOf]; omega
        · have hq1 : (s.num == (k : Int) + 1) = false := by simpa using hq
          have Hf := Lib.hid (Hn.out.trans (if_neg hq))
          clear Hn hq
          have HY : Hid (ys = insAt xs k ⟨(k : Int) + 1, name, 0⟩) := HGE.out.trans (by rw [Hf.out])
          clear HGE HG0 HGL
          have HYL : Hid (ys.length = xs.length + 1) := by show _ = _; rw [HY.out]; exact insAt_len _ _ _ (by omega)
          have HYC : Hid (memCells ys = memCells (xs.take k) ++ [.int .i64 ((k : Int) + 1), .string name, .int .i64 0] ++ memCells (xs.drop k)) := by show _ = _; rw [HY.out]; simp [insAt, memCells, Mem.cells]
          have Hsz := Lib.hid (HI.out ys rfl)
          have HYN : Hid (∀ (n : Nat), n = ys.length → n = k + 1 + (xs.length - k)) := fun n h => by rw [h, HYL.out]; omega
          clear HY HI
          have hpre := run_pre el_Mem (some ⟨b, off, none⟩) (n := xs.length) (c := c) (k := k) (by omega)
          have hcut := run_cut el_Mem (some ⟨b, off, none⟩) (n := xs.length) (c := c) (k := k) (by omega)
          have hT : Rd w (some ⟨b, off, none⟩) (memCells (xs.take k)) := by have := hx.take (k * 3); rwa [memCells_take xs k (by omega)] at this
          have hD : Rd w (cutA (some ⟨b, off, none⟩) c k 3) (memCells (xs.drop k)) := by
            have := hx.cutA k 3 c (by intro h; rw [memCells_len]; omega)
            rwa [memCells_drop xs k (by omega)] at this
          have hT1 := memCells_one (xs.take k)
          have hTl : (memCells (xs.take k)).length = k * 3 := by rw [memCells_len, List.length_take, Nat.min_eq_left (by omega)]
          have hD1 := memCells_one (xs.drop k)
          have hDl : (memCells (xs.drop k)).length = (xs.length - k) * 3 := by rw [memCells_len, List.length_drop]
          generalize memCells (xs.take k) = TC at *
          generalize memCells (xs.drop k) = DC at *
          generalize cutA (some ⟨b, off, none⟩) c k 3 = DA at *
          have hkw : IntKind.i64.wrap ((k : Int) + 1) = (k : Int) + 1 := by rw [IntKind.wrap_i64]; omega
          go_wp2_with fail
          have HX1 : ∀ u ∈ ([.int .i64 ((k : Int) + 1), .string name, .int .i64 0] : List Value), u.oneCell' = true := by simp [Value.oneCell']
          have bA := (bnew (Below.refl w1.heap.size w1) (.cells #[] 54)).drew
          have bB := (bnew (bnew (Below.refl w1.heap.size w1) (.cells #[] 54)) (.cells #[.int .i64 ((k : Int) + 1), .string name, .int .i64 0] 54)).drew
          have bC := (bnew (bnew (Below.refl w1.heap.size w1) (.cells #[.int .i64 ((k : Int) + 1), .string name, .int .i64 0] 54)) (.cells #[] 54)).drew
          have oA := (own_lit (e := 54) (size := 3) (B := w1.heap.size) (w := w1) #[] 0 (Nat.le_refl _) (by unfold maxLen; omega) rfl).drew
          have oB := (own_below (own_lit (e := 54) (size := 3) (B := w1.heap.size) (w := w1) #[] 0 (Nat.le_refl _) (by unfold maxLen; omega) rfl) (bnew (Below.refl (w1.alloc (.cells #[] 54)).heap.size (w1.alloc (.cells #[] 54))) (.cells #[.int .i64 ((k : Int) + 1), .string name, .int .i64 0] 54))).drew
          have oC : ((w1.alloc (.cells #[.int .i64 ((k : Int) + 1), .string name, .int .i64 0] 54)).alloc (.cells #[] 54)).drew.ownsRow w1.heap.size 54 3 (.slice (some ⟨w1.heap.size + 1, 0, none⟩) 0 0) 0 [] := by
            have := (own_lit (e := 54) (size := 3) (B := w1.heap.size) (w := w1.alloc (.cells #[.int .i64 ((k : Int) + 1), .string name, .int .i64 0] 54)) #[] 0 (by simp) (by unfold maxLen; omega) rfl).drew
            simpa using this
          have xB : Rd ((w1.alloc (.cells #[] 54)).alloc (.cells #[.int .i64 ((k : Int) + 1), .string name, .int .i64 0] 54)).drew (some ⟨w1.heap.size + 1, 0, none⟩) [.int .i64 ((k : Int) + 1), .string name, .int .i64 0] := by
            have := (rd_new' (w1.alloc (.cells #[] 54)) #[.int .i64 ((k : Int) + 1), .string name, .int .i64 0] 54).drew
            simpa using this
          have xC : Rd ((w1.alloc (.cells #[.int .i64 ((k : Int) + 1), .string name, .int .i64 0] 54)).alloc (.cells #[] 54)).drew (some ⟨w1.heap.size, 0, none⟩) [.int .i64 ((k : Int) + 1), .string name, .int .i64 0] := ((rd_new' w1 #[.int .i64 ((k : Int) + 1), .string name, .int .i64 0] 54).alloc (.cells #[] 54)).drew
          have tW := hT.below hb1
          have tA := tW.below bA; have tB := tW.below bB; have tC := tW.below bC
          go_region_held3 (fun _ => True) (trivial) ((first | (refine step_app (by rfl) (.tmp 39) (.tmp 42) 24 (by rfl) el_Mem (v := .slice A2 (k + 1) c2) (by (first | rfl | exact congrArg (fun q => Value.slice A2 q c2) (Nat.zero_add k))) ho3 (by rfl) hDl hD4 hD1 (by unfold maxLen; omega) (by omega) hb4.size ?_; intro A5 c5 w5 ho5 hg5 _; have hb5 := hb4.grown hg5 hb4.size (fun q hq => (ho3.lt q hq).1)) | (refine step_app (by rfl) (.tmp 33) (.tmp 38) 24 (by rfl) el_Mem (v := .slice A1 k c1) (by (first | rfl | exact congrArg (fun q => Value.slice A1 q c1) (Nat.zero_add k))) o2 (by rfl) rfl x2 HX1 (by unfold maxLen; omega) (by omega) b2.size ?_; intro A2 c2 w4 ho3 hg2 _; have hb4 := b2.grown hg2 b2.size (fun q hq => (o2.lt q hq).1); have hD4 := (hD.below hb1).below hb4) | (refine step_app (by rfl) (.tmp 29) (.tmp 32) 24 (by rfl) el_Mem (v := .slice (some ⟨w1.heap.size, 0, none⟩) 0 0) (by (first | rfl | exact congrArg (fun q => Value.slice none q 0) (Nat.zero_add 0))) oB (by rfl) hTl tB hT1 (by unfold maxLen; omega) (by omega) bB.size ?_; intro A1 c1 w3 ho1 hg1 _; have b2 := bB.grown hg1 bB.size (fun q hq => (oB.lt q hq).1); simp only [Nat.zero_add, List.nil_append] at ho1; have o2 := ho1; have x2 := xB.grown hg1 (fun ad h => by cases h; simp [Value.ownBlock]); clear ho1) | (refine step_app (by rfl) (.tmp 29) (.tmp 32) 24 (by rfl) el_Mem (v := .slice (some ⟨w1.heap.size + 1, 0, none⟩) 0 0) (by (first | rfl | exact congrArg (fun q => Value.slice none q 0) (Nat.zero_add 0))) oC (by rfl) hTl tC hT1 (by unfold maxLen; omega) (by omega) bC.size ?_; intro A1 c1 w3 ho1 hg1 _; have b2 := bC.grown hg1 bC.size (fun q hq => (oC.lt q hq).1); simp only [Nat.zero_add, List.nil_append] at ho1; have o2 := ho1; have x2 := xC.grown hg1 (fun ad h => by cases h; simp [Value.ownBlock]); clear ho1) | (refine step_app (by rfl) (.tmp 29) (.tmp 32) 24 (by rfl) el_Mem (v := .slice (some ⟨w1.heap.size, 0, none⟩) 0 0) (by (first | rfl | exact congrArg (fun q => Value.slice none q 0) (Nat.zero_add 0))) oA (by rfl) hTl tA hT1 (by unfold maxLen; omega) (by omega) bA.size ?_; intro A1 c1 w3 ho1 hg1 _; have hb3 := bA.grown hg1 bA.size (fun q hq => (oA.lt q hq).1); simp only [Nat.zero_add, List.nil_append] at ho1; have b2 := bnew hb3 (.cells #[.int .i64 ((k : Int) + 1), .string name, .int .i64 0] 54); have o2 := own_below ho1 (bnew (Below.refl w3.heap.size w3) (.cells #[.int .i64 ((k : Int) + 1), .string name, .int .i64 0] 54)); have x2 := rd_new' w3 #[.int .i64 ((k : Int) + 1), .string name, .int .i64 0] 54; clear ho1)))
          all_goals
            have hL := HYN.out _ rfl
            rw [← HYC.out, ← hL] at ho5
            rw [← hL]
            have hle := own_le ho5
            have hy13 : ys.length ≤ 13 := by have := HYL.out; omega
            have hR := own_rd ho5
            by_cases hgy : goodMem ys = true
            · have HR : Hid (r = (ys, (k : Int) + 1, true)) := HRE.out.trans (by rw [if_pos hgy, Hf.out])
              clear HRE hL HYN HYC HYL hT hD
              go_wp2_with fail
              refine (l3Good_any A5 c5 ys _ (by unfold maxLen; omega) hle hR Hsz.out).mono ?_
              rintro en w6 ⟨rfl, hb6⟩
              have ho6 := own_below ho5 hb6
              go_wp2
              exact bodyPost_ret (v := .tuple #[.slice A5 ys.length c5, .int .i64 ((k : Int) + 1), .bool true]) (by simp [results, Tryz.results7, go_sem]) rfl ⟨A5, c5, by rw [HR.out], by rw [HR.out]; exact own_base ho6 hb1.size, btr hb1 (btr hb5 hb6)⟩
            · have HR : Hid (r = ([], 0, false)) := HRE.out.trans (if_neg hgy)
              have hgy' : goodMem ys = false := by simpa using hgy
              clear HRE hL HYN HYC HYL hT hD hgy
              go_wp2_with fail
              refine (l3Good_any A5 c5 ys _ (by unfold maxLen; omega) hle hR Hsz.out).mono ?_
              rintro en w6 ⟨rfl, hb6⟩
              have hb16 := btr hb1 (btr hb5 hb6)
              go_wp2
              exact bodyPost_ret (v := .tuple #[.slice (some ⟨w6.heap.size, 0, none⟩) 0 0, .int .i64 0, .bool false]) (by simp [results, Tryz.results7, go_sem]) rfl ⟨some ⟨w6.heap.size, 0, none⟩, 0, by rw [HR.out]; rfl, by rw [HR.out]; exact own_lit (e := 54) (size := 3) (w := w6) #[] 0 hb16.size (by unfold maxLen; omega) rfl, bnew hb16 _⟩
      · have Hf : Hid (G = k) := H.out.trans (by rw [List.drop_eq_nil_of_le (by omega)]; rfl)
        clear H
        have HY : Hid (ys = insAt xs k ⟨(k : Int) + 1, name, 0⟩) := HGE.out.trans (by rw [Hf.out])
        clear HGE HG0 HGL
        have HYL : Hid (ys.length = xs.length + 1) := by show _ = _; rw [HY.out]; exact insAt_len _ _ _ (by omega)
        have HYC : Hid (memCells ys = memCells (xs.take k) ++ [.int .i64 ((k : Int) + 1), .string name, .int .i64 0] ++ memCells (xs.drop k)) := by show _ = _; rw [HY.out]; simp [insAt, memCells, Mem.cells]
        have Hsz := Lib.hid (HI.out ys rfl)
        have HYN : Hid (∀ (n : Nat), n = ys.length → n = k + 1 + (xs.length - k)) := fun n h => by rw [h, HYL.out]; omega
        clear HY HI
        have hpre := run_pre el_Mem (A) (n := xs.length) (c := c) (k := k) (by omega)
        have hcut := run_cut el_Mem (A) (n := xs.length) (c := c) (k := k) (by omega)
        have hT : Rd w (A) (memCells (xs.take k)) := by have := hx.take (k * 3); rwa [memCells_take xs k (by omega)] at this
        have hD : Rd w (cutA (A) c k 3) (memCells (xs.drop k)) := by
          have := hx.cutA k 3 c (by intro h; rw [memCells_len]; omega)
          rwa [memCells_drop xs k (by omega)] at this
        have hT1 := memCells_one (xs.take k)
        have hTl : (memCells (xs.take k)).length = k * 3 := by rw [memCells_len, List.length_take, Nat.min_eq_left (by omega)]
        have hD1 := memCells_one (xs.drop k)
        have hDl : (memCells (xs.drop k)).length = (xs.length - k) * 3 := by rw [memCells_len, List.length_drop]
        generalize memCells (xs.take k) = TC at *
        generalize memCells (xs.drop k) = DC at *
        generalize cutA (A) c k 3 = DA at *
        have hkw : IntKind.i64.wrap ((k : Int) + 1) = (k : Int) + 1 := by rw [IntKind.wrap_i64]; omega
        go_wp2_with fail
        have HX1 : ∀ u ∈ ([.int .i64 ((k : Int) + 1), .string name, .int .i64 0] : List Value), u.oneCell' = true := by simp [Value.oneCell']
        have bA := (bnew (Below.refl w1.heap.size w1) (.cells #[] 54)).drew
        have bB := (bnew (bnew (Below.refl w1.heap.size w1) (.cells #[] 54)) (.cells #[.int .i64 ((k : Int) + 1), .string name, .int .i64 0] 54)).drew
        have bC := (bnew (bnew (Below.refl w1.heap.size w1) (.cells #[.int .i64 ((k : Int) + 1), .string name, .int .i64 0] 54)) (.cells #[] 54)).drew
        have oA := (own_lit (e := 54) (size := 3) (B := w1.heap.size) (w := w1) #[] 0 (Nat.le_refl _) (by unfold maxLen; omega) rfl).drew
        have oB := (own_below (own_lit (e := 54) (size := 3) (B := w1.heap.size) (w := w1) #[] 0 (Nat.le_refl _) (by unfold maxLen; omega) rfl) (bnew (Below.refl (w1.alloc (.cells #[] 54)).heap.size (w1.alloc (.cells #[] 54))) (.cells #[.int .i64 ((k : Int) + 1), .string name, .int .i64 0] 54))).drew
        have oC : ((w1.alloc (.cells #[.int .i64 ((k : Int) + 1), .string name, .int .i64 0] 54)).alloc (.cells #[] 54)).drew.ownsRow w1.heap.size 54 3 (.slice (some ⟨w1.heap.size + 1, 0, none⟩) 0 0) 0 [] := by
          have := (own_lit (e := 54) (size := 3) (B := w1.heap.size) (w := w1.alloc (.cells #[.int .i64 ((k : Int) + 1), .string name, .int .i64 0] 54)) #[] 0 (by simp) (by unfold maxLen; omega) rfl).drew
          simpa using this
        have xB : Rd ((w1.alloc (.cells #[] 54)).alloc (.cells #[.int .i64 ((k : Int) + 1), .string name, .int .i64 0] 54)).drew (some ⟨w1.heap.size + 1, 0, none⟩) [.int .i64 ((k : Int) + 1), .string name, .int .i64 0] := by
          have := (rd_new' (w1.alloc (.cells #[] 54)) #[.int .i64 ((k : Int) + 1), .string name, .int .i64 0] 54).drew
          simpa using this
        have xC : Rd ((w1.alloc (.cells #[.int .i64 ((k : Int) + 1), .string name, .int .i64 0] 54)).alloc (.cells #[] 54)).drew (some ⟨w1.heap.size, 0, none⟩) [.int .i64 ((k : Int) + 1), .string name, .int .i64 0] := ((rd_new' w1 #[.int .i64 ((k : Int) + 1), .string name, .int .i64 0] 54).alloc (.cells #[] 54)).drew
        have tW := hT.below hb1
        have tA := tW.below bA; have tB := tW.below bB; have tC := tW.below bC
        go_region_held3 (fun _ => True) (trivial) ((first | (refine step_app (by rfl) (.tmp 39) (.tmp 42) 24 (by rfl) el_Mem (v := .slice A2 (k + 1) c2) (by (first | rfl | exact congrArg (fun q => Value.slice A2 q c2) (Nat.zero_add k))) ho3 (by rfl) hDl hD4 hD1 (by unfold maxLen; omega) (by omega) hb4.size ?_; intro A5 c5 w5 ho5 hg5 _; have hb5 := hb4.grown hg5 hb4.size (fun q hq => (ho3.lt q hq).1)) | (refine step_app (by rfl) (.tmp 33) (.tmp 38) 24 (by rfl) el_Mem (v := .slice A1 k c1) (by (first | rfl | exact congrArg (fun q => Value.slice A1 q c1) (Nat.zero_add k))) o2 (by rfl) rfl x2 HX1 (by unfold maxLen; omega) (by omega) b2.size ?_; intro A2 c2 w4 ho3 hg2 _; have hb4 := b2.grown hg2 b2.size (fun q hq => (o2.lt q hq).1); have hD4 := (hD.below hb1).below hb4) | (refine step_app (by rfl) (.tmp 29) (.tmp 32) 24 (by rfl) el_Mem (v := .slice (some ⟨w1.heap.size, 0, none⟩) 0 0) (by (first | rfl | exact congrArg (fun q => Value.slice none q 0) (Nat.zero_add 0))) oB (by rfl) hTl tB hT1 (by unfold maxLen; omega) (by omega) bB.size ?_; intro A1 c1 w3 ho1 hg1 _; have b2 := bB.grown hg1 bB.size (fun q hq => (oB.lt q hq).1); simp only [Nat.zero_add, List.nil_append] at ho1; have o2 := ho1; have x2 := xB.grown hg1 (fun ad h => by cases h; simp [Value.ownBlock]); clear ho1) | (refine step_app (by rfl) (.tmp 29) (.tmp 32) 24 (by rfl) el_Mem (v := .slice (some ⟨w1.heap.size + 1, 0, none⟩) 0 0) (by (first | rfl | exact congrArg (fun q => Value.slice none q 0) (Nat.zero_add 0))) oC (by rfl) hTl tC hT1 (by unfold maxLen; omega) (by omega) bC.size ?_; intro A1 c1 w3 ho1 hg1 _; have b2 := bC.grown hg1 bC.size (fun q hq => (oC.lt q hq).1); simp only [Nat.zero_add, List.nil_append] at ho1; have o2 := ho1; have x2 := xC.grown hg1 (fun ad h => by cases h; simp [Value.ownBlock]); clear ho1) | (refine step_app (by rfl) (.tmp 29) (.tmp 32) 24 (by rfl) el_Mem (v := .slice (some ⟨w1.heap.size, 0, none⟩) 0 0) (by (first | rfl | exact congrArg (fun q => Value.slice none q 0) (Nat.zero_add 0))) oA (by rfl) hTl tA hT1 (by unfold maxLen; omega) (by omega) bA.size ?_; intro A1 c1 w3 ho1 hg1 _; have hb3 := bA.grown hg1 bA.size (fun q hq => (oA.lt q hq).1); simp only [Nat.zero_add, List.nil_append] at ho1; have b2 := bnew hb3 (.cells #[.int .i64 ((k : Int) + 1), .string name, .int .i64 0] 54); have o2 := own_below ho1 (bnew (Below.refl w3.heap.size w3) (.cells #[.int .i64 ((k : Int) + 1), .string name, .int .i64 0] 54)); have x2 := rd_new' w3 #[.int .i64 ((k : Int) + 1), .string name, .int .i64 0] 54; clear ho1)))
        all_goals
          have hL := HYN.out _ rfl
          rw [← HYC.out, ← hL] at ho5
          rw [← hL]
          have hle := own_le ho5
          have hy13 : ys.length ≤ 13 := by have := HYL.out; omega
          have hR := own_rd ho5
          by_cases hgy : goodMem ys = true
          · have HR : Hid (r = (ys, (k : Int) + 1, true)) := HRE.out.trans (by rw [if_pos hgy, Hf.out])
            clear HRE hL HYN HYC HYL hT hD
            go_wp2_with fail
            refine (l3Good_any A5 c5 ys _ (by unfold maxLen; omega) hle hR Hsz.out).mono ?_
            rintro en w6 ⟨rfl, hb6⟩
            have ho6 := own_below ho5 hb6
            go_wp2
            exact bodyPost_ret (v := .tuple #[.slice A5 ys.length c5, .int .i64 ((k : Int) + 1), .bool true]) (by simp [results, Tryz.results7, go_sem]) rfl ⟨A5, c5, by rw [HR.out], by rw [HR.out]; exact own_base ho6 hb1.size, btr hb1 (btr hb5 hb6)⟩
          · have HR : Hid (r = ([], 0, false)) := HRE.out.trans (if_neg hgy)
            have hgy' : goodMem ys = false := by simpa using hgy
            clear HRE hL HYN HYC HYL hT hD hgy
            go_wp2_with fail
            refine (l3Good_any A5 c5 ys _ (by unfold maxLen; omega) hle hR Hsz.out).mono ?_
            rintro en w6 ⟨rfl, hb6⟩
            have hb16 := btr hb1 (btr hb5 hb6)
            go_wp2
            exact bodyPost_ret (v := .tuple #[.slice (some ⟨w6.heap.size, 0, none⟩) 0 0, .int .i64 0, .bool false]) (by simp [results, Tryz.results7, go_sem]) rfl ⟨some ⟨w6.heap.size, 0, none⟩, 0, by rw [HR.out]; rfl, by rw [HR.out]; exact own_lit (e := 54) (size := 3) (w := w6) #[] 0 hb16.size (by unfold maxLen; omega) rfl, bnew hb16 _⟩
  · have HR : Hid (r = ([], 0, false)) := hr.trans (if_neg hg)
    have hg' : goodMem xs = false := by simpa using hg
    clear hr hs hx hn hg
    go_enter Tryz.func7, Tryz.ntmps7
    go_wp2_with fail
    refine Hv.out.mono ?_
    rintro en w1 ⟨rfl, hb1⟩
    go_wp2
    exact bodyPost_ret (v := .tuple #[.slice (some ⟨w1.heap.size, 0, none⟩) 0 0, .int .i64 0, .bool false]) (by simp [results, Tryz.results7, go_sem]) rfl ⟨some ⟨w1.heap.size, 0, none⟩, 0, by rw [HR.out]; rfl, by rw [HR.out]; exact own_lit (e := 54) (size := 3) (w := w1) #[] 0 hb1.size (by unfold maxLen; omega) rfl, bnew hb1 _⟩
end Go.Proofs.YtngheildmhimoaaGreatDoor
