/-
  Contracts of NumbersByName. Conditions: lengths within Go's range.
-/
import Derived.Test.YtngheildmhimoaaGreatDoorMemb4
import Derived.Test.YtngheildmhimoaaGreatDoorSlMem
import Derived.Test.YtngheildmhimoaaGreatDoorIntS
import Derived.Test.YtngheildmhimoaaGreatDoorStrS
import Derived.Test.YtngheildmhimoaaGreatDoorSrtMem
import Derived.Test.YtngheildmhimoaaGreatDoorApp
import Derived.Lib.SliceRun
import Derived.Lib.Bytealg
namespace Go.My
open Go.RowKit
section
variable {α : Type}
theorem posR_at (lt : α → α → Bool) (x : α) {o : List α} {k : Nat} (hk : k < o.length) : posR lt x o (k + 1) = if lt x o[k] = true then posR lt x o k else k + 1 := by
  rw [posR, List.getElem?_eq_getElem hk]
theorem posR_congr {lt lt' : α → α → Bool} {x : α} {o : List α} (h : ∀ y ∈ o, lt x y = lt' x y) : ∀ k, posR lt x o k = posR lt' x o k
  | 0 => rfl
  | k + 1 => by
    by_cases hk : k < o.length
    · rw [posR_at lt x hk, posR_at lt' x hk, h _ (List.getElem_mem hk), posR_congr h k]
    · rw [posR, posR, List.getElem?_eq_none (by omega)]
theorem foldS_congr {lt lt' : α → α → Bool} : ∀ (xs o : List α), (∀ x ∈ o ++ xs, ∀ y ∈ o ++ xs, lt x y = lt' x y) → xs.foldl (fun o x => insS lt x o) o = xs.foldl (fun o x => insS lt' x o) o
  | [], _, _ => rfl
  | x :: xs, o, h => by
    have e : insS lt x o = insS lt' x o := by
      unfold insS
      rw [posR_congr fun y hy => h x (by simp) y (by simp [hy])]
    rw [List.foldl_cons, List.foldl_cons, e]
    refine foldS_congr xs _ fun a ha b hb => ?_
    have m : ∀ a, a ∈ insS lt' x o ++ xs → a ∈ o ++ x :: xs := fun a ha => by
      rcases List.mem_append.1 ha with ha | ha
      · rcases insS_mem ha with rfl | ha <;> simp [*]
      · simp [ha]
    exact h a (m a ha) b (m b hb)
theorem sortS_congr {lt lt' : α → α → Bool} {xs : List α} (h : ∀ x ∈ xs, ∀ y ∈ xs, lt x y = lt' x y) : sortS lt xs = sortS lt' xs := foldS_congr xs [] (by simpa using h)
theorem sortS_at (lt : α → α → Bool) {xs : List α} {k : Nat} (hk : k < xs.length) : sortS lt (xs.take (k + 1)) = insAt (sortS lt (xs.take k)) (posR lt xs[k] (sortS lt (xs.take k)) (sortS lt (xs.take k)).length) xs[k] := by
  unfold sortS
  rw [List.take_succ_eq_append_getElem hk, List.foldl_append]
  rfl
end
theorem intCells_take (xs : List Int) (k : Nat) (_ : k ≤ xs.length) : (intCells xs).take (k * 1) = intCells (xs.take k) := by simp [intCells]
theorem intCells_drop (xs : List Int) (k : Nat) (_ : k ≤ xs.length) : (intCells xs).drop (k * 1) = intCells (xs.drop k) := by simp [intCells]
theorem sCells_take (xs : List ByteArray) (k : Nat) (_ : k ≤ xs.length) : (sCells xs).take (k * 1) = sCells (xs.take k) := by simp [sCells]
theorem sCells_drop (xs : List ByteArray) (k : Nat) (_ : k ≤ xs.length) : (sCells xs).drop (k * 1) = sCells (xs.drop k) := by simp [sCells]
theorem bytesLess_cmp : ∀ a b : List UInt8, Op.bytesLess a b = decide (Lib.compareBytes a b < 0)
  | [], [] => rfl
  | [], _ :: _ => rfl
  | _ :: _, [] => rfl
  | a :: x, b :: y => by
    unfold Op.bytesLess Lib.compareBytes
    by_cases h1 : a < b
    · rw [if_pos h1, decide_eq_true h1]; rfl
    · rw [if_neg h1, decide_eq_false h1]
      by_cases h2 : b < a
      · have : (a == b) = false := by
          rw [beq_eq_false_iff_ne]; rintro rfl; exact h1 h2
        rw [if_pos h2, this]; rfl
      · have e : a = b := by
          rw [UInt8.lt_iff_toNat_lt] at h1 h2
          exact UInt8.toNat_inj.1 (by omega)
        rw [if_neg h2, e, beq_self_eq_true, Bool.true_and, Bool.false_or, bytesLess_cmp x y]
end Go.My
namespace Go.Proofs.YtngheildmhimoaaGreatDoor
open Go.RowKit Go.My
theorem nameLess_eq (x y : Mem) : Op.bytesLess x.name.toList y.name.toList = nameLt x y := by
  rw [bytesLess_cmp, ByteArray.toList_eq, ByteArray.toList_eq]; rfl
def byNameR (xs : List Mem) : List Int × Bool := if goodMem xs = true then ((sortS nameLt xs).map (fun s : Mem => s.num), true) else ([], false)
theorem byNameR_len (xs : List Mem) : (byNameR xs).1.length ≤ xs.length := by
  unfold byNameR
  split
  · rw [List.length_map, sortS_len]; exact Nat.le_refl _
  · simp
set_option maxHeartbeats 1000000 in
theorem clone_Mem (A : Option Addr) (c : Nat) (xs : List Mem) (w : World) (hn : xs.length ≤ 2097152) (hx : Rd w A (memCells xs)) :
    Calls Tryz.prog 51 #[.slice A xs.length c] w (RowRetE w w.heap.size 54 3 xs.length (memCells xs) none) := by
  cases A with
  | none =>
    have h0 : xs = [] := by
      rcases hx with h | ⟨b, off, e, _⟩
      · exact List.eq_nil_of_length_eq_zero (by have := memCells_len xs; rw [h] at this; simp at this; omega)
      · cases e
    subst h0
    have hnil : ∀ w, (binOp .eql 24 (.slice none 0 c) (.slice none 0 0)).run Tryz.prog w = .ok (.bool true) w := fun w => Lib.run_eql_slice_nil w _ _ none 0 c 0 0 Tryz.underlying24
    go_enter Tryz.func51, Tryz.ntmps51
    go_wp2
    exact bodyPost_ret (v := .slice none 0 0) (by simp [results, Tryz.results51, go_sem]) rfl ⟨none, 0, rfl, own_nil, World.grownBy.refl _ _⟩
  | some ad =>
    have hl0 := memCells_len xs
    have h10 := memCells_one xs
    have hnil : ∀ w, (binOp .eql 24 (.slice (some ad) xs.length c) (.slice none 0 0)).run Tryz.prog w = .ok (.bool false) w := fun w => Lib.run_eql_slice_nil w _ _ (some ad) _ c 0 0 Tryz.underlying24
    go_enter Tryz.func51, Tryz.ntmps51
    go_wp2_with (at_builtin; refine wpl_app rfl (.tmp 5) (.tmp 6) 24 rfl el_Mem (v := .slice (some ⟨w.heap.size, 0, none⟩) 0 0) rfl (own_lit (e := 54) (size := 3) (B := w.heap.size) (w := w) #[] 0 (Nat.le_refl _) (by unfold maxLen; omega) rfl) rfl hl0 (hx.alloc (.cells #[] 54)) h10 (by unfold maxLen; omega) (by omega) (by simp) ?_; intro A1 c1 w3 ho1 hg1 _; simp only [Nat.zero_add, List.nil_append] at ho1)
    exact bodyPost_ret (v := .slice A1 xs.length c1) (by simp [results, Tryz.results51, go_sem]) rfl ⟨A1, c1, rfl, ho1, grown_new (w1 := w.alloc (.cells #[] 54)) (row := none) (g := w.heap.size) (by exact ⟨rfl, rfl, rfl, by simp, fun k hk _ => Below.heap_alloc w _ k hk⟩) (by simpa [Value.ownBlock] using hg1) (Nat.le_refl _)⟩
set_option maxHeartbeats 8000000 in
set_option maxRecDepth 100000 in
theorem byName_any (A : Option Addr) (c : Nat) (xs : List Mem) (w : World) (hn : xs.length ≤ maxLen) (hlc : xs.length ≤ c) (hx : Rd w A (memCells xs)) (hs : ∀ y ∈ xs, y.name.size ≤ maxLen) :
    Calls Tryz.prog 20 #[.slice A xs.length c] w fun en w' => ∃ A' c', en = .returned (.tuple #[.slice A' (byNameR xs).1.length c', .bool (byNameR xs).2]) ∧ w'.ownsRow w.heap.size 3 1 (.slice A' (byNameR xs).1.length c') (byNameR xs).1.length (intCells (byNameR xs).1) ∧ Below w.heap.size w w' := by
  obtain ⟨r, hr⟩ : ∃ r, r = byNameR xs := ⟨_, rfl⟩
  rw [← hr]
  have Hv : Hid (∀ w1, Below w.heap.size w w1 → Calls Tryz.prog 10 #[.slice A xs.length c] w1 fun e w' => e = .returned (.bool (goodMem xs)) ∧ Below w1.heap.size w1 w') :=
    fun w1 hb => isMembers_any A c xs w1 hn hlc (hx.below hb) hs
  unfold byNameR at hr
  have HRE := Lib.hid hr
  clear hr hs
  by_cases hg : goodMem xs = true
  · have HR : Hid (r = ((sortS nameLt xs).map (fun s : Mem => s.num), true)) := HRE.out.trans (if_pos hg)
    have h12 := goodMem_len' hg
    have Hc : Hid (∀ w1, Below w.heap.size w w1 → Calls Tryz.prog 51 #[.slice A xs.length c] w1 (RowRetE w1 w1.heap.size 54 3 xs.length (memCells xs) none)) := fun w1 hb => clone_Mem A c xs w1 (by omega) (hx.below hb)
    have Hs : Hid (∀ (A1 : Option Addr) (c1 : Nat) (w1 : World), w1.ownsRow w.heap.size 54 3 (.slice A1 xs.length c1) xs.length (memCells xs) → Calls Tryz.prog 52 #[.slice A1 xs.length c1, .func (.func 53) #[] #[]] w1 fun e w' => e = .returned (.tuple #[]) ∧ w'.ownsRow w.heap.size 54 3 (.slice A1 xs.length c1) xs.length (memCells (sortS nameLt xs)) ∧ w1.grownBy w' (Value.slice A1 xs.length c1).ownBlock) :=
      fun A1 c1 w1 ho => nameSort_any A1 c1 w.heap.size xs w1 h12 ho
    have hZL : (sortS nameLt xs).length = xs.length := sortS_len nameLt xs
    clear HRE hx hn
    generalize sortS nameLt xs = zs at *
    go_enter Tryz.func20, Tryz.ntmps20
    go_wp2_with (first | (go_at_call 10; refine (Hv.out _ (Below.refl _ _)).mono ?_; rintro en w1 ⟨rfl, hb1⟩) | (go_at_call 51; refine (Hc.out _ hb1).mono ?_; rintro en w2 ⟨A2, c2, rfl, ho2, hg2⟩; have hb2 := below_grown (B := w1.heap.size) hg2 (Nat.le_refl _) (fun k h => by cases h)) | (go_at_call 52; refine (Hs.out _ _ _ (own_base (own_below ho2 (bnew (Below.refl _ _) (.cells #[] 3))) hb1.size)).mono ?_; rintro en w4 ⟨rfl, ho4, hg4⟩))
    have hb02 : Below w.heap.size w w2 := btr hb1 hb2
    have hbE := bnew hb02 (.cells #[] 3)
    have ho2' := own_below ho2 (bnew (Below.refl _ _) (.cells #[] 3))
    have hrow : ∀ k, (Value.slice A2 xs.length c2).ownBlock = some k → k < w2.heap.size := fun k hk => (ho2.lt k hk).2
    have hb4 : Below w.heap.size w w4 := hbE.grown hg4 hbE.size (fun k hk => Nat.le_trans hb1.size (ho2.lt k hk).1)
    have ho0 : w4.ownsRow w.heap.size 3 1 (.slice (some ⟨w2.heap.size, 0, none⟩) 0 0) 0 [] :=
      (own_lit (e := 3) (size := 1) (B := w.heap.size) (w := w2) #[] 0 hb02.size (by unfold maxLen; omega) rfl).kept hg4 (.inr (fun e => by have := hrow _ e.symm; simp at this))
    rw [← hZL] at ho4 hrow
    have hRT := own_rd ho4
    have HTb : Hid (∀ ad, A2 = some ad → ad.block < w2.heap.size) := fun ad e => hrow ad.block (by rw [e]; rfl)
    have HT0 : Hid (∀ ad, A2 = some ad → some ad.block ≠ (Value.slice (some ⟨w2.heap.size, 0, none⟩) 0 0).ownBlock) := fun ad e h => by
      have := HTb.out ad e
      simp [Value.ownBlock] at h; omega
    have hsz4 : w2.heap.size ≤ w4.heap.size := Nat.le_trans (by simp) hg4.size
    have hz12 : zs.length ≤ 12 := by omega
    rw [← hZL]
    clear hZL ho2 ho2' ho4 hb1 hb2 hg2 hg4 hbE hb02 hrow Hv Hc Hs
    go_loopw [5, 18] (fun out i wr => ∃ k : Nat, ∃ (A' : Option Addr) (c' : Nat) (L : List Int), k ≤ zs.length ∧ i = .int .i64 k ∧ out = .slice A' L.length c' ∧ Hid ((zs.take k).map (fun s : Mem => s.num) = L) ∧ L.length = k ∧ wr.ownsRow w.heap.size 3 1 (.slice A' L.length c') L.length (intCells L) ∧ Rd wr A2 (memCells zs) ∧ Hid (∀ ad, A2 = some ad → some ad.block ≠ (Value.slice A' L.length c').ownBlock) ∧ w2.heap.size ≤ wr.heap.size ∧ Below w.heap.size w wr) (fun _ i _ => zs.length - (intOf i).toNat)
    case atStart => exact ⟨0, some ⟨w2.heap.size, 0, none⟩, 0, [], by omega, rfl, rfl, rfl, rfl, ho0, hRT, HT0, hsz4, hb4⟩
    case round =>
      obtain ⟨k, A', c', L, hk, rfl, rfl, HP, hLk, ho, hT, HTn, hsz2, hb⟩ := hrel
      clear ho0 hRT HT0 hsz4 hb4
      by_cases hlt : k < zs.length
      · obtain ⟨b, off, rfl, d0, d1, d2⟩ := Rd.mem hT hlt
        have HN : Hid ((zs.take (k + 1)).map (fun s : Mem => s.num) = L ++ [zs[k].num]) := by show _ = _; rw [List.take_succ_eq_append_getElem hlt, List.map_append, HP.out]; rfl
        have hkI : (k : Int) < (zs.length : Int) := by omega
        generalize zs[k] = s at *
        clear HP
        have hbw := bnew (Below.refl wr.heap.size wr) (.cells #[.int .i64 s.num, .string s.name, .int .i64 s.off] 54)
        have n0 : (wr.alloc (.cells #[.int .i64 s.num, .string s.name, .int .i64 s.off] 54)).cell? ⟨wr.heap.size, 0, none⟩ = some (.int .i64 s.num) := (World.cell?_alloc_at _ _ _ _ rfl).trans rfl
        have hoq := own_below ho hbw
        have hTq := hT.below hbw
        have hbq := btr hb hbw
        clear ho hT hb hbw
        have hTW := hTq.alloc (.cells #[.int .i64 s.num] 3)
        have hszW : w2.heap.size ≤ ((wr.alloc (.cells #[.int .i64 s.num, .string s.name, .int .i64 s.off] 54)).alloc (.cells #[.int .i64 s.num] 3)).heap.size := by simp; omega
        have hbW := bnew hbq (.cells #[.int .i64 s.num] 3)
        have hoW := own_below hoq (bnew (Below.refl (wr.alloc (.cells #[.int .i64 s.num, .string s.name, .int .i64 s.off] 54)).heap.size (wr.alloc (.cells #[.int .i64 s.num, .string s.name, .int .i64 s.off] 54))) (.cells #[.int .i64 s.num] 3))
        have hrd : Rd ((wr.alloc (.cells #[.int .i64 s.num, .string s.name, .int .i64 s.off] 54)).alloc (.cells #[.int .i64 s.num] 3)) (some ⟨wr.heap.size + 1, 0, none⟩) [.int .i64 s.num] := by
          have := Rd.made (w := (wr.alloc (.cells #[.int .i64 s.num, .string s.name, .int .i64 s.off] 54))) (cs := #[.int .i64 s.num]) (t := 3)
          simpa using this
        go_wp2_with (at_builtin; go_must (refine wpl_app rfl (.tmp 22) (.tmp 25) 40 rfl el_Int (v := .slice A' L.length c') rfl hoW rfl rfl hrd (by simp [Value.oneCell']) (by unfold maxLen; omega) (by omega) hbW.size ?_); intro A1 c1 w5 ho1 hg1 hor; have hb3 : Below w.heap.size w w5 := hbW.grown hg1 hbW.size (fun k hk => (hoW.lt k hk).1); have hT3 := hTW.grown hg1 HTn.out; have hsz3 := Nat.le_trans hszW hg1.size; have HOR := Lib.hid hor; clear hor hg1)
        have HT3 : Hid (∀ ad, some (⟨b, off, none⟩ : Addr) = some ad → some ad.block ≠ (Value.slice A1 (L ++ [s.num]).length c1).ownBlock) := fun ad e => by
          have e2 : (Value.slice A1 (L ++ [s.num]).length c1).ownBlock = (Value.slice A1 (L.length + 1) c1).ownBlock := by simp
          rw [e2]
          rcases HOR.out with h | h
          · rw [h]; exact HTn.out ad e
          · rw [h]; intro h2
            have := HTb.out ad e
            simp at h2; omega
        clear HOR hoW hTW hrd hbW hoq hTq hszW
        go_roundw
        case rel => exact ⟨k + 1, A1, c1, L ++ [s.num], by omega, by go_num, by simp [hLk], HN, by simp; omega, by (rw [intCells_append]; simpa [intCells] using ho1), hT3, HT3, hsz3, hb3⟩
        case measure => simp [intOf]; omega
      · have HF : Hid (L = zs.map (fun s : Mem => s.num)) := by have := HP.out; rw [List.take_of_length_le (by omega)] at this; exact this.symm
        clear HP
        go_wp2
        exact bodyPost_ret (v := .tuple #[.slice A' L.length c', .bool true]) (by simp [results, Tryz.results20, go_sem] <;> omega) rfl ⟨A', c', by rw [HR.out, HF.out], by rw [HR.out, ← HF.out]; exact ho, hb⟩
  · have HR : Hid (r = ([], false)) := HRE.out.trans (if_neg hg)
    have hg' : goodMem xs = false := by simpa using hg
    clear HRE hx hn hg
    go_enter Tryz.func20, Tryz.ntmps20
    go_wp2_with (go_at_call 10; refine (Hv.out _ (Below.refl _ _)).mono ?_; rintro en w1 ⟨rfl, hb1⟩)
    exact bodyPost_ret (v := .tuple #[.slice none 0 0, .bool false]) (by simp [results, Tryz.results20, go_sem]) rfl ⟨none, 0, by rw [HR.out]; rfl, by rw [HR.out]; exact own_nil, hb1⟩
theorem below_drewN {n : Nat} {w w' : World} (h : Below n w w') (q : Nat) : Below n w (w'.drewN q) := by
  induction q generalizing w' with
  | zero => exact h
  | succ q ih => first | exact ih h.drew | exact (ih h).drew | exact ⟨h.os, h.tape, h.output, h.size, h.block⟩
set_option maxHeartbeats 16000000 in
set_option maxRecDepth 100000 in
theorem specByName_any (A : Option Addr) (c : Nat) (xs : List Mem) (w : World) (hn : xs.length ≤ maxLen) (hlc : xs.length ≤ c) (hx : Rd w A (memCells xs)) (hs : ∀ y ∈ xs, y.name.size ≤ maxLen) :
    Calls Tryz.prog 21 #[.slice A xs.length c] w fun en w' => ∃ A' c', en = .returned (.tuple #[.slice A' (byNameR xs).1.length c', .bool (byNameR xs).2]) ∧ w'.ownsRow w.heap.size 3 1 (.slice A' (byNameR xs).1.length c') (byNameR xs).1.length (intCells (byNameR xs).1) ∧ Below w.heap.size w w' := by
  obtain ⟨r, hr⟩ : ∃ r, r = byNameR xs := ⟨_, rfl⟩
  rw [← hr]
  have Hv : Hid (∀ w1, Below w.heap.size w w1 → Calls Tryz.prog 28 #[.slice A xs.length c] w1 fun e w' => e = .returned (.bool (goodMem xs)) ∧ Below w1.heap.size w1 w') :=
    fun w1 hb => l3Good_any A c xs w1 hn hlc (hx.below hb) hs
  unfold byNameR at hr
  have HRE := Lib.hid hr
  clear hr hs
  have hbA := bnew (Below.refl w.heap.size w) (.cells #[] 3)
  by_cases hg : goodMem xs = true
  · have HR : Hid (r = ((sortS nameLt xs).map (fun s : Mem => s.num), true)) := HRE.out.trans (if_pos hg)
    have h12 := goodMem_len' hg
    clear HRE hn
    go_enter Tryz.func21, Tryz.ntmps21
    go_wp2_with (go_at_call 28; refine (Hv.out _ hbA).mono ?_; rintro en w1 ⟨rfl, hb1⟩)
    have hb01 := btr hbA hb1
    have hb02 := bnew hb01 (.cells #[] 9)
    have ho0 := own_below (own_below (own_lit (e := 3) (size := 1) (B := w.heap.size) (w := w) #[] 0 (Nat.le_refl _) (by unfold maxLen; omega) rfl) hb1) (bnew (Below.refl _ _) (.cells #[] 9))
    have hp0 := own_lit (e := 9) (size := 1) (B := w.heap.size) (w := w1) #[] 0 hb01.size (by unfold maxLen; omega) rfl
    clear hb1 Hv hbA hb01
    go_loopw [4, 5, 6] (fun out nm i wr => ∃ k : Nat, ∃ (A' : Option Addr) (c' : Nat) (B' : Option Addr) (d' : Nat) (L : List Mem), k ≤ xs.length ∧ i = .int .i64 k ∧ out = .slice A' L.length c' ∧ nm = .slice B' L.length d' ∧ Hid (sortS nameLt (xs.take k) = L) ∧ L.length = k ∧ wr.ownsRow w.heap.size 3 1 (.slice A' L.length c') L.length (intCells (L.map (fun s : Mem => s.num))) ∧ wr.ownsRow w.heap.size 9 1 (.slice B' L.length d') L.length (sCells (L.map (fun s : Mem => s.name))) ∧ Below w.heap.size w wr) (fun _ _ i _ => xs.length - (intOf i).toNat)
    case atStart => exact ⟨0, some ⟨w.heap.size, 0, none⟩, 0, some ⟨w1.heap.size, 0, none⟩, 0, [], by omega, rfl, rfl, rfl, rfl, rfl, ho0, hp0, hb02⟩
    case round =>
      obtain ⟨k, A', c', B', d', L, hk, rfl, rfl, rfl, HS, hL, ho, hp, hb⟩ := hrel
      obtain ⟨wo, hwo⟩ : ∃ q, q = wr := ⟨_, rfl⟩
      subst hwo
      clear ho0 hp0 hb02
      by_cases hlt : k < xs.length
      · have HSn : Hid (sortS nameLt (xs.take (k + 1)) = insAt L (posR nameLt xs[k] L L.length) xs[k]) := by show _ = _; rw [sortS_at nameLt hlt, HS.out]
        obtain ⟨b, off, rfl, _, _, _⟩ := Rd.mem hx hlt
        have HXC : Hid (∀ w1, Below wo.heap.size wo w1 → w1.cell? ⟨b, off + k * 3, none⟩ = some (.int .i64 xs[k].num) ∧ w1.cell? ⟨b, off + k * 3 + 1, none⟩ = some (.string xs[k].name)) := fun w1 hb1 => by
          obtain ⟨b', off', e, c0, c1, c2⟩ := Rd.mem (hx.below (btr hb hb1)) hlt
          cases e
          exact ⟨c0, c1⟩
        generalize xs[k] = s at *
        have hkI : (k : Int) < (xs.length : Int) := by omega
        have hLk : L.length ≤ k := by omega
        have HL := Lib.hid hL
        clear hL
        go_wp2_with fail
        go_loopw [7] (fun q wj => ∃ j : Nat, j ≤ L.length ∧ q = .int .i64 j ∧ Hid (posR nameLt s L L.length = posR nameLt s L j) ∧ Below wo.heap.size wo wj) (fun q _ => (intOf q).toNat)
        case atStart => exact ⟨L.length, Nat.le_refl _, by go_num, rfl, Below.refl _ _⟩
        case round =>
          obtain ⟨j, hj, rfl, HJ, hbj⟩ := hrel
          have hL12 : L.length ≤ 12 := by omega
          by_cases h0 : j = 0
          · have hz : decide ((j : Int) > 0) = false := decide_eq_false (by omega)
            have hz' : ((0 : Int) < (j : Int)) = False := eq_false (by omega)
            have hz2 : (0 < j) = False := eq_false (by omega)
            have hz3 : decide (0 < j) = false := decide_eq_false (by omega)
            have HYS : Hid (sortS nameLt (xs.take (k + 1)) = insAt L j s) := by show _ = _; rw [HSn.out, HJ.out, h0]; rfl
            have H0 := Lib.hid h0
            clear HSn HJ h0
            go_wp2_with fail
            go_quiet (fail)
            go_wp2_with fail
            have hsz : Hid (w.heap.size ≤ (wr.drewN nq).heap.size) := Nat.le_trans hb.size hbj.size
            have hbw : Hid (Below w.heap.size w (wr.drewN nq)) := (below_drewN (btr hb hbj) nq)
            have ho' := own_below ho (below_drewN hbj nq)
            have hp' := own_below hp (below_drewN hbj nq)
            obtain ⟨c0, c1'⟩ := HXC.out _ (below_drewN hbj nq)
            obtain ⟨NS, hNS⟩ : ∃ q, q = (L.map (fun s : Mem => s.num)) := ⟨_, rfl⟩
            obtain ⟨SS, hSS⟩ : ∃ q, q = (L.map (fun s : Mem => s.name)) := ⟨_, rfl⟩
            have hNl : NS.length = L.length := by rw [hNS, List.length_map]
            have hSl : SS.length = L.length := by rw [hSS, List.length_map]
            have HYC : Hid (intCells ((insAt L j s).map (fun s : Mem => s.num)) = intCells (NS.take j) ++ [.int .i64 s.num] ++ intCells (NS.drop j)) := by show _ = _; rw [hNS]; simp [insAt, intCells, List.map_take, List.map_drop]
            have HYD : Hid (sCells ((insAt L j s).map (fun s : Mem => s.name)) = sCells (SS.take j) ++ [.string s.name] ++ sCells (SS.drop j)) := by show _ = _; rw [hSS]; simp [insAt, sCells, List.map_take, List.map_drop]
            have HYL : Hid ((insAt L j s).length = k + 1) := by show _ = _; rw [insAt_len _ _ _ hj, HL.out]
            have HYN : Hid (∀ (n : Nat), n = (insAt L j s).length → n = j + 1 + (L.length - j)) := fun n h => by rw [h, insAt_len _ _ _ hj]; omega
            rw [← hNS] at ho'
            rw [← hSS] at hp'
            clear hNS hSS
            generalize (wr.drewN nq) = w5 at *
            have HX0 := Lib.hid hx
            clear hx
            have hx := own_rd ho'
            have hy := own_rd hp'
            have hle := own_le ho'
            have hle2 := own_le hp'
            have hrf := Below.refl w5.heap.size w5
            clear ho hp hb hbj HXC ho' hp'
            have hpre := run_pre el_Int A' (n := L.length) (c := c') (k := j) (by omega)
            have hcut := run_cut el_Int A' (n := L.length) (c := c') (k := j) (by omega)
            have hT : Rd w5 A' (intCells (NS.take j)) := by have := hx.take (j * 1); rwa [intCells_take NS j (by omega)] at this
            have hD : Rd w5 (cutA A' c' j 1) (intCells (NS.drop j)) := by
              have := hx.cutA j 1 c' (by intro h; rw [intCells_len]; rw [Nat.mul_one]; omega)
              rwa [intCells_drop NS j (by omega)] at this
            have hT1 := intCells_one (NS.take j)
            have hTl : (intCells (NS.take j)).length = j * 1 := by rw [intCells_len, List.length_take, Nat.min_eq_left (by omega)]
            have hD1 := intCells_one (NS.drop j)
            have hDl : (intCells (NS.drop j)).length = (L.length - j) * 1 := by rw [intCells_len, List.length_drop, hNl]
            generalize intCells (NS.take j) = TC at *
            generalize intCells (NS.drop j) = DC at *
            generalize cutA A' c' j 1 = DA at *
            have HX1 : ∀ u ∈ ([.int .i64 s.num] : List Value), u.oneCell' = true := by simp [Value.oneCell']
            have bA := (bnew (Below.refl w5.heap.size w5) (.cells #[] 3)).drew
            have bB := (bnew (bnew (Below.refl w5.heap.size w5) (.cells #[] 3)) (.cells #[.int .i64 s.num] 3)).drew
            have bC := (bnew (bnew (Below.refl w5.heap.size w5) (.cells #[.int .i64 s.num] 3)) (.cells #[] 3)).drew
            have oA := (own_lit (e := 3) (size := 1) (B := w5.heap.size) (w := w5) #[] 0 (Nat.le_refl _) (by unfold maxLen; omega) rfl).drew
            have oB := (own_below (own_lit (e := 3) (size := 1) (B := w5.heap.size) (w := w5) #[] 0 (Nat.le_refl _) (by unfold maxLen; omega) rfl) (bnew (Below.refl (w5.alloc (.cells #[] 3)).heap.size (w5.alloc (.cells #[] 3))) (.cells #[.int .i64 s.num] 3))).drew
            have oC : ((w5.alloc (.cells #[.int .i64 s.num] 3)).alloc (.cells #[] 3)).drew.ownsRow w5.heap.size 3 1 (.slice (some ⟨w5.heap.size + 1, 0, none⟩) 0 0) 0 [] := by
              have := (own_lit (e := 3) (size := 1) (B := w5.heap.size) (w := w5.alloc (.cells #[.int .i64 s.num] 3)) #[] 0 (by simp) (by unfold maxLen; omega) rfl).drew
              simpa using this
            have xB : Rd ((w5.alloc (.cells #[] 3)).alloc (.cells #[.int .i64 s.num] 3)).drew (some ⟨w5.heap.size + 1, 0, none⟩) [.int .i64 s.num] := by
              have := (rd_new' (w5.alloc (.cells #[] 3)) #[.int .i64 s.num] 3).drew
              simpa using this
            have xC : Rd ((w5.alloc (.cells #[.int .i64 s.num] 3)).alloc (.cells #[] 3)).drew (some ⟨w5.heap.size, 0, none⟩) [.int .i64 s.num] := ((rd_new' w5 #[.int .i64 s.num] 3).alloc (.cells #[] 3)).drew
            have tW := hT.below hrf
            have tA := tW.below bA; have tB := tW.below bB; have tC := tW.below bC
            go_region_held3 (fun w' => (w'.cell? ⟨b, off + k * 3, none⟩ = some (.int .i64 s.num) ∧ w'.cell? ⟨b, off + k * 3 + 1, none⟩ = some (.string s.name))) ((first | assumption | go_keep)) ((first | (refine step_app (by rfl) (.tmp 50) (.tmp 53) 40 (by rfl) el_Int (v := .slice A2 (j + 1) c2) (by (first | rfl | exact congrArg (fun q => Value.slice A2 q c2) (Nat.zero_add j))) ho3 (by rfl) hDl hD4 hD1 (by unfold maxLen; omega) (by omega) hb4.size ?_; intro A5 c5 w5 ho5 hg5 _; have hb5 := hb4.grown hg5 hb4.size (fun q hq => (ho3.lt q hq).1); have hS5 : (w5.cell? ⟨b, off + k * 3, none⟩ = some (.int .i64 s.num) ∧ w5.cell? ⟨b, off + k * 3 + 1, none⟩ = some (.string s.name)) := ⟨My.cell_below' c0 hb5, My.cell_below' c1' hb5⟩) | (refine step_app (by rfl) (.tmp 43) (.tmp 49) 40 (by rfl) el_Int (v := .slice A1 j c1) (by (first | rfl | exact congrArg (fun q => Value.slice A1 q c1) (Nat.zero_add j))) o2 (by rfl) rfl x2 HX1 (by unfold maxLen; omega) (by omega) b2.size ?_; intro A2 c2 w4 ho3 hg2 _; have hb4 := b2.grown hg2 b2.size (fun q hq => (o2.lt q hq).1); have hD4 := (hD.below hrf).below hb4; have hS4 : (w4.cell? ⟨b, off + k * 3, none⟩ = some (.int .i64 s.num) ∧ w4.cell? ⟨b, off + k * 3 + 1, none⟩ = some (.string s.name)) := ⟨My.cell_below' c0 hb4, My.cell_below' c1' hb4⟩) | (refine step_app (by rfl) (.tmp 39) (.tmp 42) 40 (by rfl) el_Int (v := .slice (some ⟨w5.heap.size, 0, none⟩) 0 0) (by (first | rfl | exact congrArg (fun q => Value.slice none q 0) (Nat.zero_add 0))) oB (by rfl) hTl tB hT1 (by unfold maxLen; omega) (by omega) bB.size ?_; intro A1 c1 w3 ho1 hg1 _; have b2 := bB.grown hg1 bB.size (fun q hq => (oB.lt q hq).1); simp only [Nat.zero_add, List.nil_append] at ho1; have o2 := ho1; have x2 := xB.grown hg1 (fun ad h => by cases h; simp [Value.ownBlock]); have hS3 : (w3.cell? ⟨b, off + k * 3, none⟩ = some (.int .i64 s.num) ∧ w3.cell? ⟨b, off + k * 3 + 1, none⟩ = some (.string s.name)) := ⟨My.cell_below' c0 b2, My.cell_below' c1' b2⟩; clear ho1) | (refine step_app (by rfl) (.tmp 39) (.tmp 42) 40 (by rfl) el_Int (v := .slice (some ⟨w5.heap.size + 1, 0, none⟩) 0 0) (by (first | rfl | exact congrArg (fun q => Value.slice none q 0) (Nat.zero_add 0))) oC (by rfl) hTl tC hT1 (by unfold maxLen; omega) (by omega) bC.size ?_; intro A1 c1 w3 ho1 hg1 _; have b2 := bC.grown hg1 bC.size (fun q hq => (oC.lt q hq).1); simp only [Nat.zero_add, List.nil_append] at ho1; have o2 := ho1; have x2 := xC.grown hg1 (fun ad h => by cases h; simp [Value.ownBlock]); have hS3 : (w3.cell? ⟨b, off + k * 3, none⟩ = some (.int .i64 s.num) ∧ w3.cell? ⟨b, off + k * 3 + 1, none⟩ = some (.string s.name)) := ⟨My.cell_below' c0 b2, My.cell_below' c1' b2⟩; clear ho1) | (refine step_app (by rfl) (.tmp 39) (.tmp 42) 40 (by rfl) el_Int (v := .slice (some ⟨w5.heap.size, 0, none⟩) 0 0) (by (first | rfl | exact congrArg (fun q => Value.slice none q 0) (Nat.zero_add 0))) oA (by rfl) hTl tA hT1 (by unfold maxLen; omega) (by omega) bA.size ?_; intro A1 c1 w3 ho1 hg1 _; have hb3 := bA.grown hg1 bA.size (fun q hq => (oA.lt q hq).1); simp only [Nat.zero_add, List.nil_append] at ho1; have b2 := bnew hb3 (.cells #[.int .i64 s.num] 3); have o2 := own_below ho1 (bnew (Below.refl w3.heap.size w3) (.cells #[.int .i64 s.num] 3)); have x2 := rd_new' w3 #[.int .i64 s.num] 3; have hS3 : (w3.cell? ⟨b, off + k * 3, none⟩ = some (.int .i64 s.num) ∧ w3.cell? ⟨b, off + k * 3 + 1, none⟩ = some (.string s.name)) := ⟨My.cell_below' c0 hb3, My.cell_below' c1' hb3⟩; clear ho1)))
            all_goals
              go_wp2_with fail
              have hL5 := HYN.out _ rfl
              obtain ⟨A6, hA6⟩ : ∃ q, q = A5 := ⟨_, rfl⟩
              obtain ⟨c6, hc6⟩ : ∃ q, q = c5 := ⟨_, rfl⟩
              obtain ⟨w7, hw7⟩ : ∃ q, q = w5 := ⟨_, rfl⟩
              subst hA6 hc6 hw7
              have ho6 := ho5
              have hb6 := hb5
              have e1' : w7.cell? ⟨b, off + k * 3 + 1, none⟩ = some (.string s.name) := My.cell_below' c1' hb5
              have hy7 := hy.below hb5
              clear hT hD hT1 hTl hD1 hDl hpre hcut hx c0 c1' hrf ho5 hb5 hy
              have hx := hy7
              clear hy7
              have hle := hle2
              have hrf := Below.refl w7.heap.size w7
              have hpre := run_pre el_Str B' (n := L.length) (c := d') (k := j) (by omega)
              have hcut := run_cut el_Str B' (n := L.length) (c := d') (k := j) (by omega)
              have hT : Rd w7 B' (sCells (SS.take j)) := by have := hx.take (j * 1); rwa [sCells_take SS j (by omega)] at this
              have hD : Rd w7 (cutA B' d' j 1) (sCells (SS.drop j)) := by
                have := hx.cutA j 1 d' (by intro h; rw [sCells_len]; rw [Nat.mul_one]; omega)
                rwa [sCells_drop SS j (by omega)] at this
              have hT1 := sCells_one (SS.take j)
              have hTl : (sCells (SS.take j)).length = j * 1 := by rw [sCells_len, List.length_take, Nat.min_eq_left (by omega)]
              have hD1 := sCells_one (SS.drop j)
              have hDl : (sCells (SS.drop j)).length = (L.length - j) * 1 := by rw [sCells_len, List.length_drop, hSl]
              generalize sCells (SS.take j) = TC at *
              generalize sCells (SS.drop j) = DC at *
              generalize cutA B' d' j 1 = DA at *
              have HX1 : ∀ u ∈ ([.string s.name] : List Value), u.oneCell' = true := by simp [Value.oneCell']
              have bA := (bnew (Below.refl w7.heap.size w7) (.cells #[] 9)).drew
              have bB := (bnew (bnew (Below.refl w7.heap.size w7) (.cells #[] 9)) (.cells #[.string s.name] 9)).drew
              have bC := (bnew (bnew (Below.refl w7.heap.size w7) (.cells #[.string s.name] 9)) (.cells #[] 9)).drew
              have oA := (own_lit (e := 9) (size := 1) (B := w7.heap.size) (w := w7) #[] 0 (Nat.le_refl _) (by unfold maxLen; omega) rfl).drew
              have oB := (own_below (own_lit (e := 9) (size := 1) (B := w7.heap.size) (w := w7) #[] 0 (Nat.le_refl _) (by unfold maxLen; omega) rfl) (bnew (Below.refl (w7.alloc (.cells #[] 9)).heap.size (w7.alloc (.cells #[] 9))) (.cells #[.string s.name] 9))).drew
              have oC : ((w7.alloc (.cells #[.string s.name] 9)).alloc (.cells #[] 9)).drew.ownsRow w7.heap.size 9 1 (.slice (some ⟨w7.heap.size + 1, 0, none⟩) 0 0) 0 [] := by
                have := (own_lit (e := 9) (size := 1) (B := w7.heap.size) (w := w7.alloc (.cells #[.string s.name] 9)) #[] 0 (by simp) (by unfold maxLen; omega) rfl).drew
                simpa using this
              have xB : Rd ((w7.alloc (.cells #[] 9)).alloc (.cells #[.string s.name] 9)).drew (some ⟨w7.heap.size + 1, 0, none⟩) [.string s.name] := by
                have := (rd_new' (w7.alloc (.cells #[] 9)) #[.string s.name] 9).drew
                simpa using this
              have xC : Rd ((w7.alloc (.cells #[.string s.name] 9)).alloc (.cells #[] 9)).drew (some ⟨w7.heap.size, 0, none⟩) [.string s.name] := ((rd_new' w7 #[.string s.name] 9).alloc (.cells #[] 9)).drew
              have tW := hT.below hrf
              have tA := tW.below bA; have tB := tW.below bB; have tC := tW.below bC
              go_region_held3 (fun w' => (w'.cell? ⟨b, off + k * 3 + 1, none⟩ = some (.string s.name))) ((first | assumption | go_keep)) ((first | (refine step_app (by rfl) (.tmp 66) (.tmp 69) 51 (by rfl) el_Str (v := .slice A2 (j + 1) c2) (by (first | rfl | exact congrArg (fun q => Value.slice A2 q c2) (Nat.zero_add j))) ho3 (by rfl) hDl hD4 hD1 (by unfold maxLen; omega) (by omega) hb4.size ?_; intro A5 c5 w5 ho5 hg5 _; have hb5 := hb4.grown hg5 hb4.size (fun q hq => (ho3.lt q hq).1); have hS5 : (w5.cell? ⟨b, off + k * 3 + 1, none⟩ = some (.string s.name)) := My.cell_below' e1' hb5) | (refine step_app (by rfl) (.tmp 59) (.tmp 65) 51 (by rfl) el_Str (v := .slice A1 j c1) (by (first | rfl | exact congrArg (fun q => Value.slice A1 q c1) (Nat.zero_add j))) o2 (by rfl) rfl x2 HX1 (by unfold maxLen; omega) (by omega) b2.size ?_; intro A2 c2 w4 ho3 hg2 _; have hb4 := b2.grown hg2 b2.size (fun q hq => (o2.lt q hq).1); have hD4 := (hD.below hrf).below hb4; have hS4 : (w4.cell? ⟨b, off + k * 3 + 1, none⟩ = some (.string s.name)) := My.cell_below' e1' hb4) | (refine step_app (by rfl) (.tmp 55) (.tmp 58) 51 (by rfl) el_Str (v := .slice (some ⟨w7.heap.size, 0, none⟩) 0 0) (by (first | rfl | exact congrArg (fun q => Value.slice none q 0) (Nat.zero_add 0))) oB (by rfl) hTl tB hT1 (by unfold maxLen; omega) (by omega) bB.size ?_; intro A1 c1 w3 ho1 hg1 _; have b2 := bB.grown hg1 bB.size (fun q hq => (oB.lt q hq).1); simp only [Nat.zero_add, List.nil_append] at ho1; have o2 := ho1; have x2 := xB.grown hg1 (fun ad h => by cases h; simp [Value.ownBlock]); have hS3 : (w3.cell? ⟨b, off + k * 3 + 1, none⟩ = some (.string s.name)) := My.cell_below' e1' b2; clear ho1) | (refine step_app (by rfl) (.tmp 55) (.tmp 58) 51 (by rfl) el_Str (v := .slice (some ⟨w7.heap.size + 1, 0, none⟩) 0 0) (by (first | rfl | exact congrArg (fun q => Value.slice none q 0) (Nat.zero_add 0))) oC (by rfl) hTl tC hT1 (by unfold maxLen; omega) (by omega) bC.size ?_; intro A1 c1 w3 ho1 hg1 _; have b2 := bC.grown hg1 bC.size (fun q hq => (oC.lt q hq).1); simp only [Nat.zero_add, List.nil_append] at ho1; have o2 := ho1; have x2 := xC.grown hg1 (fun ad h => by cases h; simp [Value.ownBlock]); have hS3 : (w3.cell? ⟨b, off + k * 3 + 1, none⟩ = some (.string s.name)) := My.cell_below' e1' b2; clear ho1) | (refine step_app (by rfl) (.tmp 55) (.tmp 58) 51 (by rfl) el_Str (v := .slice (some ⟨w7.heap.size, 0, none⟩) 0 0) (by (first | rfl | exact congrArg (fun q => Value.slice none q 0) (Nat.zero_add 0))) oA (by rfl) hTl tA hT1 (by unfold maxLen; omega) (by omega) bA.size ?_; intro A1 c1 w3 ho1 hg1 _; have hb3 := bA.grown hg1 bA.size (fun q hq => (oA.lt q hq).1); simp only [Nat.zero_add, List.nil_append] at ho1; have b2 := bnew hb3 (.cells #[.string s.name] 9); have o2 := own_below ho1 (bnew (Below.refl w3.heap.size w3) (.cells #[.string s.name] 9)); have x2 := rd_new' w3 #[.string s.name] 9; have hS3 : (w3.cell? ⟨b, off + k * 3 + 1, none⟩ = some (.string s.name)) := My.cell_below' e1' hb3; clear ho1)))
              all_goals
                rw [← HYC.out, ← hL5] at ho6
                rw [← HYD.out, ← hL5] at ho5
                have ho8 := own_below ho6 hb5
                have hb8 := btr hb6 hb5
                go_wp2
                go_roundw
                case rel => exact ⟨k + 1, A6, c6, A5, c5, insAt L j s, by omega, by go_num, by rw [← hL5], by rw [← hL5], HYS, HYL.out, own_base ho8 hsz.out, own_base ho5 (Nat.le_trans hsz.out hb6.size), btr hbw.out hb8⟩
                case measure => simp [intOf]; omega
          · obtain ⟨jp, hjp⟩ : ∃ jp, j = jp + 1 := ⟨j - 1, by omega⟩
            have hz : decide ((j : Int) > 0) = true := decide_eq_true (by omega)
            have hz' : (0 : Int) < (j : Int) := by omega
            have hz2 : 0 < j := by omega
            have hjl : jp < L.length := by omega
            have hjs : jp < (L.map (fun s : Mem => s.name)).length := by rw [List.length_map]; exact hjl
            obtain ⟨b2, off2, hB2, y1⟩ := Rd.strs (own_rd (own_below hp hbj)) hjs
            rw [List.getElem_map] at y1
            obtain ⟨x0, x1⟩ := HXC.out _ hbj
            have hP := posR_at nameLt s hjl
            rw [← hjp] at hP
            have hw1 : wrap64 ((j : Int) - 1) = (jp : Int) := by
              have := IntKind.wrap_i64 ((j : Int) - 1)
              unfold wrap64; omega
            have hw2 : IntKind.i64.wrap ((j : Int) - 1) = (jp : Int) := by rw [IntKind.wrap_i64]; omega
            have hjI : (jp : Int) < (L.length : Int) := by omega
            have HLT := Lib.hid (nameLess_eq s L[jp])
            generalize L[jp] = y at *
            subst hB2
            have hjj : jp < j := by omega
            have HJP := Lib.hid hjp
            clear hjp x0
            by_cases hq : nameLt s y = true
            · have hq' : Op.bytesLess s.name.toList y.name.toList = true := HLT.out.trans hq
              have HJ2 : Hid (posR nameLt s L L.length = posR nameLt s L jp) := by show _ = _; rw [HJ.out, hP, if_pos hq]
              clear hP HJ HSn HS hq HLT
              go_wp2_with fail
              go_quiet (fail)
              go_wp2
              go_roundw
              case rel => exact ⟨jp, by omega, by go_num, HJ2, below_drewN hbj _⟩
              case measure => simp [intOf]; omega
            · have hq' : Op.bytesLess s.name.toList y.name.toList = false := HLT.out.trans (by simpa using hq)
              have HYS : Hid (sortS nameLt (xs.take (k + 1)) = insAt L j s) := by show _ = _; rw [HSn.out, HJ.out, hP, if_neg hq]
              clear HSn HJ hP hq HLT
              have X1 := Lib.hid x1
              have Y1 := Lib.hid y1
              go_wp2_with fail
              go_quiet (fail)
              go_wp2_with fail
              have hsz : Hid (w.heap.size ≤ (wr.drewN nq).heap.size) := Nat.le_trans hb.size hbj.size
              have hbw : Hid (Below w.heap.size w (wr.drewN nq)) := (below_drewN (btr hb hbj) nq)
              have ho' := own_below ho (below_drewN hbj nq)
              have hp' := own_below hp (below_drewN hbj nq)
              obtain ⟨c0, c1'⟩ := HXC.out _ (below_drewN hbj nq)
              obtain ⟨NS, hNS⟩ : ∃ q, q = (L.map (fun s : Mem => s.num)) := ⟨_, rfl⟩
              obtain ⟨SS, hSS⟩ : ∃ q, q = (L.map (fun s : Mem => s.name)) := ⟨_, rfl⟩
              have hNl : NS.length = L.length := by rw [hNS, List.length_map]
              have hSl : SS.length = L.length := by rw [hSS, List.length_map]
              have HYC : Hid (intCells ((insAt L j s).map (fun s : Mem => s.num)) = intCells (NS.take j) ++ [.int .i64 s.num] ++ intCells (NS.drop j)) := by show _ = _; rw [hNS]; simp [insAt, intCells, List.map_take, List.map_drop]
              have HYD : Hid (sCells ((insAt L j s).map (fun s : Mem => s.name)) = sCells (SS.take j) ++ [.string s.name] ++ sCells (SS.drop j)) := by show _ = _; rw [hSS]; simp [insAt, sCells, List.map_take, List.map_drop]
              have HYL : Hid ((insAt L j s).length = k + 1) := by show _ = _; rw [insAt_len _ _ _ hj, HL.out]
              have HYN : Hid (∀ (n : Nat), n = (insAt L j s).length → n = j + 1 + (L.length - j)) := fun n h => by rw [h, insAt_len _ _ _ hj]; omega
              rw [← hNS] at ho'
              rw [← hSS] at hp'
              clear hNS hSS
              generalize (wr.drewN nq) = w5 at *
              have HX0 := Lib.hid hx
              clear hx
              have hx := own_rd ho'
              have hy := own_rd hp'
              have hle := own_le ho'
              have hle2 := own_le hp'
              have hrf := Below.refl w5.heap.size w5
              clear ho hp hb hbj HXC ho' hp'
              generalize (some ⟨b2, off2, none⟩ : Option Addr) = B' at *
              have hpre := run_pre el_Int A' (n := L.length) (c := c') (k := j) (by omega)
              have hcut := run_cut el_Int A' (n := L.length) (c := c') (k := j) (by omega)
              have hT : Rd w5 A' (intCells (NS.take j)) := by have := hx.take (j * 1); rwa [intCells_take NS j (by omega)] at this
              have hD : Rd w5 (cutA A' c' j 1) (intCells (NS.drop j)) := by
                have := hx.cutA j 1 c' (by intro h; rw [intCells_len]; rw [Nat.mul_one]; omega)
                rwa [intCells_drop NS j (by omega)] at this
              have hT1 := intCells_one (NS.take j)
              have hTl : (intCells (NS.take j)).length = j * 1 := by rw [intCells_len, List.length_take, Nat.min_eq_left (by omega)]
              have hD1 := intCells_one (NS.drop j)
              have hDl : (intCells (NS.drop j)).length = (L.length - j) * 1 := by rw [intCells_len, List.length_drop, hNl]
              generalize intCells (NS.take j) = TC at *
              generalize intCells (NS.drop j) = DC at *
              generalize cutA A' c' j 1 = DA at *
              have HX1 : ∀ u ∈ ([.int .i64 s.num] : List Value), u.oneCell' = true := by simp [Value.oneCell']
              have bA := (bnew (Below.refl w5.heap.size w5) (.cells #[] 3)).drew
              have bB := (bnew (bnew (Below.refl w5.heap.size w5) (.cells #[] 3)) (.cells #[.int .i64 s.num] 3)).drew
              have bC := (bnew (bnew (Below.refl w5.heap.size w5) (.cells #[.int .i64 s.num] 3)) (.cells #[] 3)).drew
              have oA := (own_lit (e := 3) (size := 1) (B := w5.heap.size) (w := w5) #[] 0 (Nat.le_refl _) (by unfold maxLen; omega) rfl).drew
              have oB := (own_below (own_lit (e := 3) (size := 1) (B := w5.heap.size) (w := w5) #[] 0 (Nat.le_refl _) (by unfold maxLen; omega) rfl) (bnew (Below.refl (w5.alloc (.cells #[] 3)).heap.size (w5.alloc (.cells #[] 3))) (.cells #[.int .i64 s.num] 3))).drew
              have oC : ((w5.alloc (.cells #[.int .i64 s.num] 3)).alloc (.cells #[] 3)).drew.ownsRow w5.heap.size 3 1 (.slice (some ⟨w5.heap.size + 1, 0, none⟩) 0 0) 0 [] := by
                have := (own_lit (e := 3) (size := 1) (B := w5.heap.size) (w := w5.alloc (.cells #[.int .i64 s.num] 3)) #[] 0 (by simp) (by unfold maxLen; omega) rfl).drew
                simpa using this
              have xB : Rd ((w5.alloc (.cells #[] 3)).alloc (.cells #[.int .i64 s.num] 3)).drew (some ⟨w5.heap.size + 1, 0, none⟩) [.int .i64 s.num] := by
                have := (rd_new' (w5.alloc (.cells #[] 3)) #[.int .i64 s.num] 3).drew
                simpa using this
              have xC : Rd ((w5.alloc (.cells #[.int .i64 s.num] 3)).alloc (.cells #[] 3)).drew (some ⟨w5.heap.size, 0, none⟩) [.int .i64 s.num] := ((rd_new' w5 #[.int .i64 s.num] 3).alloc (.cells #[] 3)).drew
              have tW := hT.below hrf
              have tA := tW.below bA; have tB := tW.below bB; have tC := tW.below bC
              go_region_held3 (fun w' => (w'.cell? ⟨b, off + k * 3, none⟩ = some (.int .i64 s.num) ∧ w'.cell? ⟨b, off + k * 3 + 1, none⟩ = some (.string s.name))) ((first | assumption | go_keep)) ((first | (refine step_app (by rfl) (.tmp 50) (.tmp 53) 40 (by rfl) el_Int (v := .slice A2 (j + 1) c2) (by (first | rfl | exact congrArg (fun q => Value.slice A2 q c2) (Nat.zero_add j))) ho3 (by rfl) hDl hD4 hD1 (by unfold maxLen; omega) (by omega) hb4.size ?_; intro A5 c5 w5 ho5 hg5 _; have hb5 := hb4.grown hg5 hb4.size (fun q hq => (ho3.lt q hq).1); have hS5 : (w5.cell? ⟨b, off + k * 3, none⟩ = some (.int .i64 s.num) ∧ w5.cell? ⟨b, off + k * 3 + 1, none⟩ = some (.string s.name)) := ⟨My.cell_below' c0 hb5, My.cell_below' c1' hb5⟩) | (refine step_app (by rfl) (.tmp 43) (.tmp 49) 40 (by rfl) el_Int (v := .slice A1 j c1) (by (first | rfl | exact congrArg (fun q => Value.slice A1 q c1) (Nat.zero_add j))) o2 (by rfl) rfl x2 HX1 (by unfold maxLen; omega) (by omega) b2.size ?_; intro A2 c2 w4 ho3 hg2 _; have hb4 := b2.grown hg2 b2.size (fun q hq => (o2.lt q hq).1); have hD4 := (hD.below hrf).below hb4; have hS4 : (w4.cell? ⟨b, off + k * 3, none⟩ = some (.int .i64 s.num) ∧ w4.cell? ⟨b, off + k * 3 + 1, none⟩ = some (.string s.name)) := ⟨My.cell_below' c0 hb4, My.cell_below' c1' hb4⟩) | (refine step_app (by rfl) (.tmp 39) (.tmp 42) 40 (by rfl) el_Int (v := .slice (some ⟨w5.heap.size, 0, none⟩) 0 0) (by (first | rfl | exact congrArg (fun q => Value.slice none q 0) (Nat.zero_add 0))) oB (by rfl) hTl tB hT1 (by unfold maxLen; omega) (by omega) bB.size ?_; intro A1 c1 w3 ho1 hg1 _; have b2 := bB.grown hg1 bB.size (fun q hq => (oB.lt q hq).1); simp only [Nat.zero_add, List.nil_append] at ho1; have o2 := ho1; have x2 := xB.grown hg1 (fun ad h => by cases h; simp [Value.ownBlock]); have hS3 : (w3.cell? ⟨b, off + k * 3, none⟩ = some (.int .i64 s.num) ∧ w3.cell? ⟨b, off + k * 3 + 1, none⟩ = some (.string s.name)) := ⟨My.cell_below' c0 b2, My.cell_below' c1' b2⟩; clear ho1) | (refine step_app (by rfl) (.tmp 39) (.tmp 42) 40 (by rfl) el_Int (v := .slice (some ⟨w5.heap.size + 1, 0, none⟩) 0 0) (by (first | rfl | exact congrArg (fun q => Value.slice none q 0) (Nat.zero_add 0))) oC (by rfl) hTl tC hT1 (by unfold maxLen; omega) (by omega) bC.size ?_; intro A1 c1 w3 ho1 hg1 _; have b2 := bC.grown hg1 bC.size (fun q hq => (oC.lt q hq).1); simp only [Nat.zero_add, List.nil_append] at ho1; have o2 := ho1; have x2 := xC.grown hg1 (fun ad h => by cases h; simp [Value.ownBlock]); have hS3 : (w3.cell? ⟨b, off + k * 3, none⟩ = some (.int .i64 s.num) ∧ w3.cell? ⟨b, off + k * 3 + 1, none⟩ = some (.string s.name)) := ⟨My.cell_below' c0 b2, My.cell_below' c1' b2⟩; clear ho1) | (refine step_app (by rfl) (.tmp 39) (.tmp 42) 40 (by rfl) el_Int (v := .slice (some ⟨w5.heap.size, 0, none⟩) 0 0) (by (first | rfl | exact congrArg (fun q => Value.slice none q 0) (Nat.zero_add 0))) oA (by rfl) hTl tA hT1 (by unfold maxLen; omega) (by omega) bA.size ?_; intro A1 c1 w3 ho1 hg1 _; have hb3 := bA.grown hg1 bA.size (fun q hq => (oA.lt q hq).1); simp only [Nat.zero_add, List.nil_append] at ho1; have b2 := bnew hb3 (.cells #[.int .i64 s.num] 3); have o2 := own_below ho1 (bnew (Below.refl w3.heap.size w3) (.cells #[.int .i64 s.num] 3)); have x2 := rd_new' w3 #[.int .i64 s.num] 3; have hS3 : (w3.cell? ⟨b, off + k * 3, none⟩ = some (.int .i64 s.num) ∧ w3.cell? ⟨b, off + k * 3 + 1, none⟩ = some (.string s.name)) := ⟨My.cell_below' c0 hb3, My.cell_below' c1' hb3⟩; clear ho1)))
              all_goals
                go_wp2_with fail
                have hL5 := HYN.out _ rfl
                obtain ⟨A6, hA6⟩ : ∃ q, q = A5 := ⟨_, rfl⟩
                obtain ⟨c6, hc6⟩ : ∃ q, q = c5 := ⟨_, rfl⟩
                obtain ⟨w7, hw7⟩ : ∃ q, q = w5 := ⟨_, rfl⟩
                subst hA6 hc6 hw7
                have ho6 := ho5
                have hb6 := hb5
                have e1' : w7.cell? ⟨b, off + k * 3 + 1, none⟩ = some (.string s.name) := My.cell_below' c1' hb5
                have hy7 := hy.below hb5
                clear hT hD hT1 hTl hD1 hDl hpre hcut hx c0 c1' hrf ho5 hb5 hy
                have hx := hy7
                clear hy7
                have hle := hle2
                have hrf := Below.refl w7.heap.size w7
                have hpre := run_pre el_Str B' (n := L.length) (c := d') (k := j) (by omega)
                have hcut := run_cut el_Str B' (n := L.length) (c := d') (k := j) (by omega)
                have hT : Rd w7 B' (sCells (SS.take j)) := by have := hx.take (j * 1); rwa [sCells_take SS j (by omega)] at this
                have hD : Rd w7 (cutA B' d' j 1) (sCells (SS.drop j)) := by
                  have := hx.cutA j 1 d' (by intro h; rw [sCells_len]; rw [Nat.mul_one]; omega)
                  rwa [sCells_drop SS j (by omega)] at this
                have hT1 := sCells_one (SS.take j)
                have hTl : (sCells (SS.take j)).length = j * 1 := by rw [sCells_len, List.length_take, Nat.min_eq_left (by omega)]
                have hD1 := sCells_one (SS.drop j)
                have hDl : (sCells (SS.drop j)).length = (L.length - j) * 1 := by rw [sCells_len, List.length_drop, hSl]
                generalize sCells (SS.take j) = TC at *
                generalize sCells (SS.drop j) = DC at *
                generalize cutA B' d' j 1 = DA at *
                have HX1 : ∀ u ∈ ([.string s.name] : List Value), u.oneCell' = true := by simp [Value.oneCell']
                have bA := (bnew (Below.refl w7.heap.size w7) (.cells #[] 9)).drew
                have bB := (bnew (bnew (Below.refl w7.heap.size w7) (.cells #[] 9)) (.cells #[.string s.name] 9)).drew
                have bC := (bnew (bnew (Below.refl w7.heap.size w7) (.cells #[.string s.name] 9)) (.cells #[] 9)).drew
                have oA := (own_lit (e := 9) (size := 1) (B := w7.heap.size) (w := w7) #[] 0 (Nat.le_refl _) (by unfold maxLen; omega) rfl).drew
                have oB := (own_below (own_lit (e := 9) (size := 1) (B := w7.heap.size) (w := w7) #[] 0 (Nat.le_refl _) (by unfold maxLen; omega) rfl) (bnew (Below.refl (w7.alloc (.cells #[] 9)).heap.size (w7.alloc (.cells #[] 9))) (.cells #[.string s.name] 9))).drew
                have oC : ((w7.alloc (.cells #[.string s.name] 9)).alloc (.cells #[] 9)).drew.ownsRow w7.heap.size 9 1 (.slice (some ⟨w7.heap.size + 1, 0, none⟩) 0 0) 0 [] := by
                  have := (own_lit (e := 9) (size := 1) (B := w7.heap.size) (w := w7.alloc (.cells #[.string s.name] 9)) #[] 0 (by simp) (by unfold maxLen; omega) rfl).drew
                  simpa using this
                have xB : Rd ((w7.alloc (.cells #[] 9)).alloc (.cells #[.string s.name] 9)).drew (some ⟨w7.heap.size + 1, 0, none⟩) [.string s.name] := by
                  have := (rd_new' (w7.alloc (.cells #[] 9)) #[.string s.name] 9).drew
                  simpa using this
                have xC : Rd ((w7.alloc (.cells #[.string s.name] 9)).alloc (.cells #[] 9)).drew (some ⟨w7.heap.size, 0, none⟩) [.string s.name] := ((rd_new' w7 #[.string s.name] 9).alloc (.cells #[] 9)).drew
                have tW := hT.below hrf
                have tA := tW.below bA; have tB := tW.below bB; have tC := tW.below bC
                go_region_held3 (fun w' => (w'.cell? ⟨b, off + k * 3 + 1, none⟩ = some (.string s.name))) ((first | assumption | go_keep)) ((first | (refine step_app (by rfl) (.tmp 66) (.tmp 69) 51 (by rfl) el_Str (v := .slice A2 (j + 1) c2) (by (first | rfl | exact congrArg (fun q => Value.slice A2 q c2) (Nat.zero_add j))) ho3 (by rfl) hDl hD4 hD1 (by unfold maxLen; omega) (by omega) hb4.size ?_; intro A5 c5 w5 ho5 hg5 _; have hb5 := hb4.grown hg5 hb4.size (fun q hq => (ho3.lt q hq).1); have hS5 : (w5.cell? ⟨b, off + k * 3 + 1, none⟩ = some (.string s.name)) := My.cell_below' e1' hb5) | (refine step_app (by rfl) (.tmp 59) (.tmp 65) 51 (by rfl) el_Str (v := .slice A1 j c1) (by (first | rfl | exact congrArg (fun q => Value.slice A1 q c1) (Nat.zero_add j))) o2 (by rfl) rfl x2 HX1 (by unfold maxLen; omega) (by omega) b2.size ?_; intro A2 c2 w4 ho3 hg2 _; have hb4 := b2.grown hg2 b2.size (fun q hq => (o2.lt q hq).1); have hD4 := (hD.below hrf).below hb4; have hS4 : (w4.cell? ⟨b, off + k * 3 + 1, none⟩ = some (.string s.name)) := My.cell_below' e1' hb4) | (refine step_app (by rfl) (.tmp 55) (.tmp 58) 51 (by rfl) el_Str (v := .slice (some ⟨w7.heap.size, 0, none⟩) 0 0) (by (first | rfl | exact congrArg (fun q => Value.slice none q 0) (Nat.zero_add 0))) oB (by rfl) hTl tB hT1 (by unfold maxLen; omega) (by omega) bB.size ?_; intro A1 c1 w3 ho1 hg1 _; have b2 := bB.grown hg1 bB.size (fun q hq => (oB.lt q hq).1); simp only [Nat.zero_add, List.nil_append] at ho1; have o2 := ho1; have x2 := xB.grown hg1 (fun ad h => by cases h; simp [Value.ownBlock]); have hS3 : (w3.cell? ⟨b, off + k * 3 + 1, none⟩ = some (.string s.name)) := My.cell_below' e1' b2; clear ho1) | (refine step_app (by rfl) (.tmp 55) (.tmp 58) 51 (by rfl) el_Str (v := .slice (some ⟨w7.heap.size + 1, 0, none⟩) 0 0) (by (first | rfl | exact congrArg (fun q => Value.slice none q 0) (Nat.zero_add 0))) oC (by rfl) hTl tC hT1 (by unfold maxLen; omega) (by omega) bC.size ?_; intro A1 c1 w3 ho1 hg1 _; have b2 := bC.grown hg1 bC.size (fun q hq => (oC.lt q hq).1); simp only [Nat.zero_add, List.nil_append] at ho1; have o2 := ho1; have x2 := xC.grown hg1 (fun ad h => by cases h; simp [Value.ownBlock]); have hS3 : (w3.cell? ⟨b, off + k * 3 + 1, none⟩ = some (.string s.name)) := My.cell_below' e1' b2; clear ho1) | (refine step_app (by rfl) (.tmp 55) (.tmp 58) 51 (by rfl) el_Str (v := .slice (some ⟨w7.heap.size, 0, none⟩) 0 0) (by (first | rfl | exact congrArg (fun q => Value.slice none q 0) (Nat.zero_add 0))) oA (by rfl) hTl tA hT1 (by unfold maxLen; omega) (by omega) bA.size ?_; intro A1 c1 w3 ho1 hg1 _; have hb3 := bA.grown hg1 bA.size (fun q hq => (oA.lt q hq).1); simp only [Nat.zero_add, List.nil_append] at ho1; have b2 := bnew hb3 (.cells #[.string s.name] 9); have o2 := own_below ho1 (bnew (Below.refl w3.heap.size w3) (.cells #[.string s.name] 9)); have x2 := rd_new' w3 #[.string s.name] 9; have hS3 : (w3.cell? ⟨b, off + k * 3 + 1, none⟩ = some (.string s.name)) := My.cell_below' e1' hb3; clear ho1)))
                all_goals
                  rw [← HYC.out, ← hL5] at ho6
                  rw [← HYD.out, ← hL5] at ho5
                  have ho8 := own_below ho6 hb5
                  have hb8 := btr hb6 hb5
                  go_wp2
                  go_roundw
                  case rel => exact ⟨k + 1, A6, c6, A5, c5, insAt L j s, by omega, by go_num, by rw [← hL5], by rw [← hL5], HYS, HYL.out, own_base ho8 hsz.out, own_base ho5 (Nat.le_trans hsz.out hb6.size), btr hbw.out hb8⟩
                  case measure => simp [intOf]; omega
      · have HF : Hid (L = sortS nameLt xs) := by have := HS.out; rw [List.take_of_length_le (by omega)] at this; exact this.symm
        clear HS
        go_wp2
        exact bodyPost_ret (v := .tuple #[.slice A' L.length c', .bool true]) (by simp [results, Tryz.results21, go_sem]) rfl ⟨A', c', by rw [HR.out, ← HF.out, List.length_map], by rw [HR.out, ← HF.out, List.length_map]; exact ho, hb⟩
  · have HR : Hid (r = ([], false)) := HRE.out.trans (if_neg hg)
    have hg' : goodMem xs = false := by simpa using hg
    clear HRE hx hn hg
    go_enter Tryz.func21, Tryz.ntmps21
    go_wp2_with (go_at_call 28; refine (Hv.out _ hbA).mono ?_; rintro en w1 ⟨rfl, hb1⟩)
    exact bodyPost_ret (v := .tuple #[.slice (some ⟨w.heap.size, 0, none⟩) 0 0, .bool false]) (by simp [results, Tryz.results21, go_sem]) rfl ⟨some ⟨w.heap.size, 0, none⟩, 0, by rw [HR.out]; rfl, by rw [HR.out]; exact own_below (own_lit (e := 3) (size := 1) (B := w.heap.size) (w := w) #[] 0 (Nat.le_refl _) (by unfold maxLen; omega) rfl) hb1, btr hbA hb1⟩
end Go.Proofs.YtngheildmhimoaaGreatDoor
