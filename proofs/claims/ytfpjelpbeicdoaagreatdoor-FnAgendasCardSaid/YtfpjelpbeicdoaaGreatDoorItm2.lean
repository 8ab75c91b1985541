/-
  Contracts of itemTimes and l5Times: when the items begin, when the last one ends. Conditions: a valid agenda and a minute of the day.
-/
import Derived.Test.YtfpjelpbeicdoaaGreatDoorItm
import Derived.Test.YtfpjelpbeicdoaaGreatDoorIntS
namespace Go.My
open Go.RowKit
def timesL (t : Int) : List Itm → List Int
  | [] => []
  | x :: r => max t x.time :: timesL (max t x.time + x.mins) r
def endT (t : Int) : List Itm → Int
  | [] => t
  | x :: r => endT (max t x.time + x.mins) r
theorem endT_append (t : Int) (xs : List Itm) (x : Itm) : endT t (xs ++ [x]) = max (endT t xs) x.time + x.mins := by
  induction xs generalizing t with
  | nil => rfl
  | cons y r ih => simp only [List.cons_append, endT]; exact ih _
theorem timesL_append (t : Int) (xs : List Itm) (x : Itm) : timesL t (xs ++ [x]) = timesL t xs ++ [max (endT t xs) x.time] := by
  induction xs generalizing t with
  | nil => rfl
  | cons y r ih => simp only [List.cons_append, endT, timesL]; rw [ih]
theorem timesL_len (t : Int) (xs : List Itm) : (timesL t xs).length = xs.length := by
  induction xs generalizing t with
  | nil => rfl
  | cons y r ih => simp [timesL, ih]
theorem endT_at {t : Int} {xs : List Itm} {k : Nat} (hk : k < xs.length) : endT t (xs.take (k + 1)) = max (endT t (xs.take k)) xs[k].time + xs[k].mins := by
  rw [List.take_succ_eq_append_getElem hk, endT_append]
theorem timesL_at {t : Int} {xs : List Itm} {k : Nat} (hk : k < xs.length) : timesL t (xs.take (k + 1)) = timesL t (xs.take k) ++ [max (endT t (xs.take k)) xs[k].time] := by
  rw [List.take_succ_eq_append_getElem hk, timesL_append]
/-- What a valid agenda's items lie in. -/
theorem goodItm_in {xs : List Itm} (h : goodItm xs = true) : xs.length ≤ 10 ∧ ∀ s ∈ xs, 1 ≤ s.mins ∧ s.mins ≤ 240 ∧ -1 ≤ s.time ∧ s.time ≤ 1439 := by
  simp only [goodItm, Bool.and_eq_true, decide_eq_true_eq] at h
  refine ⟨h.2, fun s hs => ?_⟩
  obtain ⟨ys, hy⟩ := goodPre_all h.1 s hs
  simp only [itmFits, itmOk, Bool.and_eq_true, Bool.or_eq_true, decide_eq_true_eq, inB] at hy
  omega
theorem endT_in {t : Int} {xs : List Itm} (h0 : 0 ≤ t) (h1 : t ≤ 1439) (h : ∀ s ∈ xs, 1 ≤ s.mins ∧ s.mins ≤ 240 ∧ -1 ≤ s.time ∧ s.time ≤ 1439) : t ≤ endT t xs ∧ endT t xs ≤ 1439 + 240 * xs.length := by
  suffices ∀ (n : Nat) (t : Int), 0 ≤ t → t ≤ 1439 + 240 * n → t ≤ endT t xs ∧ endT t xs ≤ 1439 + 240 * (n + xs.length) by
    have := this 0 t h0 (by omega); omega
  clear h0 h1 t
  induction xs with
  | nil => intro n t _ h1; simp [endT]; omega
  | cons x r ih =>
    intro n t h0 h1
    have hx := h x (by simp)
    have := ih (fun s hs => h s (by simp [hs])) (n + 1) (max t x.time + x.mins) (by omega) (by omega)
    simp only [endT, List.length_cons]
    omega
theorem rd_new (w : World) (cs : Array Value) (e : TypeId) : Rd (w.alloc (.cells cs e)) (some ⟨w.heap.size, 0, none⟩) cs.toList := by
  refine .inr ⟨_, _, rfl, fun j hj => ?_⟩
  rw [Nat.zero_add, World.cell?_alloc_at _ _ _ _ rfl]
  simp only [Array.length_toList] at hj
  simp [hj]
theorem own_ne' {w : World} {B : Nat} {e : TypeId} {size n : Nat} {v : Value} {xs : List Value} (h : w.ownsRow B e size v n xs) : some w.heap.size ≠ v.ownBlock := fun e => by have := (h.lt _ e.symm).2; omega
end Go.My
namespace Go.My
def sumM : List Itm → Int
  | [] => 0
  | x :: r => x.mins + sumM r
theorem sumM_append (xs : List Itm) (x : Itm) : sumM (xs ++ [x]) = sumM xs + x.mins := by
  induction xs with
  | nil => simp [sumM]
  | cons y r ih => simp only [List.cons_append, sumM, ih]; omega
theorem sumM_at {xs : List Itm} {k : Nat} (hk : k < xs.length) : sumM (xs.take (k + 1)) = sumM (xs.take k) + xs[k].mins := by
  rw [List.take_succ_eq_append_getElem hk, sumM_append]
theorem sumM_in {xs : List Itm} (h : ∀ s ∈ xs, 1 ≤ s.mins ∧ s.mins ≤ 240 ∧ -1 ≤ s.time ∧ s.time ≤ 1439) : 0 ≤ sumM xs ∧ sumM xs ≤ 240 * xs.length := by
  induction xs with
  | nil => simp [sumM]
  | cons x r ih =>
    have hx := h x (by simp)
    have := ih (fun s hs => h s (by simp [hs]))
    simp only [sumM, List.length_cons]
    omega
def endR (xs : List Itm) (t : Int) : Int × Bool := if meets xs t = true then (endT t xs, true) else (0, false)
def idleR (xs : List Itm) (t : Int) : Int × Bool := if meets xs t = true then (endT t xs - t - sumM xs, true) else (0, false)
def timesR (xs : List Itm) (t : Int) : List Int × Bool := if meets xs t = true then (timesL t xs, true) else ([], false)
end Go.My
namespace Go.Proofs.YtfpjelpbeicdoaaGreatDoor
open Go.RowKit Go.My
set_option maxHeartbeats 1000000 in
theorem itemTimes_any (A : Option Addr) (c : Nat) (xs : List Itm) (t : Int) (w : World) (h0 : 0 ≤ t) (h1 : t ≤ 1439) (hn : xs.length ≤ 10) (hx : Rd w A (itmCells xs)) (hs : ∀ s ∈ xs, 1 ≤ s.mins ∧ s.mins ≤ 240 ∧ -1 ≤ s.time ∧ s.time ≤ 1439) :
    Calls Tryz.prog 25 #[.slice A xs.length c, .int .i64 t] w fun e w' => ∃ A' c', e = .returned (.tuple #[.slice A' xs.length c', .int .i64 (endT t xs)]) ∧ w'.ownsRow w.heap.size 3 1 (.slice A' xs.length c') xs.length (intCells (timesL t xs)) ∧ Below w.heap.size w w' := by
  have ho0 := own_lit (e := 3) (size := 1) (B := w.heap.size) (w := w) #[] 0 (by simp) (by unfold maxLen; omega) rfl
  have hb0 := bnew (Below.refl w.heap.size w) (.cells #[] 3)
  go_enter Tryz.func25, Tryz.ntmps25
  go_wp2
  go_loopw [1, 6, 13] (fun st out i wr => ∃ k : Nat, ∃ m : Int, ∃ (A' : Option Addr) (c' : Nat), k ≤ xs.length ∧ i = .int .i64 k ∧ st = .int .i64 m ∧ out = .slice A' k c' ∧ 0 ≤ m ∧ m ≤ 100000 ∧ Hid (endT t (xs.take k) = m) ∧ wr.ownsRow w.heap.size 3 1 (.slice A' k c') k (intCells (timesL t (xs.take k))) ∧ Below w.heap.size w wr) (fun _ _ i _ => xs.length - (intOf i).toNat)
  case atStart => exact ⟨0, t, _, _, by omega, rfl, rfl, rfl, h0, by omega, rfl, ho0, hb0⟩
  case round =>
    obtain ⟨k, m, A', c', hk, rfl, rfl, rfl, hm0, hm1, Hm, ho, hb⟩ := hrel
    clear ho0 hb0
    by_cases hlt : k < xs.length
    · obtain ⟨b, off, rfl, c0, c1, c2, c3⟩ := Rd.itm (hx.below hb) hlt
      have hin := hs xs[k] (List.getElem_mem _)
      have HE := Lib.hid (endT_at (t := t) hlt)
      have HL := Lib.hid (timesL_at (t := t) hlt)
      have hend := endT_in (xs := xs.take (k + 1)) h0 h1 (fun s hs' => hs s (List.mem_of_mem_take hs'))
      have hlk : (xs.take (k + 1)).length ≤ 10 := by rw [List.length_take]; omega
      rw [HE.out, Hm.out] at hend
      generalize xs[k] = s at *
      obtain ⟨bg, hbg⟩ : ∃ bg, bg = max m s.time := ⟨_, rfl⟩
      rw [← hbg] at hend
      have hbg0 : 0 ≤ bg ∧ bg ≤ 100000 := by omega
      have HN : Hid (intCells (timesL t (xs.take (k + 1))) = intCells (timesL t (xs.take k)) ++ [.int .i64 bg]) := by
        show _ = _
        rw [HL.out, Hm.out, ← hbg, intCells_append]; rfl
      have HM : Hid (endT t (xs.take (k + 1)) = bg + s.mins) := by
        show _ = _
        rw [HE.out, Hm.out, ← hbg]
      clear HE HL Hm
      have HBG := Lib.hid hbg
      clear hbg
      by_cases hmt : m < s.time
      · have hbe : bg = s.time := by have := HBG.out; omega
        subst hbe
        have hcell : ∀ {w1 : World}, ((wr.alloc (.cells #[.int .i64 s.id, .string s.title, .int .i64 s.mins, .int .i64 s.time] 34)).alloc (.cells #[.int .i64 s.time] 3)).grownBy w1 (Value.slice A' k c').ownBlock → w1.cell? ⟨wr.heap.size, 2, none⟩ = some (.int .i64 s.mins) := fun hg => hg.cell ((World.cell?_alloc_past _ _ _ (by simp)).trans ((World.cell?_alloc_at _ _ _ _ rfl).trans rfl)) (own_ne' ho)
        have hbW : Below w.heap.size w ((wr.alloc (.cells #[.int .i64 s.id, .string s.title, .int .i64 s.mins, .int .i64 s.time] 34)).alloc (.cells #[.int .i64 s.time] 3)) := bnew (bnew hb _) _
        have hoW : ((wr.alloc (.cells #[.int .i64 s.id, .string s.title, .int .i64 s.mins, .int .i64 s.time] 34)).alloc (.cells #[.int .i64 s.time] 3)).ownsRow w.heap.size 3 1 (.slice A' k c') k (intCells (timesL t (xs.take k))) := own_below ho (bnew (bnew (Below.refl _ _) _) _)
        have hrd : Rd ((wr.alloc (.cells #[.int .i64 s.id, .string s.title, .int .i64 s.mins, .int .i64 s.time] 34)).alloc (.cells #[.int .i64 s.time] 3)) (some ⟨wr.heap.size + 1, 0, none⟩) [.int .i64 s.time] := by
          have := rd_new (wr.alloc (.cells #[.int .i64 s.id, .string s.title, .int .i64 s.mins, .int .i64 s.time] 34)) #[.int .i64 s.time] 3
          simpa using this
        go_wp2_with (at_builtin; refine wpl_app rfl (.tmp 21) (.tmp 23) 27 rfl el_Int (v := .slice A' k c') rfl hoW rfl rfl hrd (by simp [Value.oneCell']) (by unfold maxLen; omega) (by omega) hbW.size ?_; intro A1 c1 w1 ho1 hg1 _; have x0 := (hcell hg1))
        have hb1 : Below w.heap.size w w1 := hbW.grown hg1 hbW.size (fun k hk => (hoW.lt k hk).1)
        clear hoW hbW hrd hg1
        go_roundw
        case rel => exact ⟨k + 1, s.time + s.mins, _, _, by omega, by go_num, by go_num, rfl, by omega, by omega, HM, (by rw [HN.out]; exact ho1), hb1⟩
        case measure => simp [intOf]; omega
      · have hbe : bg = m := by have := HBG.out; omega
        subst hbe
        have hcell : ∀ {w1 : World}, ((wr.alloc (.cells #[.int .i64 s.id, .string s.title, .int .i64 s.mins, .int .i64 s.time] 34)).alloc (.cells #[.int .i64 bg] 3)).grownBy w1 (Value.slice A' k c').ownBlock → w1.cell? ⟨wr.heap.size, 2, none⟩ = some (.int .i64 s.mins) := fun hg => hg.cell ((World.cell?_alloc_past _ _ _ (by simp)).trans ((World.cell?_alloc_at _ _ _ _ rfl).trans rfl)) (own_ne' ho)
        have hbW : Below w.heap.size w ((wr.alloc (.cells #[.int .i64 s.id, .string s.title, .int .i64 s.mins, .int .i64 s.time] 34)).alloc (.cells #[.int .i64 bg] 3)) := bnew (bnew hb _) _
        have hoW : ((wr.alloc (.cells #[.int .i64 s.id, .string s.title, .int .i64 s.mins, .int .i64 s.time] 34)).alloc (.cells #[.int .i64 bg] 3)).ownsRow w.heap.size 3 1 (.slice A' k c') k (intCells (timesL t (xs.take k))) := own_below ho (bnew (bnew (Below.refl _ _) _) _)
        have hrd : Rd ((wr.alloc (.cells #[.int .i64 s.id, .string s.title, .int .i64 s.mins, .int .i64 s.time] 34)).alloc (.cells #[.int .i64 bg] 3)) (some ⟨wr.heap.size + 1, 0, none⟩) [.int .i64 bg] := by
          have := rd_new (wr.alloc (.cells #[.int .i64 s.id, .string s.title, .int .i64 s.mins, .int .i64 s.time] 34)) #[.int .i64 bg] 3
          simpa using this
        go_wp2_with (at_builtin; refine wpl_app rfl (.tmp 21) (.tmp 23) 27 rfl el_Int (v := .slice A' k c') rfl hoW rfl rfl hrd (by simp [Value.oneCell']) (by unfold maxLen; omega) (by omega) hbW.size ?_; intro A1 c1 w1 ho1 hg1 _; have x0 := (hcell hg1))
        have hb1 : Below w.heap.size w w1 := hbW.grown hg1 hbW.size (fun k hk => (hoW.lt k hk).1)
        clear hoW hbW hrd hg1
        go_roundw
        case rel => exact ⟨k + 1, bg + s.mins, _, _, by omega, by go_num, by go_num, rfl, by omega, by omega, HM, (by rw [HN.out]; exact ho1), hb1⟩
        case measure => simp [intOf]; omega

    · have HK := Lib.hid (show xs.take k = xs from List.take_of_length_le (by omega))
      have hkn : k = xs.length := by omega
      subst hkn
      rw [HK.out] at ho
      have HM := Lib.hid (Hm.out.symm.trans (by rw [HK.out]))
      go_wp2
      exact bodyPost_ret (v := .tuple #[.slice A' xs.length c', .int .i64 m]) (by simp [results, Tryz.results25, go_sem]) rfl ⟨A', c', by rw [HM.out], ho, hb⟩
set_option maxHeartbeats 1000000 in
theorem l5Times_any (A : Option Addr) (c : Nat) (xs : List Itm) (t : Int) (w : World) (h0 : 0 ≤ t) (h1 : t ≤ 1439) (hn : xs.length ≤ 10) (hx : Rd w A (itmCells xs)) (hs : ∀ s ∈ xs, 1 ≤ s.mins ∧ s.mins ≤ 240 ∧ -1 ≤ s.time ∧ s.time ≤ 1439) :
    Calls Tryz.prog 27 #[.slice A xs.length c, .int .i64 t] w fun e w' => ∃ A' c', e = .returned (.tuple #[.slice A' xs.length c', .int .i64 (endT t xs)]) ∧ w'.ownsRow w.heap.size 3 1 (.slice A' xs.length c') xs.length (intCells (timesL t xs)) ∧ Below w.heap.size w w' := by
  have ho0 := own_lit (e := 3) (size := 1) (B := w.heap.size) (w := w) #[] 0 (by simp) (by unfold maxLen; omega) rfl
  have hb0 := bnew (Below.refl w.heap.size w) (.cells #[] 3)
  go_enter Tryz.func27, Tryz.ntmps27
  go_wp2
  go_loopw [6, 7, 8] (fun out st i wr => ∃ k : Nat, ∃ m : Int, ∃ (A' : Option Addr) (c' : Nat), k ≤ xs.length ∧ i = .int .i64 k ∧ st = .int .i64 m ∧ out = .slice A' k c' ∧ 0 ≤ m ∧ m ≤ 100000 ∧ Hid (endT t (xs.take k) = m) ∧ wr.ownsRow w.heap.size 3 1 (.slice A' k c') k (intCells (timesL t (xs.take k))) ∧ Below w.heap.size w wr) (fun _ _ i _ => xs.length - (intOf i).toNat)
  case atStart => exact ⟨0, t, _, _, by omega, rfl, rfl, rfl, h0, by omega, rfl, ho0, hb0⟩
  case round =>
    obtain ⟨k, m, A', c', hk, rfl, rfl, rfl, hm0, hm1, Hm, ho, hb⟩ := hrel
    clear ho0 hb0
    by_cases hlt : k < xs.length
    · obtain ⟨b, off, rfl, c0, c1, c2, c3⟩ := Rd.itm (hx.below hb) hlt
      have hin := hs xs[k] (List.getElem_mem _)
      have HE := Lib.hid (endT_at (t := t) hlt)
      have HL := Lib.hid (timesL_at (t := t) hlt)
      have hend := endT_in (xs := xs.take (k + 1)) h0 h1 (fun s hs' => hs s (List.mem_of_mem_take hs'))
      have hlk : (xs.take (k + 1)).length ≤ 10 := by rw [List.length_take]; omega
      rw [HE.out, Hm.out] at hend
      generalize xs[k] = s at *
      obtain ⟨bg, hbg⟩ : ∃ bg, bg = max m s.time := ⟨_, rfl⟩
      rw [← hbg] at hend
      have hbg0 : 0 ≤ bg ∧ bg ≤ 100000 := by omega
      have HN : Hid (intCells (timesL t (xs.take (k + 1))) = intCells (timesL t (xs.take k)) ++ [.int .i64 bg]) := by
        show _ = _
        rw [HL.out, Hm.out, ← hbg, intCells_append]; rfl
      have HM : Hid (endT t (xs.take (k + 1)) = bg + s.mins) := by
        show _ = _
        rw [HE.out, Hm.out, ← hbg]
      clear HE HL Hm
      have HBG := Lib.hid hbg
      clear hbg
      have hbl : b < w.heap.size := by
        obtain ⟨b9, off9, e9, d0, -⟩ := Rd.itm hx hlt
        have : b9 = b := by simp at e9; exact e9.1.symm
        rw [← this]; exact World.block_lt_of_cell? _ _ d0
      have HMO : Hid (∀ w9 : World, Calls Tryz.prog 49 #[.int .i64 m, .int .i64 s.time] w9 fun e w' => e = .returned (.int .i64 bg) ∧ w9 = w') := fun w9 => by rw [HBG.out]; exact l1Most_any m s.time w9
      have hcell : ∀ {w1 : World}, (wr.alloc (.cells #[.int .i64 bg] 3)).grownBy w1 (Value.slice A' k c').ownBlock → w1.cell? ⟨b, off + k * 4 + 2, none⟩ = some (.int .i64 s.mins) := fun hg => hg.cell ((World.cell?_alloc_past _ _ _ (World.block_lt_of_cell? _ _ c2)).trans c2) (own_ne ho hbl)
      have hbW : Below w.heap.size w ((wr).alloc (.cells #[.int .i64 bg] 3)) := bnew hb _
      have hoW : ((wr).alloc (.cells #[.int .i64 bg] 3)).ownsRow w.heap.size 3 1 (.slice A' k c') k (intCells (timesL t (xs.take k))) := own_below ho (bnew (Below.refl _ _) _)
      have hrd : Rd ((wr).alloc (.cells #[.int .i64 bg] 3)) (some ⟨wr.heap.size, 0, none⟩) [.int .i64 bg] := by
        have := rd_new (wr) #[.int .i64 bg] 3
        simpa using this
      go_wp2_with (first | (go_at_call 49; refine (HMO.out _).mono ?_; rintro e w9 ⟨rfl, rfl⟩) | (at_builtin; refine wpl_app rfl (.tmp 24) (.tmp 26) 27 rfl el_Int (v := .slice A' k c') rfl hoW rfl rfl hrd (by simp [Value.oneCell']) (by unfold maxLen; omega) (by omega) hbW.size ?_; intro A1 c1 w1 ho1 hg1 _; have x0 := hcell hg1))
      have hb1 : Below w.heap.size w w1 := hbW.grown hg1 hbW.size (fun k hk => (hoW.lt k hk).1)
      clear hoW hbW hrd hg1
      go_roundw
      case rel => exact ⟨k + 1, bg + s.mins, _, _, by omega, by go_num, by go_num, rfl, by omega, by omega, HM, (by rw [HN.out]; exact ho1), hb1⟩
      case measure => simp [intOf]; omega

    · have HK := Lib.hid (show xs.take k = xs from List.take_of_length_le (by omega))
      have hkn : k = xs.length := by omega
      subst hkn
      rw [HK.out] at ho
      have HM := Lib.hid (Hm.out.symm.trans (by rw [HK.out]))
      go_wp2
      exact bodyPost_ret (v := .tuple #[.slice A' xs.length c', .int .i64 m]) (by simp [results, Tryz.results27, go_sem]) rfl ⟨A', c', by rw [HM.out], ho, hb⟩
set_option maxHeartbeats 1000000 in
theorem end_any (A : Option Addr) (c : Nat) (xs : List Itm) (t : Int) (w : World) (hn : xs.length ≤ maxLen) (hlc : xs.length ≤ c) (hx : Rd w A (itmCells xs)) (hs : ∀ s ∈ xs, s.title.size ≤ maxLen) :
    Calls Tryz.prog 9 #[.slice A xs.length c, .int .i64 t] w fun e w' => e = .returned (.tuple #[.int .i64 (endR xs t).1, .bool (endR xs t).2]) ∧ Below w.heap.size w w' := by
  obtain ⟨r, hr⟩ : ∃ r, r = endR xs t := ⟨_, rfl⟩
  rw [← hr]
  have Ha := Lib.hid (isMeeting_any A c xs t w hn hlc hx hs)
  by_cases hm : meets xs t = true
  · have hg : goodItm xs = true := by simp only [meets, Bool.and_eq_true] at hm; exact hm.1
    have ht : 0 ≤ t ∧ t ≤ 1439 := by simp only [meets, Bool.and_eq_true, inB, decide_eq_true_eq] at hm; exact hm.2
    obtain ⟨h10, hin⟩ := goodItm_in hg
    have Ht : Hid (∀ w1 : World, Below w.heap.size w w1 → Calls Tryz.prog 25 #[.slice A xs.length c, .int .i64 t] w1 fun e w' => ∃ A' c', e = .returned (.tuple #[.slice A' xs.length c', .int .i64 (endT t xs)]) ∧ w'.ownsRow w1.heap.size 3 1 (.slice A' xs.length c') xs.length (intCells (timesL t xs)) ∧ Below w1.heap.size w1 w') :=
      fun w1 hb => itemTimes_any A c xs t w1 ht.1 ht.2 h10 (hx.below hb) hin
    have hend := endT_in ht.1 ht.2 hin
    have HR : Hid (r = _) := hr.trans (if_pos hm)
    have hx1 := hx
    have Hin := Lib.hid hin
    clear hr hs hx hn hg hin
    obtain ⟨m, hm'⟩ : ∃ m, m = endT t xs := ⟨_, rfl⟩
    rw [← hm'] at Ht hend
    try rw [← hm'] at HR
    have HM := Lib.hid hm'
    clear hm'
    go_enter Tryz.func9, Tryz.ntmps9
    go_wp2_with (first | (go_at_call 24; refine Ha.out.mono ?_; rintro e w1 ⟨rfl, hb1⟩) | (go_at_call 25; refine (Ht.out _ hb1).mono ?_; rintro e w2 ⟨A2, c2, rfl, ho2, hb2⟩))
    exact bodyPost_ret (v := .tuple #[.int .i64 m, .bool true]) (by simp [results, Tryz.results9, go_sem]) rfl ⟨by rw [HR.out], btr hb1 hb2⟩
  · have HR : Hid (r = _) := hr.trans (if_neg hm)
    have hm' : meets xs t = false := by simpa using hm
    clear hr hs hx hn hm
    go_enter Tryz.func9, Tryz.ntmps9
    go_wp2_with (go_at_call 24; refine Ha.out.mono ?_; rintro e w1 ⟨rfl, hb1⟩)
    exact bodyPost_ret (v := .tuple #[.int .i64 0, .bool false]) (by simp [results, Tryz.results9, go_sem]) rfl ⟨by rw [HR.out], hb1⟩
set_option maxHeartbeats 1000000 in
theorem specEnd_any (A : Option Addr) (c : Nat) (xs : List Itm) (t : Int) (w : World) (hn : xs.length ≤ maxLen) (hlc : xs.length ≤ c) (hx : Rd w A (itmCells xs)) (hs : ∀ s ∈ xs, s.title.size ≤ maxLen) :
    Calls Tryz.prog 11 #[.slice A xs.length c, .int .i64 t] w fun e w' => e = .returned (.tuple #[.int .i64 (endR xs t).1, .bool (endR xs t).2]) ∧ Below w.heap.size w w' := by
  obtain ⟨r, hr⟩ : ∃ r, r = endR xs t := ⟨_, rfl⟩
  rw [← hr]
  have Ha := Lib.hid (l5Asked_any A c xs t w hn hlc hx hs)
  by_cases hm : meets xs t = true
  · have hg : goodItm xs = true := by simp only [meets, Bool.and_eq_true] at hm; exact hm.1
    have ht : 0 ≤ t ∧ t ≤ 1439 := by simp only [meets, Bool.and_eq_true, inB, decide_eq_true_eq] at hm; exact hm.2
    obtain ⟨h10, hin⟩ := goodItm_in hg
    have Ht : Hid (∀ w1 : World, Below w.heap.size w w1 → Calls Tryz.prog 27 #[.slice A xs.length c, .int .i64 t] w1 fun e w' => ∃ A' c', e = .returned (.tuple #[.slice A' xs.length c', .int .i64 (endT t xs)]) ∧ w'.ownsRow w1.heap.size 3 1 (.slice A' xs.length c') xs.length (intCells (timesL t xs)) ∧ Below w1.heap.size w1 w') :=
      fun w1 hb => l5Times_any A c xs t w1 ht.1 ht.2 h10 (hx.below hb) hin
    have hend := endT_in ht.1 ht.2 hin
    have HR : Hid (r = _) := hr.trans (if_pos hm)
    have hx1 := hx
    have Hin := Lib.hid hin
    clear hr hs hx hn hg hin
    obtain ⟨m, hm'⟩ : ∃ m, m = endT t xs := ⟨_, rfl⟩
    rw [← hm'] at Ht hend
    try rw [← hm'] at HR
    have HM := Lib.hid hm'
    clear hm'
    go_enter Tryz.func11, Tryz.ntmps11
    go_wp2_with (first | (go_at_call 26; refine Ha.out.mono ?_; rintro e w1 ⟨rfl, hb1⟩) | (go_at_call 27; refine (Ht.out _ hb1).mono ?_; rintro e w2 ⟨A2, c2, rfl, ho2, hb2⟩))
    exact bodyPost_ret (v := .tuple #[.int .i64 m, .bool true]) (by simp [results, Tryz.results11, go_sem]) rfl ⟨by rw [HR.out], btr hb1 hb2⟩
  · have HR : Hid (r = _) := hr.trans (if_neg hm)
    have hm' : meets xs t = false := by simpa using hm
    clear hr hs hx hn hm
    go_enter Tryz.func11, Tryz.ntmps11
    go_wp2_with (go_at_call 26; refine Ha.out.mono ?_; rintro e w1 ⟨rfl, hb1⟩)
    exact bodyPost_ret (v := .tuple #[.int .i64 0, .bool false]) (by simp [results, Tryz.results11, go_sem]) rfl ⟨by rw [HR.out], hb1⟩
set_option maxHeartbeats 1000000 in
theorem times_any (A : Option Addr) (c : Nat) (xs : List Itm) (t : Int) (w : World) (hn : xs.length ≤ maxLen) (hlc : xs.length ≤ c) (hx : Rd w A (itmCells xs)) (hs : ∀ s ∈ xs, s.title.size ≤ maxLen) :
    Calls Tryz.prog 6 #[.slice A xs.length c, .int .i64 t] w fun e w' => ∃ A' c', e = .returned (.tuple #[.slice A' (timesR xs t).1.length c', .bool (timesR xs t).2]) ∧ w'.ownsRow w.heap.size 3 1 (.slice A' (timesR xs t).1.length c') (timesR xs t).1.length (intCells (timesR xs t).1) ∧ Below w.heap.size w w' := by
  obtain ⟨r, hr⟩ : ∃ r, r = timesR xs t := ⟨_, rfl⟩
  rw [← hr]
  have Ha := Lib.hid (isMeeting_any A c xs t w hn hlc hx hs)
  by_cases hm : meets xs t = true
  · have hg : goodItm xs = true := by simp only [meets, Bool.and_eq_true] at hm; exact hm.1
    have ht : 0 ≤ t ∧ t ≤ 1439 := by simp only [meets, Bool.and_eq_true, inB, decide_eq_true_eq] at hm; exact hm.2
    obtain ⟨h10, hin⟩ := goodItm_in hg
    have Ht : Hid (∀ w1 : World, Below w.heap.size w w1 → Calls Tryz.prog 25 #[.slice A xs.length c, .int .i64 t] w1 fun e w' => ∃ A' c', e = .returned (.tuple #[.slice A' xs.length c', .int .i64 (endT t xs)]) ∧ w'.ownsRow w1.heap.size 3 1 (.slice A' xs.length c') xs.length (intCells (timesL t xs)) ∧ Below w1.heap.size w1 w') :=
      fun w1 hb => itemTimes_any A c xs t w1 ht.1 ht.2 h10 (hx.below hb) hin
    have hend := endT_in ht.1 ht.2 hin
    have HR : Hid (r = _) := hr.trans (if_pos hm)
    have hx1 := hx
    have Hin := Lib.hid hin
    clear hr hs hx hn hg hin
    obtain ⟨m, hm'⟩ : ∃ m, m = endT t xs := ⟨_, rfl⟩
    rw [← hm'] at Ht hend
    try rw [← hm'] at HR
    have HM := Lib.hid hm'
    clear hm'
    have HL := Lib.hid (timesL_len t xs)
    go_enter Tryz.func6, Tryz.ntmps6
    go_wp2_with (first | (go_at_call 24; refine Ha.out.mono ?_; rintro e w1 ⟨rfl, hb1⟩) | (go_at_call 25; refine (Ht.out _ hb1).mono ?_; rintro e w2 ⟨A2, c2, rfl, ho2, hb2⟩))
    exact bodyPost_ret (v := .tuple #[.slice A2 xs.length c2, .bool true]) (by simp [results, Tryz.results6, go_sem]) rfl ⟨A2, c2, by rw [HR.out]; simp only [HL.out], by rw [HR.out]; simp only [HL.out]; exact own_base ho2 hb1.size, btr hb1 hb2⟩
  · have HR : Hid (r = _) := hr.trans (if_neg hm)
    have hm' : meets xs t = false := by simpa using hm
    clear hr hs hx hn hm
    go_enter Tryz.func6, Tryz.ntmps6
    go_wp2_with (go_at_call 24; refine Ha.out.mono ?_; rintro e w1 ⟨rfl, hb1⟩)
    exact bodyPost_ret (v := .tuple #[.slice none 0 0, .bool false]) (by simp [results, Tryz.results6, go_sem]) rfl ⟨none, 0, by rw [HR.out]; rfl, by rw [HR.out]; exact own_nil, hb1⟩
set_option maxHeartbeats 1000000 in
theorem specTimes_any (A : Option Addr) (c : Nat) (xs : List Itm) (t : Int) (w : World) (hn : xs.length ≤ maxLen) (hlc : xs.length ≤ c) (hx : Rd w A (itmCells xs)) (hs : ∀ s ∈ xs, s.title.size ≤ maxLen) :
    Calls Tryz.prog 7 #[.slice A xs.length c, .int .i64 t] w fun e w' => ∃ A' c', e = .returned (.tuple #[.slice A' (timesR xs t).1.length c', .bool (timesR xs t).2]) ∧ w'.ownsRow w.heap.size 3 1 (.slice A' (timesR xs t).1.length c') (timesR xs t).1.length (intCells (timesR xs t).1) ∧ Below w.heap.size w w' := by
  obtain ⟨r, hr⟩ : ∃ r, r = timesR xs t := ⟨_, rfl⟩
  rw [← hr]
  have Ha := Lib.hid (l5Asked_any A c xs t w hn hlc hx hs)
  by_cases hm : meets xs t = true
  · have hg : goodItm xs = true := by simp only [meets, Bool.and_eq_true] at hm; exact hm.1
    have ht : 0 ≤ t ∧ t ≤ 1439 := by simp only [meets, Bool.and_eq_true, inB, decide_eq_true_eq] at hm; exact hm.2
    obtain ⟨h10, hin⟩ := goodItm_in hg
    have Ht : Hid (∀ w1 : World, Below w.heap.size w w1 → Calls Tryz.prog 27 #[.slice A xs.length c, .int .i64 t] w1 fun e w' => ∃ A' c', e = .returned (.tuple #[.slice A' xs.length c', .int .i64 (endT t xs)]) ∧ w'.ownsRow w1.heap.size 3 1 (.slice A' xs.length c') xs.length (intCells (timesL t xs)) ∧ Below w1.heap.size w1 w') :=
      fun w1 hb => l5Times_any A c xs t w1 ht.1 ht.2 h10 (hx.below hb) hin
    have hend := endT_in ht.1 ht.2 hin
    have HR : Hid (r = _) := hr.trans (if_pos hm)
    have hx1 := hx
    have Hin := Lib.hid hin
    clear hr hs hx hn hg hin
    obtain ⟨m, hm'⟩ : ∃ m, m = endT t xs := ⟨_, rfl⟩
    rw [← hm'] at Ht hend
    try rw [← hm'] at HR
    have HM := Lib.hid hm'
    clear hm'
    have HL := Lib.hid (timesL_len t xs)
    go_enter Tryz.func7, Tryz.ntmps7
    go_wp2_with (first | (go_at_call 26; refine Ha.out.mono ?_; rintro e w1 ⟨rfl, hb1⟩) | (go_at_call 27; refine (Ht.out _ hb1).mono ?_; rintro e w2 ⟨A2, c2, rfl, ho2, hb2⟩))
    exact bodyPost_ret (v := .tuple #[.slice A2 xs.length c2, .bool true]) (by simp [results, Tryz.results7, go_sem]) rfl ⟨A2, c2, by rw [HR.out]; simp only [HL.out], by rw [HR.out]; simp only [HL.out]; exact own_base ho2 hb1.size, btr hb1 hb2⟩
  · have HR : Hid (r = _) := hr.trans (if_neg hm)
    have hm' : meets xs t = false := by simpa using hm
    clear hr hs hx hn hm
    go_enter Tryz.func7, Tryz.ntmps7
    go_wp2_with (go_at_call 26; refine Ha.out.mono ?_; rintro e w1 ⟨rfl, hb1⟩)
    exact bodyPost_ret (v := .tuple #[.slice (some ⟨w1.heap.size, 0, none⟩) 0 0, .bool false]) (by simp [results, Tryz.results7, go_sem]) rfl ⟨some ⟨w1.heap.size, 0, none⟩, 0, by rw [HR.out]; rfl, by rw [HR.out]; exact own_lit (e := 3) (size := 1) (w := w1) #[] 0 hb1.size (by unfold maxLen; omega) rfl, bnew hb1 _⟩
set_option maxHeartbeats 1000000 in
theorem idle_any (A : Option Addr) (c : Nat) (xs : List Itm) (t : Int) (w : World) (hn : xs.length ≤ maxLen) (hlc : xs.length ≤ c) (hx : Rd w A (itmCells xs)) (hs : ∀ s ∈ xs, s.title.size ≤ maxLen) :
    Calls Tryz.prog 10 #[.slice A xs.length c, .int .i64 t] w fun e w' => e = .returned (.tuple #[.int .i64 (idleR xs t).1, .bool (idleR xs t).2]) ∧ Below w.heap.size w w' := by
  obtain ⟨r, hr⟩ : ∃ r, r = idleR xs t := ⟨_, rfl⟩
  rw [← hr]
  have Ha := Lib.hid (isMeeting_any A c xs t w hn hlc hx hs)
  by_cases hm : meets xs t = true
  · have hg : goodItm xs = true := by simp only [meets, Bool.and_eq_true] at hm; exact hm.1
    have ht : 0 ≤ t ∧ t ≤ 1439 := by simp only [meets, Bool.and_eq_true, inB, decide_eq_true_eq] at hm; exact hm.2
    obtain ⟨h10, hin⟩ := goodItm_in hg
    have Ht : Hid (∀ w1 : World, Below w.heap.size w w1 → Calls Tryz.prog 25 #[.slice A xs.length c, .int .i64 t] w1 fun e w' => ∃ A' c', e = .returned (.tuple #[.slice A' xs.length c', .int .i64 (endT t xs)]) ∧ w'.ownsRow w1.heap.size 3 1 (.slice A' xs.length c') xs.length (intCells (timesL t xs)) ∧ Below w1.heap.size w1 w') :=
      fun w1 hb => itemTimes_any A c xs t w1 ht.1 ht.2 h10 (hx.below hb) hin
    have hend := endT_in ht.1 ht.2 hin
    have HR : Hid (r = _) := hr.trans (if_pos hm)
    have hx1 := hx
    have Hin := Lib.hid hin
    clear hr hs hx hn hg hin
    obtain ⟨m, hm'⟩ : ∃ m, m = endT t xs := ⟨_, rfl⟩
    rw [← hm'] at Ht hend
    try rw [← hm'] at HR
    have HM := Lib.hid hm'
    clear hm'
    go_enter Tryz.func10, Tryz.ntmps10
    go_wp2_with (first | (go_at_call 24; refine Ha.out.mono ?_; rintro e w1 ⟨rfl, hb1⟩) | (go_at_call 25; refine (Ht.out _ hb1).mono ?_; rintro e w2 ⟨A2, c2, rfl, ho2, hb2⟩))
    have hbE := btr hb1 hb2
    clear ho2 Ha Ht hb1 hb2
    go_loopw [8, 26] (fun d i wr => ∃ k : Nat, ∃ q : Int, k ≤ xs.length ∧ i = .int .i64 k ∧ d = .int .i64 q ∧ -100000 ≤ q ∧ q ≤ 100000 ∧ Hid (q = m - t - sumM (xs.take k)) ∧ Below w.heap.size w wr) (fun _ i _ => xs.length - (intOf i).toNat)
    case atStart => exact ⟨0, _, by omega, rfl, rfl, by omega, by omega, by simp [Hid, sumM], hbE⟩
    case round =>
      obtain ⟨k, q, hk, rfl, rfl, q0, q1, HQ, hb⟩ := hrel
      by_cases hlt : k < xs.length
      · obtain ⟨b, off, rfl, c0, c1, c2, c3⟩ := Rd.itm (hx1.below hb) hlt
        have hin := Hin.out xs[k] (List.getElem_mem _)
        have HS := Lib.hid (sumM_at hlt)
        have hsum : sumM (xs.take (k + 1)) ≤ 240 * (k + 1) ∧ 0 ≤ sumM (xs.take (k + 1)) := by
          have := sumM_in (xs := xs.take (k + 1)) (fun s hs' => Hin.out s (List.mem_of_mem_take hs'))
          have hl : (xs.take (k + 1)).length = k + 1 := by rw [List.length_take]; omega
          rw [hl] at this; omega
        rw [HS.out] at hsum
        generalize xs[k] = s at *
        have HQn : Hid (q - s.mins = m - t - sumM (xs.take (k + 1))) := by
          show _ = _
          rw [HS.out, HQ.out]; omega
        have hqn : -100000 ≤ q - s.mins ∧ q - s.mins ≤ 100000 := by have := HQ.out; omega
        clear HS HQ hsum
        go_wp2
        go_roundw
        case rel => exact ⟨k + 1, _, by omega, by go_num, rfl, by omega, by omega, HQn, bnew hb _⟩
        case measure => simp [intOf]; omega
      · have HK := Lib.hid (show xs.take k = xs from List.take_of_length_le (by omega))
        have HF := Lib.hid (HQ.out.trans (by rw [HK.out]))
        clear HQ
        go_wp2
        exact bodyPost_ret (v := .tuple #[.int .i64 q, .bool true]) (by simp [results, Tryz.results10, go_sem]) rfl ⟨by rw [HR.out, HF.out], hb⟩
  · have HR : Hid (r = _) := hr.trans (if_neg hm)
    have hm' : meets xs t = false := by simpa using hm
    clear hr hs hx hn hm
    go_enter Tryz.func10, Tryz.ntmps10
    go_wp2_with (go_at_call 24; refine Ha.out.mono ?_; rintro e w1 ⟨rfl, hb1⟩)
    exact bodyPost_ret (v := .tuple #[.int .i64 0, .bool false]) (by simp [results, Tryz.results10, go_sem]) rfl ⟨by rw [HR.out], hb1⟩
set_option maxHeartbeats 1000000 in
theorem specIdle_any (A : Option Addr) (c : Nat) (xs : List Itm) (t : Int) (w : World) (hn : xs.length ≤ maxLen) (hlc : xs.length ≤ c) (hx : Rd w A (itmCells xs)) (hs : ∀ s ∈ xs, s.title.size ≤ maxLen) :
    Calls Tryz.prog 12 #[.slice A xs.length c, .int .i64 t] w fun e w' => e = .returned (.tuple #[.int .i64 (idleR xs t).1, .bool (idleR xs t).2]) ∧ Below w.heap.size w w' := by
  obtain ⟨r, hr⟩ : ∃ r, r = idleR xs t := ⟨_, rfl⟩
  rw [← hr]
  have Ha := Lib.hid (l5Asked_any A c xs t w hn hlc hx hs)
  by_cases hm : meets xs t = true
  · have hg : goodItm xs = true := by simp only [meets, Bool.and_eq_true] at hm; exact hm.1
    have ht : 0 ≤ t ∧ t ≤ 1439 := by simp only [meets, Bool.and_eq_true, inB, decide_eq_true_eq] at hm; exact hm.2
    obtain ⟨h10, hin⟩ := goodItm_in hg
    have Ht : Hid (∀ w1 : World, Below w.heap.size w w1 → Calls Tryz.prog 27 #[.slice A xs.length c, .int .i64 t] w1 fun e w' => ∃ A' c', e = .returned (.tuple #[.slice A' xs.length c', .int .i64 (endT t xs)]) ∧ w'.ownsRow w1.heap.size 3 1 (.slice A' xs.length c') xs.length (intCells (timesL t xs)) ∧ Below w1.heap.size w1 w') :=
      fun w1 hb => l5Times_any A c xs t w1 ht.1 ht.2 h10 (hx.below hb) hin
    have hend := endT_in ht.1 ht.2 hin
    have HR : Hid (r = _) := hr.trans (if_pos hm)
    have hx1 := hx
    have Hin := Lib.hid hin
    clear hr hs hx hn hg hin
    obtain ⟨m, hm'⟩ : ∃ m, m = endT t xs := ⟨_, rfl⟩
    rw [← hm'] at Ht hend
    try rw [← hm'] at HR
    have HM := Lib.hid hm'
    clear hm'
    go_enter Tryz.func12, Tryz.ntmps12
    go_wp2_with (first | (go_at_call 26; refine Ha.out.mono ?_; rintro e w1 ⟨rfl, hb1⟩) | (go_at_call 27; refine (Ht.out _ hb1).mono ?_; rintro e w2 ⟨A2, c2, rfl, ho2, hb2⟩))
    have hbE := btr hb1 hb2
    clear ho2 Ha Ht hb1 hb2
    go_loopw [8, 9] (fun d i wr => ∃ k : Nat, ∃ q : Int, k ≤ xs.length ∧ i = .int .i64 k ∧ d = .int .i64 q ∧ -100000 ≤ q ∧ q ≤ 100000 ∧ Hid (q = m - t - sumM (xs.take k)) ∧ Below w.heap.size w wr) (fun _ i _ => xs.length - (intOf i).toNat)
    case atStart => exact ⟨0, _, by omega, rfl, rfl, by omega, by omega, by simp [Hid, sumM], hbE⟩
    case round =>
      obtain ⟨k, q, hk, rfl, rfl, q0, q1, HQ, hb⟩ := hrel
      by_cases hlt : k < xs.length
      · obtain ⟨b, off, rfl, c0, c1, c2, c3⟩ := Rd.itm (hx1.below hb) hlt
        have hin := Hin.out xs[k] (List.getElem_mem _)
        have HS := Lib.hid (sumM_at hlt)
        have hsum : sumM (xs.take (k + 1)) ≤ 240 * (k + 1) ∧ 0 ≤ sumM (xs.take (k + 1)) := by
          have := sumM_in (xs := xs.take (k + 1)) (fun s hs' => Hin.out s (List.mem_of_mem_take hs'))
          have hl : (xs.take (k + 1)).length = k + 1 := by rw [List.length_take]; omega
          rw [hl] at this; omega
        rw [HS.out] at hsum
        generalize xs[k] = s at *
        have HQn : Hid (q - s.mins = m - t - sumM (xs.take (k + 1))) := by
          show _ = _
          rw [HS.out, HQ.out]; omega
        have hqn : -100000 ≤ q - s.mins ∧ q - s.mins ≤ 100000 := by have := HQ.out; omega
        clear HS HQ hsum
        go_wp2
        go_roundw
        case rel => exact ⟨k + 1, _, by omega, by go_num, rfl, by omega, by omega, HQn, hb⟩
        case measure => simp [intOf]; omega
      · have HK := Lib.hid (show xs.take k = xs from List.take_of_length_le (by omega))
        have HF := Lib.hid (HQ.out.trans (by rw [HK.out]))
        clear HQ
        go_wp2
        exact bodyPost_ret (v := .tuple #[.int .i64 q, .bool true]) (by simp [results, Tryz.results12, go_sem]) rfl ⟨by rw [HR.out, HF.out], hb⟩
  · have HR : Hid (r = _) := hr.trans (if_neg hm)
    have hm' : meets xs t = false := by simpa using hm
    clear hr hs hx hn hm
    go_enter Tryz.func12, Tryz.ntmps12
    go_wp2_with (go_at_call 26; refine Ha.out.mono ?_; rintro e w1 ⟨rfl, hb1⟩)
    exact bodyPost_ret (v := .tuple #[.int .i64 0, .bool false]) (by simp [results, Tryz.results12, go_sem]) rfl ⟨by rw [HR.out], hb1⟩
end Go.Proofs.YtfpjelpbeicdoaaGreatDoor

