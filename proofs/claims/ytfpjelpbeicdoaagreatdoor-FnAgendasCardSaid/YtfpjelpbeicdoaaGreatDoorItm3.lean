/-
  Contracts of LateItems and ItemsUntil: the items that begin late, the items that end in time. Conditions: lengths within Go's range.
-/
import Derived.Test.YtfpjelpbeicdoaaGreatDoorItm2
namespace Go.My
open Go.RowKit
/-- The numbers of the items with a property of their times. -/
def pickL (p : Int → Itm → Bool) (t : Int) : List Itm → List Int
  | [] => []
  | x :: r => (bif p (max t x.time) x then [x.id] else []) ++ pickL p (max t x.time + x.mins) r
theorem pickL_append (p : Int → Itm → Bool) (t : Int) (xs : List Itm) (x : Itm) : pickL p t (xs ++ [x]) = pickL p t xs ++ (bif p (max (endT t xs) x.time) x then [x.id] else []) := by
  induction xs generalizing t with
  | nil => simp [pickL, endT]
  | cons y r ih => simp only [List.cons_append, pickL, endT]; rw [ih, List.append_assoc]
theorem pickL_len (p : Int → Itm → Bool) (t : Int) (xs : List Itm) : (pickL p t xs).length ≤ xs.length := by
  induction xs generalizing t with
  | nil => simp [pickL]
  | cons y r ih =>
    have := ih (max t y.time + y.mins)
    simp only [pickL, List.length_append, List.length_cons]
    cases p (max t y.time) y <;> simp <;> omega
theorem timesL_get {t : Int} {xs : List Itm} {k : Nat} (hk : k < xs.length) (h : k < (timesL t xs).length) : (timesL t xs)[k] = max (endT t (xs.take k)) xs[k].time := by
  induction xs generalizing t k with
  | nil => simp at hk
  | cons x r ih =>
    cases k with
    | zero => simp [timesL, endT]
    | succ k =>
      simp only [timesL, List.getElem_cons_succ, List.take_succ_cons, endT]
      exact ih (by simpa using hk) (by simpa [timesL] using h)
theorem pickL_at {p : Int → Itm → Bool} {t : Int} {xs : List Itm} {k : Nat} (hk : k < xs.length) (h : k < (timesL t xs).length) : pickL p t (xs.take (k + 1)) = pickL p t (xs.take k) ++ (bif p (timesL t xs)[k] xs[k] then [xs[k].id] else []) := by
  rw [List.take_succ_eq_append_getElem hk, pickL_append, timesL_get hk h]
theorem timesL_in {t : Int} {xs : List Itm} (h0 : 0 ≤ t) (h1 : t ≤ 1439) (hn : xs.length ≤ 10) (h : ∀ s ∈ xs, 1 ≤ s.mins ∧ s.mins ≤ 240 ∧ -1 ≤ s.time ∧ s.time ≤ 1439) {k : Nat} (hk : k < xs.length) (hl : k < (timesL t xs).length) : 0 ≤ (timesL t xs)[k] ∧ (timesL t xs)[k] ≤ 100000 := by
  rw [timesL_get hk hl]
  have h2 := endT_in (xs := xs.take k) h0 h1 (fun s hs => h s (List.mem_of_mem_take hs))
  have h3 := h xs[k] (List.getElem_mem _)
  rw [List.length_take] at h2
  omega
def isLate (b : Int) (s : Itm) : Bool := s.time != -1 && decide (s.time < b)
def lateR (xs : List Itm) (t : Int) : List Int × Bool := if meets xs t = true then (pickL isLate t xs, true) else ([], false)
def inTime (e b : Int) (s : Itm) : Bool := decide (b + s.mins ≤ e)
def untilR (xs : List Itm) (t e : Int) : List Int × Bool := if (meets xs t && inB e t 10000) = true then (pickL (inTime e) t xs, true) else ([], false)
end Go.My
namespace Go.Proofs.YtfpjelpbeicdoaaGreatDoor
open Go.RowKit Go.My
set_option maxHeartbeats 2000000 in
theorem until_any (A : Option Addr) (c : Nat) (xs : List Itm) (t : Int) (e : Int) (w : World) (hn : xs.length ≤ maxLen) (hlc : xs.length ≤ c) (hx : Rd w A (itmCells xs)) (hs : ∀ s ∈ xs, s.title.size ≤ maxLen) :
    Calls Tryz.prog 13 #[.slice A xs.length c, .int .i64 t, .int .i64 e] w fun en w' => ∃ A' c', en = .returned (.tuple #[.slice A' (untilR xs t e).1.length c', .bool (untilR xs t e).2]) ∧ w'.ownsRow w.heap.size 3 1 (.slice A' (untilR xs t e).1.length c') (untilR xs t e).1.length (intCells (untilR xs t e).1) ∧ Below w.heap.size w w' := by
  obtain ⟨r, hr⟩ : ∃ r, r = untilR xs t e := ⟨_, rfl⟩
  rw [← hr]
  have Ha : Hid (∀ w1 : World, Below w.heap.size w w1 → Calls Tryz.prog 24 #[.slice A xs.length c, .int .i64 t] w1 fun e w' => e = .returned (.bool (meets xs t)) ∧ Below w1.heap.size w1 w') :=
    fun w1 hb => isMeeting_any A c xs t w1 hn hlc (hx.below hb) hs
  by_cases hm : meets xs t = true
  · by_cases hI : inB e t 10000 = true
    · have HR : Hid (r = _) := hr.trans (if_pos (by rw [hm, hI]; rfl))
      have hg : goodItm xs = true := by simp only [meets, Bool.and_eq_true] at hm; exact hm.1
      have ht : 0 ≤ t ∧ t ≤ 1439 := by simp only [meets, Bool.and_eq_true, inB, decide_eq_true_eq] at hm; exact hm.2
      obtain ⟨h10, hin⟩ := goodItm_in hg
      have Ht : Hid (∀ w1 : World, Below w.heap.size w w1 → Calls Tryz.prog 25 #[.slice A xs.length c, .int .i64 t] w1 fun e w' => ∃ A' c', e = .returned (.tuple #[.slice A' xs.length c', .int .i64 (endT t xs)]) ∧ w'.ownsRow w1.heap.size 3 1 (.slice A' xs.length c') xs.length (intCells (timesL t xs)) ∧ Below w1.heap.size w1 w') :=
        fun w1 hb => itemTimes_any A c xs t w1 ht.1 ht.2 h10 (hx.below hb) hin
      have hx1 := hx
      have Hin := Lib.hid hin
      have hTl := timesL_len t xs
      have HTin : Hid (∀ k (hk : k < xs.length) (hl : k < (timesL t xs).length), 0 ≤ (timesL t xs)[k] ∧ (timesL t xs)[k] ≤ 100000) := fun k hk hl => timesL_in ht.1 ht.2 h10 hin hk hl
      clear hr hs hx hn hg hin
      obtain ⟨m, hm'⟩ : ∃ m, m = endT t xs := ⟨_, rfl⟩
      rw [← hm'] at Ht
      clear hm'
      have HPat : Hid (∀ k (hk : k < xs.length) (hl : k < (timesL t xs).length), pickL (inTime e) t (xs.take (k + 1)) = pickL (inTime e) t (xs.take k) ++ (bif (inTime e) (timesL t xs)[k] xs[k] then [xs[k].id] else [])) := fun k hk hl => pickL_at hk hl
      have HTl := Lib.hid hTl
      clear hTl
      generalize timesL t xs = T at *
      go_enter Tryz.func13, Tryz.ntmps13
      go_wp2_with (first | (go_at_call 24; refine (Ha.out _ (Below.refl _ _)).mono ?_; rintro en w1 ⟨rfl, hb1⟩) | (go_at_call 28; refine (inside_any _ _ _ _).mono ?_; rintro en w9 ⟨rfl, rfl⟩) | (go_at_call 25; refine (Ht.out _ hb1).mono ?_; rintro en w2 ⟨A2, c2, rfl, ho2, hb2⟩))
      have hb02 := btr hb1 hb2
      have ho0 := own_lit (e := 3) (size := 1) (B := w.heap.size) (w := w2) #[] 0 hb02.size (by unfold maxLen; omega) rfl
      have hbE := bnew hb02 (.cells #[] 3)
      have hRT := (own_rd ho2).alloc (.cells #[] 3)
      have HTb : Hid (∀ ad, A2 = some ad → ad.block < w2.heap.size) := fun ad e => (ho2.lt ad.block (by rw [e]; rfl)).2
      have HT0 : Hid (∀ ad, A2 = some ad → some ad.block ≠ (Value.slice (some ⟨w2.heap.size, 0, none⟩) 0 0).ownBlock) := fun ad e h => by
        have := HTb.out ad e
        simp [Value.ownBlock] at h; omega
      have hbs := bnew (Below.refl w2.heap.size w2) (.cells #[] 3)
      generalize w2.alloc (.cells #[] 3) = wE at *
      clear ho2 hb1 hb2 hb02 Ha Ht
      go_loopw [10, 32] (fun out i wr => ∃ k : Nat, ∃ (A' : Option Addr) (c' : Nat) (L : List Int), k ≤ xs.length ∧ i = .int .i64 k ∧ out = .slice A' L.length c' ∧ Hid (pickL (inTime e) t (xs.take k) = L) ∧ L.length ≤ k ∧ wr.ownsRow w.heap.size 3 1 (.slice A' L.length c') L.length (intCells L) ∧ Rd wr A2 (intCells T) ∧ Hid (∀ ad, A2 = some ad → some ad.block ≠ (Value.slice A' L.length c').ownBlock) ∧ w2.heap.size ≤ wr.heap.size ∧ Below w.heap.size w wr) (fun _ i _ => xs.length - (intOf i).toNat)
      case atStart => exact ⟨0, some ⟨w2.heap.size, 0, none⟩, 0, [], by omega, rfl, rfl, rfl, by simp, ho0, hRT, HT0, hbs.size, hbE⟩
      case round =>
        obtain ⟨k, A', c', L, hk, rfl, rfl, HP, hLk, ho, hT, HTn, hsz2, hb⟩ := hrel
        clear ho0 hRT HT0 hbs
        by_cases hlt : k < xs.length
        · have hltT : k < T.length := by have := HTl.out; omega
          obtain ⟨b, off, rfl, c0, c1, c2', c3⟩ := Rd.itm (hx1.below hb) hlt
          obtain ⟨bT, offT, rfl, d0⟩ := Rd.ints hT hltT
          have hbl : b < w.heap.size := by
            obtain ⟨b9, off9, e9, d9, -⟩ := Rd.itm hx1 hlt
            have : b9 = b := by simp at e9; exact e9.1.symm
            rw [← this]; exact World.block_lt_of_cell? _ _ d9
          have hin := Hin.out xs[k] (List.getElem_mem _)
          have hTk := HTin.out k hlt hltT
          have HN := Lib.hid ((HPat.out k hlt hltT).trans (by rw [HP.out]))
          clear HP
          generalize xs[k] = s at *
          generalize T[k] = bg at *
          have hkI : (k : Int) < (xs.length : Int) := by omega
          go_wp2_with fail
          have hbw := bnew (Below.refl wr.heap.size wr) (.cells #[.int .i64 s.id, .string s.title, .int .i64 s.mins, .int .i64 s.time] 34)
          have n0 : (wr.alloc (.cells #[.int .i64 s.id, .string s.title, .int .i64 s.mins, .int .i64 s.time] 34)).cell? ⟨wr.heap.size, 0, none⟩ = some (.int .i64 s.id) := (World.cell?_alloc_at _ _ _ _ rfl).trans rfl
          have n2 : (wr.alloc (.cells #[.int .i64 s.id, .string s.title, .int .i64 s.mins, .int .i64 s.time] 34)).cell? ⟨wr.heap.size, 2, none⟩ = some (.int .i64 s.mins) := (World.cell?_alloc_at _ _ _ _ rfl).trans rfl
          have n3 : (wr.alloc (.cells #[.int .i64 s.id, .string s.title, .int .i64 s.mins, .int .i64 s.time] 34)).cell? ⟨wr.heap.size, 3, none⟩ = some (.int .i64 s.time) := (World.cell?_alloc_at _ _ _ _ rfl).trans rfl
          have d1 := (hbw.cell (World.block_lt_of_cell? _ _ d0)).trans d0
          have how := own_below ho hbw
          have hTw := hT.below hbw
          have hszw : w2.heap.size ≤ (wr.alloc (.cells #[.int .i64 s.id, .string s.title, .int .i64 s.mins, .int .i64 s.time] 34)).heap.size := Nat.le_trans hsz2 hbw.size
          have hbww := btr hb hbw
          generalize wr.alloc (.cells #[.int .i64 s.id, .string s.title, .int .i64 s.mins, .int .i64 s.time] 34) = wN at *
          have g2 := cell_after n2
          have g3 := cell_after n3
          have gT := cell_after d1
          clear c0 c1 c2' c3 d0 ho hT hsz2 hb d1
          by_cases hp : bg + s.mins ≤ e
          · have hd : decide (bg + s.mins ≤ e) = true := by simpa using hp
            have HY : Hid (pickL (inTime e) t (xs.take (k + 1)) = L ++ [s.id]) := HN.out.trans (by rw [(show inTime e bg s = true by simp [inTime, hp])]; rfl)
            clear HN
            refine wp_region_after (by kernel_rfl) (by kernel_rfl) ?_
            repeat (go_big_quiet_step (fail))
            refine wpQuiet_nil ?_
            intro nq
            have hbn := nq.bel
            have q0 := (hbn.cell (World.block_lt_of_cell? _ _ n0)).trans n0
            have hoq := own_below how hbn
            have hTq := hTw.below hbn
            have hszq : w2.heap.size ≤ nq.val.heap.size := Nat.le_trans hszw hbn.size
            have hbq := btr hbww hbn
            clear how hTw hszw hbww n0 g2 g3 gT
            generalize nq.val = wq at *
            clear nq hbn
            have hbW := bnew hbq (.cells #[.int .i64 s.id] 3)
            have hoW := own_below hoq (bnew (Below.refl wq.heap.size wq) (.cells #[.int .i64 s.id] 3))
            have hTW := hTq.alloc (.cells #[.int .i64 s.id] 3)
            have hrd := rd_new wq #[.int .i64 s.id] 3
            have hszW : w2.heap.size ≤ (wq.alloc (.cells #[.int .i64 s.id] 3)).heap.size := by simp; omega
            go_wp2_with (at_builtin; refine wpl_app rfl (.tmp 46) (.tmp 49) 27 rfl el_Int (v := .slice A' L.length c') rfl hoW rfl rfl hrd (by simp [Value.oneCell']) (by unfold maxLen; omega) (by omega) hbW.size ?_; intro A1 c1 w3 ho1 hg1 hor)
            have hb3 : Below w.heap.size w w3 := hbW.grown hg1 hbW.size (fun k hk => (hoW.lt k hk).1)
            have hT3 := hTW.grown hg1 HTn.out
            have hsz3 : w2.heap.size ≤ w3.heap.size := Nat.le_trans hszW hg1.size
            have HT3 : Hid (∀ ad, some (⟨bT, offT, none⟩ : Addr) = some ad → some ad.block ≠ (Value.slice A1 (L ++ [s.id]).length c1).ownBlock) := fun ad e => by
              have e2 : (Value.slice A1 (L ++ [s.id]).length c1).ownBlock = (Value.slice A1 (L.length + 1) c1).ownBlock := by simp
              rw [e2]
              rcases hor with h | h
              · rw [h]; exact HTn.out ad e
              · rw [h]; intro h2
                have := HTb.out ad e
                simp at h2; omega
            clear hg1 hor hoW hTW hrd hbW hoq hTq hszq hszW
            go_roundw
            case rel => exact ⟨k + 1, A1, c1, L ++ [s.id], by omega, by go_num, by simp, HY, by simp; omega, by (rw [intCells_append]; simpa [intCells] using ho1), hT3, HT3, hsz3, hb3⟩
            case measure => simp [intOf]; omega
          · have hd : decide (bg + s.mins ≤ e) = false := by simpa using hp
            have hd2 : e < bg + s.mins := by omega
            have HY : Hid (pickL (inTime e) t (xs.take (k + 1)) = L) := HN.out.trans (by rw [Bool.eq_false_iff.2 (show ¬ inTime e bg s = true by simp [inTime]; omega), cond_false, List.append_nil])
            clear HN
            refine wp_region_after (by kernel_rfl) (by kernel_rfl) ?_
            repeat (go_big_quiet_step (fail))
            refine wpQuiet_nil ?_
            intro nq
            have hbn := nq.bel
            have hoq := own_below how hbn
            have hTq := hTw.below hbn
            have hszq : w2.heap.size ≤ nq.val.heap.size := Nat.le_trans hszw hbn.size
            have hbq := btr hbww hbn
            clear how hTw hszw hbww n0 g2 g3 gT
            generalize nq.val = wq at *
            clear nq hbn
            go_wp2
            go_roundw
            case rel => exact ⟨k + 1, A', c', L, by omega, by go_num, rfl, HY, by omega, hoq, hTq, HTn, hszq, hbq⟩
            case measure => simp [intOf]; omega
        · have HK := Lib.hid (show xs.take k = xs from List.take_of_length_le (by omega))
          have HF : Hid (pickL (inTime e) t xs = L) := (by have := HP.out; rw [HK.out] at this; exact this)
          go_wp2
          exact bodyPost_ret (v := .tuple #[.slice A' L.length c', .bool true]) (by simp [results, Tryz.results13, go_sem]) rfl ⟨A', c', by rw [HR.out, HF.out], by rw [HR.out, HF.out]; exact ho, hb⟩
    · have hI' : inB e t 10000 = false := by simpa using hI
      have HR : Hid (r = _) := hr.trans (if_neg (by rw [hI']; simp))
      clear hr hs hx hn hI
      go_enter Tryz.func13, Tryz.ntmps13
      go_wp2_with (first | (go_at_call 24; refine (Ha.out _ (Below.refl _ _)).mono ?_; rintro en w1 ⟨rfl, hb1⟩) | (go_at_call 28; refine (inside_any _ _ _ _).mono ?_; rintro en w9 ⟨rfl, rfl⟩))
      exact bodyPost_ret (v := .tuple #[.slice none 0 0, .bool false]) (by simp [results, Tryz.results13, go_sem]) rfl ⟨none, 0, by rw [HR.out]; rfl, by rw [HR.out]; exact own_nil, hb1⟩
  · have hm' : meets xs t = false := by simpa using hm
    have HR : Hid (r = _) := hr.trans (if_neg (by rw [hm']; simp))
    clear hr hs hx hn hm
    go_enter Tryz.func13, Tryz.ntmps13
    go_wp2_with (first | (go_at_call 24; refine (Ha.out _ (Below.refl _ _)).mono ?_; rintro en w1 ⟨rfl, hb1⟩) | (go_at_call 28; refine (inside_any _ _ _ _).mono ?_; rintro en w9 ⟨rfl, rfl⟩))
    exact bodyPost_ret (v := .tuple #[.slice none 0 0, .bool false]) (by simp [results, Tryz.results13, go_sem]) rfl ⟨none, 0, by rw [HR.out]; rfl, by rw [HR.out]; exact own_nil, hb1⟩
end Go.Proofs.YtfpjelpbeicdoaaGreatDoor

