/-
  Contracts of the functions on documents: whether one is valid, to which section one belongs, how many are parts of one. Conditions: lengths within Go's range.
-/
import Derived.Test.YteeelkiapccdoaaDoorStrSec
namespace Go.My
open Go.RowKit
def docFrom : Int → List Sec → Bool
  | _, [] => true
  | dd, s :: r => inB s.d 1 (min (dd + 1) 4) && wordB s.t && docFrom s.d r
def goodDoc (xs : List Sec) : Bool := docFrom 0 xs && decide (xs.length ≤ 12)
theorem docFrom_at {dd : Int} {xs : List Sec} {k : Nat} (hk : k < xs.length) : docFrom dd (xs.drop k) = (inB xs[k].d 1 (min (dd + 1) 4) && wordB xs[k].t && docFrom xs[k].d (xs.drop (k + 1))) := by
  rw [List.drop_eq_getElem_cons hk]; rfl
theorem docFrom_bound {dd : Int} {xs : List Sec} (h : docFrom dd xs = true) : ∀ s ∈ xs, 1 ≤ s.d ∧ s.d ≤ 4 := by
  induction xs generalizing dd with
  | nil => simp
  | cons s r ih =>
    simp only [docFrom, Bool.and_eq_true] at h
    intro x hx
    rcases List.mem_cons.1 hx with rfl | hx
    · have := h.1.1; simp [inB] at this; omega
    · exact ih h.2 x hx
def okAt (xs : List Sec) (i : Int) : Bool := goodDoc xs && inB i 0 ((xs.length : Int) - 1)
/-- The index below k of the nearest section of a depth less than d, or -1. -/
def upTo (xs : List Sec) (d : Int) : Nat → Int
  | 0 => -1
  | k + 1 => if xs.any (fun _ => false) then -1 else match xs[k]? with
    | some s => if s.d < d then k else upTo xs d k
    | none => -1
def upAt (xs : List Sec) (i : Nat) : Int := match xs[i]? with
  | some s => upTo xs s.d i
  | none => -1
theorem upTo_yes {xs : List Sec} {d : Int} {k : Nat} (hk : k < xs.length) (h : xs[k].d < d) : upTo xs d (k + 1) = k := by
  simp [upTo, List.getElem?_eq_getElem hk, h]
theorem upTo_no {xs : List Sec} {d : Int} {k : Nat} (hk : k < xs.length) (h : ¬ xs[k].d < d) : upTo xs d (k + 1) = upTo xs d k := by
  conv => lhs; unfold upTo
  simp [List.getElem?_eq_getElem hk, h]
theorem upAt_eq {xs : List Sec} {i : Nat} (hi : i < xs.length) : upAt xs i = upTo xs xs[i].d i := by simp [upAt, List.getElem?_eq_getElem hi]
theorem upTo_range (xs : List Sec) (d : Int) (k : Nat) : -1 ≤ upTo xs d k ∧ upTo xs d k < k := by
  induction k with
  | zero => simp [upTo]
  | succ k ih =>
    unfold upTo
    split
    · omega
    · split
      · split
        · omega
        · omega
      · omega
/-- How many of the first sections of a list are deeper than d. -/
def deeper (d : Int) : List Sec → Nat
  | [] => 0
  | s :: r => if d < s.d then deeper d r + 1 else 0
theorem deeper_at {d : Int} {xs : List Sec} {k : Nat} (hk : k < xs.length) : deeper d (xs.drop k) = if d < xs[k].d then deeper d (xs.drop (k + 1)) + 1 else 0 := by
  rw [List.drop_eq_getElem_cons hk]; rfl
theorem deeper_le (d : Int) (xs : List Sec) : deeper d xs ≤ xs.length := by
  induction xs with
  | nil => simp [deeper]
  | cons s r ih => simp only [deeper]; split <;> simp <;> omega
def partLen (xs : List Sec) (i : Nat) : Nat := match xs[i]? with
  | some s => deeper s.d (xs.drop (i + 1))
  | none => 0
theorem partLen_eq {xs : List Sec} {i : Nat} (hi : i < xs.length) : partLen xs i = deeper xs[i].d (xs.drop (i + 1)) := by simp [partLen, List.getElem?_eq_getElem hi]
theorem partLen_le {xs : List Sec} {i : Nat} (hi : i < xs.length) : i + 1 + partLen xs i ≤ xs.length := by
  rw [partLen_eq hi]
  have := deeper_le xs[i].d (xs.drop (i + 1))
  rw [List.length_drop] at this
  omega
end Go.My
namespace Go.Proofs.YteeelkiapccdoaaDoor
open Go.RowKit Go.My
set_option maxHeartbeats 1000000 in
theorem isDoc_any (A : Option Addr) (c : Nat) (xs : List Sec) (w : World) (hn : xs.length ≤ maxLen) (hx : Rd w A (secCells xs)) (hs : ∀ s ∈ xs, s.t.size ≤ maxLen) :
    Calls Tryd.prog 20 #[.slice A xs.length c] w fun e w' => e = .returned (.bool (goodDoc xs)) ∧ Below w.heap.size w w' := by
  unfold maxLen at hn
  go_enter Tryd.func20, Tryd.ntmps20
  go_wp2
  go_loopw [3, 8] (fun d i wr => ∃ k : Nat, ∃ dd : Int, k ≤ xs.length ∧ i = .int .i64 k ∧ d = .int .i64 dd ∧ 0 ≤ dd ∧ dd ≤ 4 ∧ Hid (docFrom 0 xs = docFrom dd (xs.drop k)) ∧ Below w.heap.size w wr) (fun _ i _ => xs.length - (intOf i).toNat)
  case atStart => exact ⟨0, 0, by omega, rfl, rfl, by omega, by omega, rfl, Below.refl _ _⟩
  case round =>
    obtain ⟨k, dd, hk, rfl, rfl, h0, h4, hd, hb⟩ := hrel
    by_cases hlt : k < xs.length
    · obtain ⟨b, off, rfl, c1, c2⟩ := Rd.sec (hx.below hb) hlt
      have hsz := hs xs[k] (List.getElem_mem _)
      have H := Lib.hid (hd.out.trans (docFrom_at hlt))
      clear hd hx
      generalize xs[k] = s at *
      by_cases hv : 1 ≤ s.d ∧ s.d ≤ dd + 1 ∧ s.d ≤ 4
      · obtain ⟨v1, v2, v3⟩ := hv
        by_cases hw : wordB s.t = true
        · have Hn : Hid (docFrom 0 xs = docFrom s.d (xs.drop (k + 1))) := by
            show _ = _
            rw [H.out, inB_yes (by omega), hw]; simp
          clear H
          go_wp2_with (first | (go_at_call 21; refine (inside_yes _ _ _ _ ⟨by omega, by omega⟩).mono ?_; rintro e w' ⟨rfl, rfl⟩) | (go_at_call 26; refine (isWord_any _ _ hsz).mono ?_; rintro e w' ⟨rfl, rfl⟩))
          all_goals
            go_roundw
            case rel => exact ⟨k + 1, s.d, by omega, by go_num, rfl, by omega, by omega, Hn, bnew hb _⟩
            case measure => simp [intOf]; omega
        · have Hn : Hid (goodDoc xs = false) := by
            show _ = _
            unfold goodDoc
            rw [H.out]; simp [hw]
          clear H
          have hw' : wordB s.t = false := by simpa using hw
          go_wp2_with (first | (go_at_call 21; refine (inside_yes _ _ _ _ ⟨by omega, by omega⟩).mono ?_; rintro e w' ⟨rfl, rfl⟩) | (go_at_call 26; refine (isWord_any _ _ hsz).mono ?_; rintro e w' ⟨rfl, rfl⟩))
          all_goals
            go_ret
            exact ⟨by rw [Hn.out]; rfl, bnew hb _⟩
      · have Hn : Hid (goodDoc xs = false) := by
          show _ = _
          unfold goodDoc
          rw [H.out, inB_no (by omega)]; simp
        clear H
        go_wp2_with (first | (go_at_call 21; refine (inside_no _ _ _ _ (by omega)).mono ?_; rintro e w' ⟨rfl, rfl⟩))
        all_goals
          go_ret
          exact ⟨by rw [Hn.out]; rfl, bnew hb _⟩
    · have Hn : Hid (goodDoc xs = decide ((xs.length : Int) ≤ 12)) := by
        show _ = _
        unfold goodDoc
        rw [hd.out, List.drop_eq_nil_of_le (by omega)]; simp [docFrom]; omega
      clear hd
      go_wp2
      go_ret
      exact ⟨by rw [Hn.out]; rfl, hb⟩
set_option maxHeartbeats 1000000 in
theorem l6Good_any (A : Option Addr) (c : Nat) (xs : List Sec) (w : World) (hn : xs.length ≤ maxLen) (hx : Rd w A (secCells xs)) (hs : ∀ s ∈ xs, s.t.size ≤ maxLen) :
    Calls Tryd.prog 16 #[.slice A xs.length c] w fun e w' => e = .returned (.bool (goodDoc xs)) ∧ Below w.heap.size w w' := by
  unfold maxLen at hn
  go_enter Tryd.func16, Tryd.ntmps16
  go_wp2
  go_loopw [3, 4] (fun d i wr => ∃ k : Nat, ∃ dd : Int, k ≤ xs.length ∧ i = .int .i64 k ∧ d = .int .i64 dd ∧ 0 ≤ dd ∧ dd ≤ 4 ∧ Hid (docFrom 0 xs = docFrom dd (xs.drop k)) ∧ Below w.heap.size w wr) (fun _ i _ => xs.length - (intOf i).toNat)
  case atStart => exact ⟨0, 0, by omega, rfl, rfl, by omega, by omega, rfl, Below.refl _ _⟩
  case round =>
    obtain ⟨k, dd, hk, rfl, rfl, h0, h4, hd, hb⟩ := hrel
    by_cases hlt : k < xs.length
    · obtain ⟨b, off, rfl, c1, c2⟩ := Rd.sec (hx.below hb) hlt
      have hsz := hs xs[k] (List.getElem_mem _)
      have H := Lib.hid (hd.out.trans (docFrom_at hlt))
      clear hd hx
      generalize xs[k] = s at *
      have g1 := cell_after c1
      have g2 := cell_after c2
      have hkI : (k : Int) < (xs.length : Int) := by omega
      by_cases hv : 1 ≤ s.d ∧ s.d ≤ dd + 1 ∧ s.d ≤ 4
      · obtain ⟨v1, v2, v3⟩ := hv
        by_cases hw : wordB s.t = true
        · have Hn : Hid (docFrom 0 xs = docFrom s.d (xs.drop (k + 1))) := by
            show _ = _
            rw [H.out, inB_yes (by omega), hw]; simp
          clear H
          go_wp2_with fail
          refine wp_region_after (by kernel_rfl) (by kernel_rfl) ?_
          repeat (go_big_quiet_step ((first | (go_at_call 24; exact Calls.after_same (l1Least_any _ _ _)) | (go_at_call 17; exact Calls.after_same (l1In_yes _ _ _ _ ⟨by omega, by omega⟩)) | (go_at_call 25; exact Calls.after_same (l2Word_any _ _ hsz)))))
          refine wpQuiet_nil ?_
          intro nq
          go_wp2
          go_roundw
          case rel => exact ⟨k + 1, s.d, by omega, by go_num, rfl, by omega, by omega, Hn, btr hb nq.bel⟩
          case measure => simp [intOf]; omega
        · have Hn : Hid (goodDoc xs = false) := by
            show _ = _
            unfold goodDoc
            rw [H.out]; simp [hw]
          clear H
          have hw' : wordB s.t = false := by simpa using hw
          go_wp2_with fail
          refine wp_region_after (by kernel_rfl) (by kernel_rfl) ?_
          repeat (go_big_quiet_step ((first | (go_at_call 24; exact Calls.after_same (l1Least_any _ _ _)) | (go_at_call 17; exact Calls.after_same (l1In_yes _ _ _ _ ⟨by omega, by omega⟩)) | (go_at_call 25; exact Calls.after_same (l2Word_any _ _ hsz)))))
          refine wpQuiet_nil ?_
          intro nq
          go_wp2
          go_ret
          exact ⟨by rw [Hn.out]; rfl, btr hb nq.bel⟩
      · have Hn : Hid (goodDoc xs = false) := by
          show _ = _
          unfold goodDoc
          rw [H.out, inB_no (by omega)]; simp
        clear H
        go_wp2_with fail
        refine wp_region_after (by kernel_rfl) (by kernel_rfl) ?_
        repeat (go_big_quiet_step ((first | (go_at_call 24; exact Calls.after_same (l1Least_any _ _ _)) | (go_at_call 17; exact Calls.after_same (l1In_no _ _ _ _ (by omega))))))
        refine wpQuiet_nil ?_
        intro nq
        go_wp2
        go_ret
        exact ⟨by rw [Hn.out]; rfl, btr hb nq.bel⟩
    · have Hn : Hid (goodDoc xs = decide ((xs.length : Int) ≤ 12)) := by
        show _ = _
        unfold goodDoc
        rw [hd.out, List.drop_eq_nil_of_le (by omega)]; simp [docFrom]; omega
      clear hd
      go_wp2
      go_ret
      exact ⟨by rw [Hn.out]; rfl, hb⟩
set_option maxHeartbeats 400000 in
theorem hasSection_any (A : Option Addr) (c : Nat) (xs : List Sec) (i : Int) (w : World) (hn : xs.length ≤ maxLen) (hx : Rd w A (secCells xs)) (hs : ∀ s ∈ xs, s.t.size ≤ maxLen) :
    Calls Tryd.prog 13 #[.slice A xs.length c, .int .i64 i] w fun e w' => e = .returned (.bool (okAt xs i)) ∧ Below w.heap.size w w' := by
  have hc := isDoc_any A c xs w hn hx hs
  have Hc := Lib.hid hc
  clear hc hx hs
  unfold maxLen at hn
  by_cases hg : goodDoc xs = true
  · have HT : Hid (okAt xs i = inB i 0 ((xs.length : Int) - 1)) := by show _ = _; simp [okAt, hg]
    go_enter Tryd.func13, Tryd.ntmps13
    go_wp2_with (first | (go_at_call 20; refine Hc.out.mono ?_; rintro e w1 ⟨rfl, hb1⟩) | (go_at_call 21; refine (inside_any _ _ _ _).mono ?_; rintro e w2 ⟨rfl, rfl⟩))
    go_ret
    exact ⟨by rw [HT.out]; rfl, hb1⟩
  · have hg' : goodDoc xs = false := by simpa using hg
    have HT : Hid (okAt xs i = false) := by show _ = _; simp [okAt, hg']
    go_enter Tryd.func13, Tryd.ntmps13
    go_wp2_with (first | (go_at_call 20; refine Hc.out.mono ?_; rintro e w1 ⟨rfl, hb1⟩))
    go_ret
    exact ⟨by rw [HT.out]; rfl, hb1⟩
set_option maxHeartbeats 400000 in
theorem l6Asked_any (A : Option Addr) (c : Nat) (xs : List Sec) (i : Int) (w : World) (hn : xs.length ≤ maxLen) (hx : Rd w A (secCells xs)) (hs : ∀ s ∈ xs, s.t.size ≤ maxLen) :
    Calls Tryd.prog 10 #[.slice A xs.length c, .int .i64 i] w fun e w' => e = .returned (.bool (okAt xs i)) ∧ Below w.heap.size w w' := by
  have hc := l6Good_any A c xs w hn hx hs
  have Hc := Lib.hid hc
  clear hc hx hs
  unfold maxLen at hn
  by_cases hg : goodDoc xs = true
  · have HT : Hid (okAt xs i = inB i 0 ((xs.length : Int) - 1)) := by show _ = _; simp [okAt, hg]
    go_enter Tryd.func10, Tryd.ntmps10
    go_wp2_with (first | (go_at_call 16; refine Hc.out.mono ?_; rintro e w1 ⟨rfl, hb1⟩) | (go_at_call 17; refine (l1In_any _ _ _ _).mono ?_; rintro e w2 ⟨rfl, rfl⟩))
    go_ret
    exact ⟨by rw [HT.out]; rfl, hb1⟩
  · have hg' : goodDoc xs = false := by simpa using hg
    have HT : Hid (okAt xs i = false) := by show _ = _; simp [okAt, hg']
    go_enter Tryd.func10, Tryd.ntmps10
    go_wp2_with (first | (go_at_call 16; refine Hc.out.mono ?_; rintro e w1 ⟨rfl, hb1⟩))
    go_ret
    exact ⟨by rw [HT.out]; rfl, hb1⟩
end Go.Proofs.YteeelkiapccdoaaDoor
