/-
  slices.IndexFunc and slices.ContainsFunc at AgendaItem, with a closure that captures one variable; what a good list is. Conditions: lengths within Go's range.
-/
import Derived.Test.YtfpjelpbeicdoaaGreatDoorStrItm
namespace Go.My
open Go.RowKit
/-- The index of the first element with a property, counted from k, or -1. -/
def idxFrom {α : Type} (p : α → Bool) : Nat → List α → Int
  | _, [] => -1
  | k, x :: r => if p x = true then (k : Int) else idxFrom p (k + 1) r
theorem idxFrom_at {α : Type} {p : α → Bool} {j k : Nat} {xs : List α} (hk : k < xs.length) : idxFrom p j (xs.drop k) = if p xs[k] = true then (j : Int) else idxFrom p (j + 1) (xs.drop (k + 1)) := by
  rw [List.drop_eq_getElem_cons hk]; rfl
theorem idxFrom_range {α : Type} (p : α → Bool) (k : Nat) (xs : List α) : -1 ≤ idxFrom p k xs ∧ idxFrom p k xs < k + xs.length ∧ (0 ≤ idxFrom p k xs → (k : Int) ≤ idxFrom p k xs) := by
  induction xs generalizing k with
  | nil => simp [idxFrom]; omega
  | cons x r ih =>
    simp only [idxFrom]
    split
    · simp; omega
    · have := ih (k + 1); simp only [List.length_cons]; omega
theorem idxFrom_any {α : Type} (p : α → Bool) (k : Nat) (xs : List α) : decide (0 ≤ idxFrom p k xs) = xs.any p := by
  induction xs generalizing k with
  | nil => simp [idxFrom]
  | cons x r ih =>
    by_cases h : p x = true
    · rw [show idxFrom p k (x :: r) = (k : Int) from if_pos h, List.any_cons, h]; simp
    · rw [show idxFrom p k (x :: r) = idxFrom p (k + 1) r from if_neg h, ih, List.any_cons]; simp at h; simp [h]
def idxOf {α : Type} (p : α → Bool) (xs : List α) : Int := idxFrom p 0 xs
theorem idxOf_range {α : Type} (p : α → Bool) (xs : List α) : -1 ≤ idxOf p xs ∧ idxOf p xs < xs.length := by
  have := idxFrom_range p 0 xs; unfold idxOf; omega
theorem idxOf_any {α : Type} (p : α → Bool) (xs : List α) : decide (0 ≤ idxOf p xs) = xs.any p := idxFrom_any p 0 xs
theorem idxFrom_get {α : Type} {p : α → Bool} {j : Nat} {xs : List α} (h : 0 ≤ idxFrom p j xs) : ∃ i : Nat, ∃ hi : i < xs.length, idxFrom p j xs = ((j + i : Nat) : Int) ∧ p xs[i] = true := by
  induction xs generalizing j with
  | nil => simp [idxFrom] at h
  | cons x r ih =>
    simp only [idxFrom] at h ⊢
    by_cases hx : p x = true
    · rw [if_pos hx]; exact ⟨0, by simp, by simp, hx⟩
    · rw [if_neg hx] at h ⊢
      obtain ⟨i, hi, e, hp⟩ := ih h
      exact ⟨i + 1, by simpa using hi, by rw [e]; omega, hp⟩
theorem idxOf_get {α : Type} {p : α → Bool} {xs : List α} (h : 0 ≤ idxOf p xs) : ∃ i : Nat, ∃ hi : i < xs.length, idxOf p xs = (i : Int) ∧ p xs[i] = true := by
  obtain ⟨i, hi, e, hp⟩ := idxFrom_get h
  exact ⟨i, hi, by unfold idxOf; rw [e]; simp, hp⟩
/-- Each element stands well behind those ahead of it. -/
def goodPre {α : Type} (q : List α → α → Bool) : List α → List α → Bool
  | _, [] => true
  | pre, x :: r => q pre x && goodPre q (pre ++ [x]) r
theorem goodPre_at {α : Type} {q : List α → α → Bool} {xs : List α} {k : Nat} (hk : k < xs.length) : goodPre q (xs.take k) (xs.drop k) = (q (xs.take k) xs[k] && goodPre q (xs.take (k + 1)) (xs.drop (k + 1))) := by
  rw [List.drop_eq_getElem_cons hk, List.take_succ_eq_append_getElem hk]; rfl
theorem goodPre_all {α : Type} {q : List α → α → Bool} {pre xs : List α} (h : goodPre q pre xs = true) : ∀ x ∈ xs, ∃ ys, q ys x = true := by
  induction xs generalizing pre with
  | nil => simp
  | cons x r ih =>
    simp only [goodPre, Bool.and_eq_true] at h
    intro y hy
    rcases List.mem_cons.1 hy with rfl | hy
    · exact ⟨_, h.1⟩
    · exact ih h.2 y hy
/-- The element ahead stands lower. -/
def lastLt {α : Type} (key : α → Int) (pre : List α) (x : α) : Bool := match pre.getLast? with
  | none => true
  | some y => decide (key y < key x)
theorem lastLt_zero {α : Type} (key : α → Int) (xs : List α) (x : α) : lastLt key (xs.take 0) x = true := rfl
theorem lastLt_succ {α : Type} (key : α → Int) (xs : List α) (k : Nat) (hk : k < xs.length) (x : α) : lastLt key (xs.take (k + 1)) x = decide (key xs[k] < key x) := by
  rw [List.take_succ_eq_append_getElem hk]; unfold lastLt; rw [List.getLast?_concat]
theorem any_take_succ {α : Type} (p : α → Bool) (xs : List α) (k : Nat) (hk : k < xs.length) : (xs.take (k + 1)).any p = ((xs.take k).any p || p xs[k]) := by
  rw [List.take_succ_eq_append_getElem hk, List.any_append]; simp only [List.any_cons, List.any_nil, Bool.or_false]
theorem any_take_mono {α : Type} {p : α → Bool} {xs : List α} {j k : Nat} (hjk : j ≤ k) (h : (xs.take j).any p = true) : (xs.take k).any p = true := by
  obtain ⟨x, hx, hp⟩ := List.any_eq_true.1 h
  have e : xs.take j = (xs.take k).take j := by rw [List.take_take, Nat.min_eq_left hjk]
  exact List.any_eq_true.2 ⟨x, List.mem_of_mem_take (by rw [← e]; exact hx), hp⟩
end Go.My
namespace Go.Proofs.YtfpjelpbeicdoaaGreatDoor
open Go.RowKit Go.My
/-- A closure that captures one cell answers the property, in every later world. -/
def TellsItmI (w : World) (q : Addr) (p : Itm → Bool) (xs : List Itm) : Prop := ∀ w1 : World, Below w.heap.size w w1 → ∀ s ∈ xs, Calls Tryz.prog 56 #[.agg #[.int .i64 s.id, .string s.title, .int .i64 s.mins, .int .i64 s.time], .pointer (some q)] w1 fun e w' => e = .returned (.bool (p s)) ∧ Below w1.heap.size w1 w'
set_option maxHeartbeats 400000 in
theorem indexItmI_any (q : Addr) (p : Itm → Bool) (A : Option Addr) (c : Nat) (xs : List Itm) (w : World) (hn : xs.length ≤ maxLen) (hx : Rd w A (itmCells xs)) (hp : Hid (TellsItmI w q p xs)) :
    Calls Tryz.prog 55 #[.slice A xs.length c, .func (.func 56) #[] #[.pointer (some q)]] w fun e w' => e = .returned (.int .i64 (idxOf p xs)) ∧ Below w.heap.size w w' := by
  unfold maxLen at hn
  go_enter Tryz.func55, Tryz.ntmps55
  go_wp2
  go_loopw [8] (fun i wr => ∃ k : Nat, k ≤ xs.length ∧ i = .int .i64 k ∧ Hid (idxOf p xs = idxFrom p k (xs.drop k)) ∧ Below w.heap.size w wr) (fun i _ => xs.length - (intOf i).toNat)
  case atStart => exact ⟨0, by omega, rfl, rfl, Below.refl _ _⟩
  case round =>
    obtain ⟨k, hk, rfl, H, hb⟩ := hrel
    by_cases hlt : k < xs.length
    · obtain ⟨b, off, rfl, c0, c1, c2, c3⟩ := Rd.itm (hx.below hb) hlt
      have hcall := hp.out _ hb xs[k] (List.getElem_mem _)
      have Hn := Lib.hid (H.out.trans (idxFrom_at hlt))
      clear H
      generalize xs[k] = s at *
      have Hc := Lib.hid hcall
      clear hcall
      by_cases hps : p s = true
      · have Hf := Lib.hid (Hn.out.trans (if_pos hps))
        clear Hn
        rw [hps] at Hc
        go_wp2_with (go_at_call 56; refine Hc.out.mono ?_; rintro e w1 ⟨rfl, hb1⟩)
        go_ret
        exact ⟨by rw [Hf.out]; rfl, btr hb hb1⟩
      · have Hf := Lib.hid (Hn.out.trans (if_neg hps))
        clear Hn
        have hps' : p s = false := by simpa using hps
        rw [hps'] at Hc
        go_wp2_with (go_at_call 56; refine Hc.out.mono ?_; rintro e w1 ⟨rfl, hb1⟩)
        go_roundw
        case rel => exact ⟨k + 1, by omega, by go_num, Hf, btr hb hb1⟩
        case measure => simp [intOf]; omega
    · have Hf := Lib.hid (H.out.trans (by rw [List.drop_eq_nil_of_le (by omega)]))
      clear H
      go_wp2
      go_ret
      exact ⟨by rw [Hf.out]; rfl, hb⟩
end Go.Proofs.YtfpjelpbeicdoaaGreatDoor

