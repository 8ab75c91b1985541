/-
  FnAgendas: plain laws of the times of a meeting. Conditions: none.
-/
import Derived.Test.YtfpjelpbeicdoaaGreatDoorItm3
namespace Go.My
open Go.RowKit
theorem endT_ge {t : Int} {xs : List Itm} (h : ∀ s ∈ xs, 0 ≤ s.mins) : t ≤ endT t xs := by
  induction xs generalizing t with
  | nil => exact Int.le_refl _
  | cons x r ih =>
    have hx := h x (by simp)
    have := ih (t := max t x.time + x.mins) (fun s hs => h s (by simp [hs]))
    simp only [endT]; omega
theorem endT_sum {t : Int} {xs : List Itm} : t + sumM xs ≤ endT t xs := by
  induction xs generalizing t with
  | nil => simp [endT, sumM]
  | cons x r ih =>
    have := ih (t := max t x.time + x.mins)
    simp only [endT, sumM]; omega
theorem pick_all {e t : Int} {xs : List Itm} (h : ∀ s ∈ xs, 0 ≤ s.mins) (he : endT t xs ≤ e) : (pickL (inTime e) t xs).length = xs.length := by
  induction xs generalizing t with
  | nil => rfl
  | cons x r ih =>
    simp only [endT] at he
    have h1 := endT_ge (t := max t x.time + x.mins) (xs := r) (fun s hs => h s (by simp [hs]))
    have h2 : inTime e (max t x.time) x = true := by unfold inTime; simp; omega
    have h3 := ih (t := max t x.time + x.mins) (fun s hs => h s (by simp [hs])) he
    simp only [pickL, h2, cond_true, List.length_append, List.length_cons, List.length_nil, h3]
    omega
theorem meets_in {xs : List Itm} {t : Int} (h : meets xs t = true) : goodItm xs = true ∧ 0 ≤ t ∧ t ≤ 1439 := by
  simp only [meets, Bool.and_eq_true, inB, decide_eq_true_eq] at h
  exact ⟨h.1, h.2.1, h.2.2⟩
/-- What the law says of a meeting's times. -/
theorem ag_law {xs : List Itm} {t : Int} (h : meets xs t = true) :
    (t ≤ endT t xs ∧ endT t xs ≤ 10000) ∧ 0 ≤ endT t xs - t - sumM xs ∧ (untilR xs t (endT t xs)).2 = true ∧ (untilR xs t (endT t xs)).1.length = xs.length ∧ (timesL t xs).length = xs.length ∧ (0 ≤ sumM xs ∧ sumM xs ≤ 2400) := by
  obtain ⟨hg, h0, h1⟩ := meets_in h
  obtain ⟨hl, hs⟩ := goodItm_in hg
  have he := endT_in h0 h1 hs
  have h2 := endT_sum (t := t) (xs := xs)
  have hin : inB (endT t xs) t 10000 = true := by unfold inB; simp; omega
  have hU : untilR xs t (endT t xs) = (pickL (inTime (endT t xs)) t xs, true) := if_pos (by rw [h, hin]; rfl)
  have h3 := sumM_in hs
  exact ⟨⟨he.1, by omega⟩, by omega, by rw [hU], by rw [hU]; exact pick_all (fun s hs' => by have := hs s hs'; omega) (Int.le_refl _), timesL_len t xs, by omega⟩
theorem times_at {xs : List Itm} {t : Int} (h : meets xs t = true) {k : Nat} (hk : k < xs.length) (hl : k < (timesL t xs).length) :
    t ≤ (timesL t xs)[k] ∧ xs[k].time ≤ (timesL t xs)[k] ∧ (timesL t xs)[k] ≤ 100000 := by
  obtain ⟨hg, h0, h1⟩ := meets_in h
  obtain ⟨hn, hs⟩ := goodItm_in hg
  have h2 := endT_ge (t := t) (xs := xs.take k) (fun s hs' => by have := hs s (List.mem_of_mem_take hs'); omega)
  have h3 := (timesL_in h0 h1 hn hs hk hl).2
  rw [timesL_get hk hl] at h3 ⊢
  omega
theorem times_next {xs : List Itm} {t : Int} {k : Nat} (hk : k + 1 < xs.length) (hl : k < (timesL t xs).length) (hl2 : k + 1 < (timesL t xs).length) :
    (timesL t xs)[k] + xs[k].mins ≤ (timesL t xs)[k + 1] := by
  rw [timesL_get (by omega) hl, timesL_get hk hl2, endT_at (by omega : k < xs.length)]
  omega
end Go.My
