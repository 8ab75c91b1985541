/-
  Plain laws of offices. Conditions: none.
-/
import Derived.Test.YtidmdppcamgaoaaMemb5
import Derived.Test.YtidmdppcamgaoaaMemb6
namespace Go.My
open Go.RowKit
theorem memClash_iff {s y : Mem} : memClash s y = true ↔ y.name.toList = s.name.toList ∨ (s.off ≠ 0 ∧ y.off = s.off) := by simp [memClash]
theorem give_fits {n o : Int} (ho : inB o 0 3 = true) {pre : List Mem} {x : Mem} (hlt : ∀ y ∈ pre, y.num < x.num) (h : memFits pre x = true) : memFits (pre.map (givM n o)) (givM n o x) = true := by
  simp only [memFits, Bool.and_eq_true, Bool.not_eq_true'] at h ⊢
  obtain ⟨⟨h1, h2⟩, h3⟩ := h
  refine ⟨⟨?_, ?_⟩, ?_⟩
  · simp only [memOk, Bool.and_eq_true, inB, decide_eq_true_eq] at h1 ho ⊢
    refine ⟨h1.1, ?_⟩
    simp only [givM]
    split
    · exact ho
    · split
      · omega
      · exact h1.2
  · unfold lastLt at h2 ⊢
    rw [List.getLast?_map]
    cases hl : pre.getLast? with
    | none => rfl
    | some y => rw [hl] at h2; exact h2
  · rw [List.any_eq_false] at h3 ⊢
    intro y' hy'
    obtain ⟨y, hy, rfl⟩ := List.mem_map.1 hy'
    have hc := h3 y hy
    have hl := hlt y hy
    rw [memClash_iff] at hc ⊢
    intro hh
    rcases hh with hh | ⟨h0, he⟩
    · exact hc (.inl hh)
    · simp only [givM] at h0 he
      by_cases hxn : x.num = n
      · have hyn : ¬ y.num = n := by omega
        simp only [hxn, if_true, hyn, if_false] at h0 he
        by_cases hyo : y.off = o
        · rw [if_pos hyo] at he; exact h0 he.symm
        · rw [if_neg hyo] at he; exact hyo he
      · simp only [hxn, if_false] at h0 he
        by_cases hxo : x.off = o
        · rw [if_pos hxo] at h0; exact h0 rfl
        · simp only [hxo, if_false] at h0 he
          by_cases hyn : y.num = n
          · rw [if_pos hyn] at he; exact hxo he.symm
          · rw [if_neg hyn] at he
            by_cases hyo : y.off = o
            · rw [if_pos hyo] at he; exact h0 he.symm
            · rw [if_neg hyo] at he; exact hc (.inr ⟨h0, he⟩)
theorem give_pre {n o : Int} (ho : inB o 0 3 = true) : ∀ (xs pre : List Mem), (pre ++ xs).Pairwise (fun a b => a.num < b.num) → goodPre memFits pre xs = true → goodPre memFits (pre.map (givM n o)) (xs.map (givM n o)) = true
  | [], _, _, _ => rfl
  | x :: r, pre, hp, h => by
    simp only [goodPre, Bool.and_eq_true, List.map_cons] at h ⊢
    refine ⟨give_fits ho (fun y hy => (List.pairwise_append.1 hp).2.2 y hy x (by simp)) h.1, ?_⟩
    have := give_pre (n := n) ho r (pre ++ [x]) (by simpa using hp) h.2
    simpa using this
theorem hold_give {n o : Int} (h0 : o ≠ 0) : ∀ (xs : List Mem), (∃ s ∈ xs, s.num = n) → holdL o (xs.map (givM n o)) = n
  | [], h => by simp at h
  | x :: r, h => by
    simp only [List.map_cons, holdL]
    by_cases hx : x.num = n
    · rw [if_pos (by simp [givM, hx])]; simp [givM, hx]
    · have : (givM n o x).off ≠ o := by
        simp only [givM, hx, if_false]
        split
        · exact fun e => h0 e.symm
        · assumption
      rw [if_neg this]
      refine hold_give h0 r ?_
      obtain ⟨s, hs, hn⟩ := h
      rcases List.mem_cons.1 hs with rfl | hs
      · exact absurd hn hx
      · exact ⟨s, hs, hn⟩
theorem give_law {xs : List Mem} {n o : Int} (h : (giveR xs n o).2 = true) : goodMem (giveR xs n o).1 = true ∧ (giveR xs n o).1.length = xs.length ∧ (o ≠ 0 → holderR (giveR xs n o).1 o = (n, true)) := by
  unfold giveR at h ⊢
  split at h
  · rename_i hc
    rw [if_pos hc]
    simp only [Bool.and_eq_true, decide_eq_true_eq] at hc
    obtain ⟨⟨hg, ho⟩, hi⟩ := hc
    have hg2 : goodMem (xs.map (givM n o)) = true := by
      have ha := goodMem_asc hg
      simp only [goodMem, Bool.and_eq_true] at hg ⊢
      exact ⟨give_pre ho xs [] (by simpa using ha) hg.1, by simpa using hg.2⟩
    refine ⟨hg2, by simp, fun h0 => ?_⟩
    obtain ⟨i, hi2, _, hp⟩ := idxOf_get hi
    have hn : (xs[i]).num = n := by simpa using hp
    have hl := hold_give (n := n) h0 xs ⟨xs[i], List.getElem_mem hi2, hn⟩
    have h1 := goodMem_num hg _ (List.getElem_mem hi2)
    unfold holderR
    rw [if_pos (by simp only [Bool.and_eq_true, decide_eq_true_eq]; exact ⟨⟨⟨hg2, ho⟩, h0⟩, by rw [hl]; omega⟩), hl]
  · simp at h
theorem give_names {xs : List Mem} {n o : Int} {b : Nat} (h : ∀ s ∈ xs, s.name.size ≤ b) : ∀ s ∈ (giveR xs n o).1, s.name.size ≤ b := by
  unfold giveR
  split
  · intro s hs
    obtain ⟨y, hy, rfl⟩ := List.mem_map.1 hs
    exact h y hy
  · simp
theorem give_len (xs : List Mem) (n o : Int) : (giveR xs n o).1.length ≤ xs.length := by
  unfold giveR
  split <;> simp
theorem whoFrom_has {xs : List Mem} {ps : List Int} (hp : ps ≠ []) : ∀ l, hasI ps (whoFrom xs ps l) = true
  | [] => by
    cases ps with
    | nil => exact absurd rfl hp
    | cons a r => simp [whoFrom, hasI]
  | x :: r => by
    unfold whoFrom
    split
    · assumption
    · exact whoFrom_has hp r
theorem pres_law {xs : List Mem} {ps : List Int} (h : (presR xs ps).2 = true) : hasI ps (presR xs ps).1 = true ∧ ((holderR xs 1).2 = true → hasI ps (holderR xs 1).1 = true → (presR xs ps).1 = (holderR xs 1).1) := by
  unfold presR at h ⊢
  split at h
  · rename_i hc
    rw [if_pos hc]
    simp only [Bool.and_eq_true, decide_eq_true_eq] at hc
    refine ⟨whoFrom_has (fun e => by subst e; exact hc.2 rfl) _, fun h1 h2 => ?_⟩
    unfold holderR at h1 h2 ⊢
    split at h1
    · rename_i hd
      rw [if_pos hd] at h2 ⊢
      show whoFrom xs ps [1, 2, 3] = _
      unfold whoFrom
      rw [if_pos h2]
    · simp at h1
  · simp at h
end Go.My

