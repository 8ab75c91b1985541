/-
  FnMembers: plain laws of members admitted, expelled and ordered by name. Conditions: none.
-/
import Derived.Test.YtngheildmhimoaaGreatDoorMemb3
import Derived.Test.YtngheildmhimoaaGreatDoorMemb4
import Derived.Test.YtngheildmhimoaaGreatDoorMemb7
namespace Go.My
open Go.RowKit
theorem goodPre_asc {α : Type} (key : α → Int) {q : List α → α → Bool} (hq : ∀ pre x, q pre x = true → lastLt key pre x = true) : ∀ (xs pre : List α), pre.Pairwise (fun a b => key a < key b) → goodPre q pre xs = true → (pre ++ xs).Pairwise (fun a b => key a < key b)
  | [], pre, h, _ => by simpa using h
  | x :: r, pre, h, hg => by
    simp only [goodPre, Bool.and_eq_true] at hg
    have h1 : (pre ++ [x]).Pairwise (fun a b => key a < key b) := by
      rw [List.pairwise_append]
      refine ⟨h, by simp, fun a ha b hb => ?_⟩
      simp only [List.mem_singleton] at hb
      subst hb
      have hl := hq pre b hg.1
      unfold lastLt at hl
      cases hp : pre.getLast? with
      | none =>
        have : pre = [] := List.getLast?_eq_none_iff.1 hp
        subst this; simp at ha
      | some y =>
        rw [hp] at hl
        have hy : key y < key b := by simpa using hl
        obtain ⟨ys, rfl⟩ := List.getLast?_eq_some_iff.1 hp
        rcases List.mem_append.1 ha with ha | ha
        · rw [List.pairwise_append] at h
          have := h.2.2 a ha y (by simp)
          omega
        · simp only [List.mem_singleton] at ha
          subst ha; exact hy
    have := goodPre_asc key hq r (pre ++ [x]) h1 hg.2
    simpa using this
theorem goodMem_asc {xs : List Mem} (h : goodMem xs = true) : xs.Pairwise (fun a b => a.num < b.num) := by
  simp only [goodMem, Bool.and_eq_true] at h
  have := goodPre_asc Mem.num (q := memFits) (fun pre x hq => by simp only [memFits, Bool.and_eq_true] at hq; exact hq.1.2) xs [] (by simp) h.1
  simpa using this
theorem uniqM {xs : List Mem} (h : xs.Pairwise (fun a b => a.num < b.num)) {i j : Nat} (hi : i < xs.length) (hj : j < xs.length) (e : xs[i].num = xs[j].num) : i = j := by
  rw [List.pairwise_iff_getElem] at h
  rcases Nat.lt_trichotomy i j with hl | rfl | hl
  · have := h i j hi hj hl; omega
  · rfl
  · have := h j i hj hi hl; omega
theorem idxM_is {xs : List Mem} (h : xs.Pairwise (fun a b => a.num < b.num)) {j : Nat} (hj : j < xs.length) {n : Int} (e : xs[j].num = n) : idxOf (fun s : Mem => s.num == n) xs = (j : Int) := by
  have h0 : 0 ≤ idxOf (fun s : Mem => s.num == n) xs := by
    have := idxOf_any (fun s : Mem => s.num == n) xs
    rw [show xs.any (fun s : Mem => s.num == n) = true from List.any_eq_true.2 ⟨xs[j], List.getElem_mem hj, by simp [e]⟩] at this
    simpa using this
  obtain ⟨i, hi, hii, hp⟩ := idxOf_get h0
  have : xs[i].num = n := by simpa using hp
  rw [hii, uniqM h hi hj (this.trans e.symm)]
theorem delAt_ins {l : List Mem} {j : Nat} (hj : j ≤ l.length) (x : Mem) : delAt (insAt l j x) j = l := by
  unfold delAt insAt
  have h1 : (l.take j).length = j := by rw [List.length_take]; omega
  rw [List.take_append_of_le_length (by omega), List.take_of_length_le (by omega), List.drop_append, h1, show j + 1 - j = 1 by omega, List.drop_eq_nil_of_le (by omega)]
  simp
theorem insAt_get {l : List Mem} {j : Nat} (hj : j ≤ l.length) (x : Mem) : (insAt l j x)[j]? = some x := by
  unfold insAt
  have h1 : (l.take j).length = j := by rw [List.length_take]; omega
  rw [List.getElem?_append_right (by omega), h1, Nat.sub_self]; rfl
theorem admit_law {xs : List Mem} {name : ByteArray} (h : (admitR xs name).2.2 = true) : goodMem (admitR xs name).1 = true ∧ expelR (admitR xs name).1 (admitR xs name).2.1 = (xs, true) := by
  unfold admitR at h ⊢
  split at h
  · rename_i h1
    split at h
    · rename_i h2
      rw [if_pos h1, if_pos h2]
      refine ⟨h2, ?_⟩
      have hgl := gap_le xs
      have hj : gap xs < (admitL xs name).length := by unfold admitL; rw [insAt_len _ _ _ hgl]; omega
      have hget : (admitL xs name)[gap xs]? = some ⟨(gap xs : Int) + 1, name, 0⟩ := insAt_get hgl _
      have hget2 : (admitL xs name)[gap xs] = ⟨(gap xs : Int) + 1, name, 0⟩ := by
        rw [List.getElem?_eq_getElem hj] at hget; exact Option.some.inj hget
      have hi := idxM_is (goodMem_asc h2) hj (n := (gap xs : Int) + 1) (by rw [hget2])
      have ho : offAt (admitL xs name) (gap xs) = 0 := by unfold offAt; rw [hget]
      have hd : delAt (admitL xs name) (gap xs) = xs := delAt_ins hgl _
      unfold expelR
      simp only
      rw [hi, Int.toNat_natCast, ho, hd, h2]
      simp
    · rename_i h2
      simp at h
  · simp at h
theorem admit_names {xs : List Mem} {name : ByteArray} {b : Nat} (h : ∀ s ∈ xs, s.name.size ≤ b) (hn : name.size ≤ b) : ∀ s ∈ (admitR xs name).1, s.name.size ≤ b := by
  unfold admitR
  split
  · split
    · intro s hs
      rcases insAt_mem hs with rfl | hs
      · exact hn
      · exact h s hs
    · simp
  · simp
theorem admit_len (xs : List Mem) (name : ByteArray) : (admitR xs name).1.length ≤ xs.length + 1 := by
  unfold admitR
  split
  · split
    · show (admitL xs name).length ≤ _
      unfold admitL; rw [insAt_len _ _ _ (gap_le xs)]; exact Nat.le_refl _
    · simp
  · simp
theorem expel_law {xs : List Mem} {n : Int} : ((expelR xs n).2 = true → (expelR xs n).1.length + 1 = xs.length) ∧ (expelR xs n).1.length ≤ xs.length := by
  unfold expelR
  split
  · rename_i h
    simp only [Bool.and_eq_true, decide_eq_true_eq] at h
    obtain ⟨i, hi, hii, _⟩ := idxOf_get h.1.2
    rw [hii, Int.toNat_natCast]
    have : (delAt xs i).length + 1 = xs.length := by
      unfold delAt
      rw [List.length_append, List.length_take, List.length_drop]; omega
    exact ⟨fun _ => this, by show (delAt xs i).length ≤ _; omega⟩
  · exact ⟨fun h => by simp at h, Nat.zero_le _⟩
theorem expel_names {xs : List Mem} {n : Int} {b : Nat} (h : ∀ s ∈ xs, s.name.size ≤ b) : ∀ s ∈ (expelR xs n).1, s.name.size ≤ b := by
  unfold expelR
  split
  · intro s hs
    rcases List.mem_append.1 hs with hs | hs
    · exact h s (List.mem_of_mem_take hs)
    · exact h s (List.mem_of_mem_drop hs)
  · simp
end Go.My
namespace Go.Proofs.YtngheildmhimoaaGreatDoor
open Go.RowKit Go.My
theorem byName_law {xs : List Mem} (h : (byNameR xs).2 = true) : (byNameR xs).1.length = xs.length := by
  unfold byNameR at h ⊢
  split at h
  · rename_i h1
    rw [if_pos h1]
    show (List.map _ _).length = _
    rw [List.length_map, sortS_len]
  · simp at h
end Go.Proofs.YtngheildmhimoaaGreatDoor
