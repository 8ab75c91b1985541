/-
  Insertion sort of a row of structs: the plain law of the library's insertion sort, and words for memory behind it. Conditions: none.
-/
import Derived.Test.YtngheildmhimoaaGreatDoorRow
import Derived.Shelf.SlSortCmp.InsertionK
namespace Go.My
open Go.RowKit Go.Sort Go.Proofs
section
variable {α : Type}
/-- Where x goes among the first k of o, looked for from the right. -/
def posR (lt : α → α → Bool) (x : α) (o : List α) : Nat → Nat
  | 0 => 0
  | k + 1 => match o[k]? with
    | some y => if lt x y = true then posR lt x o k else k + 1
    | none => k + 1
def insS (lt : α → α → Bool) (x : α) (o : List α) : List α := o.take (posR lt x o o.length) ++ x :: o.drop (posR lt x o o.length)
def sortS (lt : α → α → Bool) (xs : List α) : List α := xs.foldl (fun o x => insS lt x o) []
theorem posR_le (lt : α → α → Bool) (x : α) (o : List α) : ∀ k, posR lt x o k ≤ k
  | 0 => Nat.le_refl _
  | k + 1 => by
    unfold posR
    split
    · split
      · exact Nat.le_succ_of_le (posR_le lt x o k)
      · exact Nat.le_refl _
    · exact Nat.le_refl _
theorem insS_len (lt : α → α → Bool) (x : α) (o : List α) : (insS lt x o).length = o.length + 1 := by
  have := posR_le lt x o o.length
  simp [insS]; omega
theorem foldS_len (lt : α → α → Bool) : ∀ (xs o : List α), (xs.foldl (fun o x => insS lt x o) o).length = o.length + xs.length
  | [], o => rfl
  | x :: xs, o => by rw [List.foldl_cons, foldS_len lt xs, insS_len]; simp; omega
theorem sortS_len (lt : α → α → Bool) (xs : List α) : (sortS lt xs).length = xs.length := by unfold sortS; rw [foldS_len]; simp
theorem insS_mem {lt : α → α → Bool} {x y : α} {o : List α} (h : y ∈ insS lt x o) : y = x ∨ y ∈ o := by
  simp only [insS, List.mem_append, List.mem_cons] at h
  rcases h with h | h | h
  · exact .inr (List.mem_of_mem_take h)
  · exact .inl h
  · exact .inr (List.mem_of_mem_drop h)
theorem foldS_mem {lt : α → α → Bool} {y : α} : ∀ (xs o : List α), y ∈ xs.foldl (fun o x => insS lt x o) o → y ∈ o ∨ y ∈ xs
  | [], o, h => .inl h
  | x :: xs, o, h => by
    rcases foldS_mem xs _ h with h | h
    · rcases insS_mem h with rfl | h
      · exact .inr (by simp)
      · exact .inl h
    · exact .inr (by simp [h])
theorem sortS_mem {lt : α → α → Bool} {xs : List α} {y : α} (h : y ∈ sortS lt xs) : y ∈ xs := by
  rcases foldS_mem xs [] h with h | h
  · simp at h
  · exact h
variable [Inhabited α]
theorem insInner_posR (lt : α → α → Bool) (x : α) (o rest : List α) : ∀ (j : Nat), j ≤ o.length → ∀ d : Array α, d.toList = o.take j ++ x :: (o.drop j ++ rest) →
    (insInner lt 0 j d).toList = o.take (posR lt x o j) ++ x :: (o.drop (posR lt x o j) ++ rest)
  | 0, _, d, hd => by simpa [insInner, posR] using hd
  | j + 1, hj, d, hd => by
    obtain ⟨y, hy⟩ : ∃ y, o[j]? = some y := ⟨_, List.getElem?_eq_getElem (by omega)⟩
    obtain ⟨hj', rfl⟩ := List.getElem?_eq_some_iff.1 hy
    have ht : o.take (j + 1) = o.take j ++ [o[j]] := by rw [List.take_add_one, hy]; rfl
    have hdr : o.drop j = o[j] :: o.drop (j + 1) := List.drop_eq_getElem_cons hj'
    have hp : (o.take j).length = j := by simp; omega
    obtain ⟨l⟩ := d
    simp only at hd
    rw [ht] at hd
    generalize hP : o.take j = p at *
    have e1 : (⟨l⟩ : Array α)[j + 1]! = x := by
      simp only [List.getElem!_toArray, hd]
      simp [hp]
    have e2 : (⟨l⟩ : Array α)[j]! = o[j] := by
      simp only [List.getElem!_toArray, hd]
      simp [hp]
    unfold insInner posR
    rw [hy, e1, e2]
    simp only [gt_iff_lt, Nat.zero_lt_succ, decide_true, Bool.true_and]
    by_cases hl : lt x o[j] = true
    · rw [if_pos hl, if_pos hl]
      refine insInner_posR lt x o rest j (by omega) _ ?_
      rw [hP, hdr]
      unfold swp
      rw [e1, e2]
      simp only [List.setIfInBounds_toArray, hd, List.append_assoc, List.cons_append, List.nil_append]
      rw [List.set_append_right _ _ (by omega), List.set_append_right _ _ (by omega)]
      simp [hp]
    · rw [if_neg hl, if_neg hl]
      simp only [hd, ht]
theorem insOuter_fold (lt : α → α → Bool) : ∀ (xs o : List α) (d : Array α), d.toList = o ++ xs → (insOuter lt 0 (o.length + xs.length) o.length d).toList = xs.foldl (fun o x => insS lt x o) o
  | [], o, d, hd => by
    unfold insOuter
    rw [if_neg (by simp)]
    simpa using hd
  | x :: xs, o, d, hd => by
    unfold insOuter
    rw [if_pos (by simp)]
    have h1 := insInner_posR lt x o xs o.length (Nat.le_refl _) d (by simpa using hd)
    have h2 := insOuter_fold lt xs (insS lt x o) (insInner lt 0 o.length d) (by rw [h1]; simp [insS])
    rw [insS_len] at h2
    rw [List.foldl_cons, ← h2, List.length_cons, Nat.add_assoc, Nat.add_comm 1]
theorem insertionSort_list (lt : α → α → Bool) (xs : List α) : (insertionSort lt xs.toArray 0 xs.length).toList = sortS lt xs := by
  cases xs with
  | nil => rw [insertionSort, insOuter, if_neg (by simp)]; rfl
  | cons x xs =>
    have := insOuter_fold lt xs [x] (x :: xs).toArray (by simp)
    rw [insertionSort, List.length_cons, Nat.add_comm, Nat.zero_add]
    simp only [List.length_cons, List.length_nil, Nat.zero_add] at this
    rw [this]
    rfl
theorem flatK_list (f : α → List Value) (m : Nat) (hf : ∀ x, (f x).length = m) (xs : List α) : (flatK f m xs.toArray).toList = xs.flatMap f := by
  apply List.ext_getElem?
  intro t
  by_cases ht : t < xs.length * m
  · have hm : 0 < m := by rcases Nat.eq_zero_or_pos m with h | h; · subst h; simp at ht
                          · exact h
    have hq : t / m < xs.length := by rwa [Nat.div_lt_iff_lt_mul hm]
    have hr : t % m < m := Nat.mod_lt _ hm
    have e := flat_get f m hf xs (t / m) (t % m) hq hr
    rw [show t / m * m + t % m = t by rw [Nat.mul_comm]; exact Nat.div_add_mod t m] at e
    rw [e]
    simp [flatK, ht, hq, hf, hr]
  · rw [List.getElem?_eq_none (by simp; omega), List.getElem?_eq_none (by rw [flat_length f m hf]; omega)]
theorem holdsK_blk {w : World} {g : Nat} {e : TypeId} {L : List Value} (h : Blk w g e L) (f : α → List Value) (m : Nat) (hf : ∀ x, (f x).length = m) {xs : List α} (ht : L.take (xs.length * m) = xs.flatMap f) : HoldsK f m w g 0 xs.toArray := by
  intro j hj
  simp only [size_flatK, List.size_toArray] at hj
  have hb : w.heap[g]? = some (.cells L.toArray e (0, 0)) := h
  refine ⟨?_, by simp [World.frozen?, hb]⟩
  have h1 : (L.take (xs.length * m))[j]? = (flatK f m xs.toArray).toList[j]? := by rw [ht, flatK_list f m hf]
  rw [List.getElem?_take_of_lt hj] at h1
  rw [Nat.zero_add, cell_of_row w g j _ e (0, 0) hb]
  rw [List.getElem?_toArray, h1]
  simp [hj]
theorem putCells_list (F c : Array Value) (h : F.size ≤ c.size) : (putCells id 0 F c).toList = F.toList ++ c.toList.drop F.size := by
  apply List.ext_getElem?
  intro t
  by_cases ht : t < F.size
  · rw [List.getElem?_append_left (by simpa using ht)]
    simp [putCells, ht, show t < c.size by omega]
  · rw [List.getElem?_append_right (by simp; omega)]
    simp only [putCells, Nat.zero_add, Nat.zero_le, true_and, Array.toList_mapIdx, List.getElem?_mapIdx, Array.length_toList, List.getElem?_drop, Nat.sub_zero]
    rw [show F.size + (t - F.size) = t by omega]
    cases hc : c.toList[t]? with
    | none => rfl
    | some v => simp [ht]
theorem blk_sorted {w : World} {g m n : Nat} {e : TypeId} {L : List Value} (h : Blk w g e L) (f : α → List Value) (hf : ∀ x, (f x).length = m) (d : Array α) (os : Array Obj) (hl : d.size * m ≤ L.length) :
    Blk (sortWorldK f m w g 0 n d os) g e (d.toList.flatMap f ++ L.drop (d.size * m)) := by
  have hb : w.heap[g]? = some (.cells L.toArray e (0, 0)) := h
  have hg : g < w.heap.size := (Array.getElem?_eq_some_iff.1 hb).1
  unfold Blk sortWorldK putRowK
  rw [heap_grow_old _ _ (by simpa [putRow, mapBlock, Sort.ahead] using hg)]
  have e1 : putCells id 0 (flatK f m d) L.toArray = (d.toList.flatMap f ++ L.drop (d.size * m)).toArray := by
    apply Array.toList_inj.1
    rw [putCells_list _ _ (by simpa using hl), ← flatK_list f m hf]
    simp
  simp [putRow, mapBlock, Sort.ahead, Array.getElem?_modify, hb, onCells, e1]
theorem grown_sorted {w : World} {g m n : Nat} (f : α → List Value) (d : Array α) (os : Array Obj) : w.grownBy (sortWorldK f m w g 0 n d os) (some g) := by
  refine ⟨rfl, rfl, rfl, by simp [sortWorldK, putRowK, putRow, mapBlock, Sort.ahead], fun k hk hne => ?_⟩
  unfold sortWorldK putRowK
  rw [heap_grow_old _ _ (by simpa [putRow, mapBlock, Sort.ahead] using hk)]
  have : g ≠ k := fun e => hne (by rw [e])
  simp [putRow, mapBlock, Sort.ahead, Array.getElem?_modify, this]
end
end Go.My
