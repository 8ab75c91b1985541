/-
  Plain laws of agendas: what is moved and moved back, what is ordered. Conditions: none.
-/
import Derived.Test.YtpmliannnbfnmaaItm4
import Derived.Test.YtpmliannnbfnmaaItm5
namespace Go.My
open Go.RowKit
def itmP (xs : List Itm) : Prop := (∀ s ∈ xs, itmOk s = true) ∧ xs.Pairwise (fun a b => a.id ≠ b.id)
theorem goodPre_itm : ∀ (xs pre : List Itm), goodPre itmFits pre xs = true ↔ (itmP xs ∧ ∀ s ∈ xs, ∀ y ∈ pre, y.id ≠ s.id)
  | [], pre => by simp [goodPre, itmP]
  | x :: r, pre => by
    simp only [goodPre, Bool.and_eq_true, goodPre_itm r (pre ++ [x]), itmFits, Bool.not_eq_true', List.any_eq_false, beq_iff_eq, itmP, List.mem_cons, forall_eq_or_imp, List.pairwise_cons, List.mem_append, List.not_mem_nil, or_false]
    constructor
    · rintro ⟨⟨h1, h2⟩, ⟨h3, h4⟩, h5⟩
      exact ⟨⟨⟨h1, h3⟩, fun a ha => h5 a ha x (.inr rfl), h4⟩, h2, fun s hs y hy => h5 s hs y (.inl hy)⟩
    · rintro ⟨⟨⟨h1, h3⟩, h6, h4⟩, h2, h5⟩
      refine ⟨⟨h1, h2⟩, ⟨h3, h4⟩, fun s hs y hy => ?_⟩
      rcases hy with hy | rfl
      · exact h5 s hs y hy
      · exact h6 s hs
theorem goodItm_iff (xs : List Itm) : goodItm xs = true ↔ itmP xs ∧ xs.length ≤ 10 := by
  simp only [goodItm, Bool.and_eq_true, goodPre_itm, decide_eq_true_eq]
  simp
theorem goodItm_perm {xs ys : List Itm} (h : xs.Perm ys) (hg : goodItm xs = true) : goodItm ys = true := by
  rw [goodItm_iff] at hg ⊢
  exact ⟨⟨fun s hs => hg.1.1 s (h.mem_iff.2 hs), (h.pairwise_iff (fun h => Ne.symm h)).1 hg.1.2⟩, by rw [← h.length_eq]; exact hg.2⟩
theorem insAt_perm {α : Type} (l : List α) (j : Nat) (x : α) : (insAt l j x).Perm (x :: l) := by
  unfold insAt
  have := List.perm_middle (a := x) (l₁ := l.take j) (l₂ := l.drop j)
  rwa [List.take_append_drop] at this
theorem split_at {α : Type} {xs : List α} {k : Nat} (hk : k < xs.length) : xs = xs.take k ++ xs[k] :: xs.drop (k + 1) := by
  rw [← List.drop_eq_getElem_cons hk, List.take_append_drop]
theorem delAt_perm {α : Type} {xs : List α} {k : Nat} (hk : k < xs.length) : xs.Perm (xs[k] :: delAt xs k) := by
  conv => lhs; rw [split_at hk]
  exact List.perm_middle
theorem delAt_ins {α : Type} {l : List α} {j : Nat} (hj : j ≤ l.length) (x : α) : delAt (insAt l j x) j = l := by
  have h1 : (l.take j).length = j := by simp; omega
  unfold delAt insAt
  rw [List.take_left' h1]
  have : (l.take j ++ x :: l.drop j).drop (j + 1) = l.drop j := by
    rw [show l.take j ++ x :: l.drop j = (l.take j ++ [x]) ++ l.drop j by simp]
    exact List.drop_left' (by simp; omega)
  rw [this, List.take_append_drop]
theorem insAt_get {α : Type} {l : List α} {j : Nat} (hj : j ≤ l.length) (x : α) : (insAt l j x)[j]? = some x := by
  unfold insAt
  rw [List.getElem?_append_right (by simp; omega)]
  simp [Nat.min_eq_left hj]
theorem insAt_del {α : Type} {xs : List α} {k : Nat} (hk : k < xs.length) : insAt (delAt xs k) k xs[k] = xs := by
  have h1 : (xs.take k).length = k := by simp; omega
  unfold insAt delAt
  rw [List.take_left' h1, List.drop_left' h1]
  exact (split_at hk).symm
theorem uniq {xs : List Itm} (h : xs.Pairwise (fun a b => a.id ≠ b.id)) {i j : Nat} (hi : i < xs.length) (hj : j < xs.length) (e : xs[i].id = xs[j].id) : i = j := by
  rw [List.pairwise_iff_getElem] at h
  rcases Nat.lt_trichotomy i j with hl | rfl | hl
  · exact absurd e (h i j hi hj hl)
  · rfl
  · exact absurd e.symm (h j i hj hi hl)
theorem idx_is {xs : List Itm} (h : xs.Pairwise (fun a b => a.id ≠ b.id)) {j : Nat} (hj : j < xs.length) {id : Int} (e : xs[j].id = id) : idxOf (fun s : Itm => s.id == id) xs = (j : Int) := by
  have h0 : 0 ≤ idxOf (fun s : Itm => s.id == id) xs := by
    have := idxOf_any (fun s : Itm => s.id == id) xs
    rw [show xs.any (fun s : Itm => s.id == id) = true from List.any_eq_true.2 ⟨xs[j], List.getElem_mem hj, by simp [e]⟩] at this
    simpa using this
  obtain ⟨i, hi, hii, hp⟩ := idxOf_get h0
  have : xs[i].id = id := by simpa using hp
  rw [hii, uniq h hi hj (this.trans e.symm)]
theorem move_law {xs : List Itm} {id to : Int} (h : (moveR xs id to).2 = true) : ∃ k j : Nat, ∃ hk : k < xs.length, ∃ hj : j < (moveR xs id to).1.length, to = (j : Int) ∧ xs[k].id = id ∧ (∀ i, ∀ hi : i < xs.length, xs[i].id = id → i = k) ∧ (moveR xs id to).1[j].id = id ∧ moveR (moveR xs id to).1 id (k : Int) = (xs, true) := by
  by_cases hc : (goodItm xs && decide (0 ≤ idxOf (fun s : Itm => s.id == id) xs) && inB to 0 ((xs.length : Int) - 1)) = true
  · have hm : moveR xs id to = (moveL xs (idxOf (fun s : Itm => s.id == id) xs).toNat to.toNat, true) := if_pos hc
    simp only [Bool.and_eq_true, decide_eq_true_eq, inB] at hc
    obtain ⟨⟨hg, hi⟩, hto⟩ := hc
    obtain ⟨k, hk, hki, hp⟩ := idxOf_get hi
    have hid : xs[k].id = id := by simpa using hp
    obtain ⟨j, rfl⟩ : ∃ j : Nat, to = j := ⟨to.toNat, by omega⟩
    have hj : j ≤ (delAt xs k).length := by rw [delAt_len _ _ hk]; omega
    have hm2 : moveR xs id (j : Int) = (insAt (delAt xs k) j xs[k], true) := by
      rw [hm, hki, show ((k : Nat) : Int).toNat = k from Int.toNat_natCast k, show ((j : Nat) : Int).toNat = j from Int.toNat_natCast j, moveL_eq hk]
    have hP := ((goodItm_iff xs).1 hg).1.2
    have hlen : (insAt (delAt xs k) j xs[k]).length = xs.length := by rw [insAt_len _ _ _ hj, delAt_len _ _ hk]; omega
    have hperm : xs.Perm (insAt (delAt xs k) j xs[k]) := (delAt_perm hk).trans (insAt_perm _ _ _).symm
    have hg2 := goodItm_perm hperm hg
    have hP2 := ((goodItm_iff _).1 hg2).1.2
    have hget := insAt_get hj xs[k]
    have hjl : j < (insAt (delAt xs k) j xs[k]).length := by omega
    have hge : (insAt (delAt xs k) j xs[k])[j] = xs[k] := by
      rw [List.getElem?_eq_getElem hjl] at hget
      exact Option.some.inj hget
    have hix := idx_is (id := id) hP2 hjl (by rw [hge]; exact hid)
    rw [hm2]
    refine ⟨k, j, hk, hjl, rfl, hid, fun i hi2 e => uniq hP hi2 hk (e.trans hid.symm), by show (insAt (delAt xs k) j xs[k])[j].id = id; rw [hge]; exact hid, ?_⟩
    show moveR (insAt (delAt xs k) j xs[k]) id (k : Int) = (xs, true)
    unfold moveR
    rw [if_pos (by simp only [Bool.and_eq_true, decide_eq_true_eq, inB]; exact ⟨⟨hg2, by rw [hix]; omega⟩, by omega, by rw [hlen]; omega⟩), hix, show ((j : Nat) : Int).toNat = j from Int.toNat_natCast j, show ((k : Nat) : Int).toNat = k from Int.toNat_natCast k, moveL_eq hjl, hge, delAt_ins hj, insAt_del hk]
  · have hm : moveR xs id to = ([], false) := if_neg hc
    rw [hm] at h
    cases h
theorem posR_time {x : Itm} {o : List Itm} (h : o.Pairwise (fun a b => a.time ≤ b.time)) : ∀ k, k ≤ o.length → (∀ b ∈ (o.take k).drop (posR tLt x o k), x.time ≤ b.time) ∧ ∀ a ∈ o.take (posR tLt x o k), a.time ≤ x.time
  | 0, _ => by simp [posR]
  | k + 1, hk => by
    have hlt : k < o.length := by omega
    have ih := posR_time (x := x) h k (by omega)
    have hy : o[k]? = some o[k] := List.getElem?_eq_getElem hlt
    have ht : o.take (k + 1) = o.take k ++ [o[k]] := List.take_succ_eq_append_getElem hlt
    by_cases hc : tLt x o[k] = true
    · have hp : posR tLt x o (k + 1) = posR tLt x o k := by conv => lhs; unfold posR; rw [hy]; simp only [hc, if_true]
      rw [hp]
      refine ⟨?_, ih.2⟩
      have hle := posR_le tLt x o k
      rw [ht, List.drop_append_of_le_length (by simp; omega)]
      intro b hb
      rcases List.mem_append.1 hb with hb | hb
      · exact ih.1 b hb
      · simp at hb; subst hb
        simp only [tLt, decide_eq_true_eq] at hc; omega
    · have hp : posR tLt x o (k + 1) = k + 1 := by
        conv => lhs; unfold posR; rw [hy]
        exact if_neg hc
      rw [hp]
      simp only [tLt, decide_eq_true_eq] at hc
      refine ⟨by intro b hb; rw [List.drop_eq_nil_of_le (by simp; omega)] at hb; simp at hb, ?_⟩
      rw [ht]
      intro a ha
      rcases List.mem_append.1 ha with ha | ha
      · have h2 := h
        rw [← List.take_append_drop k o] at h2
        have := (List.pairwise_append.1 h2).2.2 a ha o[k] (by rw [List.drop_eq_getElem_cons hlt]; exact List.mem_cons_self)
        omega
      · simp at ha; subst ha; omega
theorem insS_time {x : Itm} {o : List Itm} (h : o.Pairwise (fun a b => a.time ≤ b.time)) : (insS tLt x o).Pairwise (fun a b => a.time ≤ b.time) := by
  obtain ⟨h1, h2⟩ := posR_time (x := x) h o.length (Nat.le_refl _)
  rw [List.take_length] at h1
  unfold insS
  have hh := h
  rw [← List.take_append_drop (posR tLt x o o.length) o] at hh
  obtain ⟨p1, p2, p3⟩ := List.pairwise_append.1 hh
  refine List.pairwise_append.2 ⟨p1, List.pairwise_cons.2 ⟨h1, p2⟩, fun a ha b hb => ?_⟩
  rcases List.mem_cons.1 hb with rfl | hb
  · exact h2 a ha
  · exact p3 a ha b hb
theorem foldS_time : ∀ (xs o : List Itm), o.Pairwise (fun a b => a.time ≤ b.time) → (xs.foldl (fun o x => insS tLt x o) o).Pairwise (fun a b => a.time ≤ b.time)
  | [], _, h => h
  | x :: r, o, h => by rw [List.foldl_cons]; exact foldS_time r _ (insS_time h)
theorem order_law (xs : List Itm) : ((orderR xs).2 = true → (orderR xs).1.length = xs.length) ∧ (orderR xs).1.Pairwise (fun a b => a.time ≤ b.time) := by
  unfold orderR
  split
  · exact ⟨fun _ => sortS_len _ _, foldS_time xs [] List.Pairwise.nil⟩
  · exact ⟨fun h => (by cases h), List.Pairwise.nil⟩
theorem order_titles {xs : List Itm} {b : Nat} (h : ∀ s ∈ xs, s.title.size ≤ b) : ∀ s ∈ (orderR xs).1, s.title.size ≤ b := by
  unfold orderR
  split
  · intro s hs; exact h s (sortS_mem hs)
  · simp
theorem order_le (xs : List Itm) : (orderR xs).1.length ≤ xs.length := by
  unfold orderR
  split
  · exact Nat.le_of_eq (sortS_len _ _)
  · simp
theorem move_titles {xs : List Itm} {id to : Int} {b : Nat} (h : ∀ s ∈ xs, s.title.size ≤ b) : ∀ s ∈ (moveR xs id to).1, s.title.size ≤ b := by
  unfold moveR
  split
  · rename_i hc
    simp only [Bool.and_eq_true, decide_eq_true_eq] at hc
    obtain ⟨k, hk, hki, _⟩ := idxOf_get hc.1.2
    rw [hki, show ((k : Nat) : Int).toNat = k from Int.toNat_natCast k]
    show ∀ s ∈ moveL xs k to.toNat, _
    rw [moveL_eq hk]
    intro s hs
    rcases insAt_mem hs with rfl | hs
    · exact h _ (List.getElem_mem hk)
    · rcases List.mem_append.1 hs with hs | hs
      · exact h s (List.mem_of_mem_take hs)
      · exact h s (List.mem_of_mem_drop hs)
  · simp
theorem move_len (xs : List Itm) (id to : Int) : (moveR xs id to).1.length ≤ xs.length := by
  unfold moveR
  split
  · rename_i hc
    simp only [Bool.and_eq_true, decide_eq_true_eq, inB] at hc
    obtain ⟨k, hk, hki, _⟩ := idxOf_get hc.1.2
    rw [hki, show ((k : Nat) : Int).toNat = k from Int.toNat_natCast k]
    show (moveL xs k to.toNat).length ≤ _
    rw [moveL_eq hk, insAt_len _ _ _ (by rw [delAt_len _ _ hk]; omega), delAt_len _ _ hk]; omega
  · simp
end Go.My

