/-
  Pairs of kinds and what follows from them: which kinds a kind yields to; rising lists. Plain laws, no program. Conditions: none.
-/
import Derived.Lib.Hide
namespace Go.My
structure Pr where
  a : Int
  b : Int
theorem pr_ext {x y : Pr} (h1 : x.a = y.a) (h2 : x.b = y.b) : x = y := by cases x; cases y; simp_all
/-- Reached in n + 1 steps. -/
def PathN (xs : List Pr) (s : Int) : Nat → Int → Prop
  | 0, k => ∃ x ∈ xs, x.a = s ∧ x.b = k
  | n + 1, k => ∃ x ∈ xs, PathN xs s n x.a ∧ x.b = k
def Plus (xs : List Pr) (s k : Int) : Prop := ∃ n, PathN xs s n k
theorem plus_one {xs : List Pr} {s : Int} {x : Pr} (h : x ∈ xs) (ha : x.a = s) : Plus xs s x.b := ⟨0, x, h, ha, rfl⟩
theorem plus_snoc {xs : List Pr} {s : Int} {x : Pr} (h : Plus xs s x.a) (hx : x ∈ xs) : Plus xs s x.b := by
  obtain ⟨n, hn⟩ := h
  exact ⟨n + 1, x, hx, hn, rfl⟩
/-- A closed set holds all that is reached. -/
theorem plus_closed {xs : List Pr} {s : Int} (C : Int → Prop) (h0 : ∀ x ∈ xs, x.a = s → C x.b) (h1 : ∀ x ∈ xs, C x.a → C x.b) {k : Int} (h : Plus xs s k) : C k := by
  obtain ⟨n, hn⟩ := h
  induction n generalizing k with
  | zero => obtain ⟨x, hx, ha, rfl⟩ := hn; exact h0 x hx ha
  | succ n ih => obtain ⟨x, hx, hp, rfl⟩ := hn; exact h1 x hx (ih hp)
theorem plus_trans {xs : List Pr} {s t k : Int} (h1 : Plus xs s t) (h2 : Plus xs t k) : Plus xs s k :=
  plus_closed (fun k => Plus xs s k) (fun x hx ha => plus_snoc (by rw [ha]; exact h1) hx) (fun x hx hp => plus_snoc hp hx) h2
theorem plus_mono {xs ys : List Pr} (h : ∀ x ∈ xs, x ∈ ys) {s k : Int} (hp : Plus xs s k) : Plus ys s k :=
  plus_closed (fun k => Plus ys s k) (fun x hx ha => plus_one (h x hx) ha) (fun x hx hq => plus_snoc hq (h x hx)) hp
theorem plus_in {xs : List Pr} {s k K : Int} (hx : ∀ x ∈ xs, 0 ≤ x.b ∧ x.b < K) (h : Plus xs s k) : 0 ≤ k ∧ k < K :=
  plus_closed (fun k => 0 ≤ k ∧ k < K) (fun x h _ => hx x h) (fun x h _ => hx x h) h
/-- Whatever is reached is reached by a pair. -/
theorem plus_last {xs : List Pr} {s k : Int} (h : Plus xs s k) : ∃ x ∈ xs, x.b = k ∧ (x.a = s ∨ Plus xs s x.a) := by
  obtain ⟨n, hn⟩ := h
  cases n with
  | zero => obtain ⟨x, hx, ha, e⟩ := hn; exact ⟨x, hx, e, .inl ha⟩
  | succ n => obtain ⟨x, hx, hp, e⟩ := hn; exact ⟨x, hx, e, .inr ⟨n, hp⟩⟩
theorem plus_first {xs : List Pr} {s k : Int} (h : Plus xs s k) : ∃ x ∈ xs, x.a = s ∧ (x.b = k ∨ Plus xs x.b k) := by
  refine plus_closed (fun k => ∃ x ∈ xs, x.a = s ∧ (x.b = k ∨ Plus xs x.b k)) (fun x hx ha => ⟨x, hx, ha, .inl rfl⟩) (fun x hx hq => ?_) h
  obtain ⟨y, hy, hya, hq⟩ := hq
  refine ⟨y, hy, hya, .inr ?_⟩
  rcases hq with hq | hq
  · exact plus_one hx hq.symm
  · exact plus_snoc hq hx
/-- The pairs that begin at s or behind one of F. -/
def actF (xs : List Pr) (s : Int) (F : List Pr) : List Pr := xs.filter fun x => x.a == s || F.any fun y => y.b == x.a
def fN (xs : List Pr) (s : Int) : Nat → List Pr
  | 0 => []
  | n + 1 => actF xs s (fN xs s n)
theorem actF_mem {xs F : List Pr} {s : Int} {x : Pr} : x ∈ actF xs s F ↔ x ∈ xs ∧ (x.a = s ∨ ∃ y ∈ F, y.b = x.a) := by
  simp [actF]
theorem fN_mono (xs : List Pr) (s : Int) : ∀ (n : Nat) (x : Pr), x ∈ fN xs s n → x ∈ fN xs s (n + 1)
  | 0, x, h => by simp [fN] at h
  | n + 1, x, h => by
    obtain ⟨h1, h2⟩ := actF_mem.1 h
    refine actF_mem.2 ⟨h1, h2.imp id ?_⟩
    rintro ⟨y, hy, e⟩
    exact ⟨y, fN_mono xs s n y hy, e⟩
theorem filter_grow {α : Type} {p q : α → Bool} : ∀ {xs : List α}, (∀ x ∈ xs, p x = true → q x = true) → (xs.filter p).length ≤ (xs.filter q).length ∧ ((xs.filter p).length = (xs.filter q).length → xs.filter p = xs.filter q)
  | [], _ => ⟨Nat.le_refl _, fun _ => rfl⟩
  | x :: xs, h => by
    obtain ⟨h1, h2⟩ := filter_grow (xs := xs) (fun y hy => h y (List.mem_cons_of_mem _ hy))
    by_cases hp : p x = true
    · have hq := h x (by simp) hp
      rw [List.filter_cons_of_pos hp, List.filter_cons_of_pos hq]
      simp only [List.length_cons]
      exact ⟨by omega, fun e => by rw [h2 (by omega)]⟩
    · rw [List.filter_cons_of_neg hp]
      by_cases hq : q x = true
      · rw [List.filter_cons_of_pos hq]
        simp only [List.length_cons]
        exact ⟨by omega, fun e => by omega⟩
      · rw [List.filter_cons_of_neg hq]
        exact ⟨h1, h2⟩
theorem fN_grow (xs : List Pr) (s : Int) (n : Nat) : (fN xs s (n + 1)).length ≤ (fN xs s (n + 2)).length ∧ ((fN xs s (n + 1)).length = (fN xs s (n + 2)).length → fN xs s (n + 1) = fN xs s (n + 2)) := by
  refine filter_grow fun x hx h => ?_
  have h1 : x ∈ fN xs s (n + 1) := List.mem_filter.2 ⟨hx, h⟩
  exact (List.mem_filter.1 (fN_mono xs s (n + 1) x h1)).2
theorem fN_stab (xs : List Pr) (s : Int) : ∀ n, (∃ m, m ≤ n ∧ fN xs s (m + 1) = fN xs s (m + 2)) ∨ n ≤ (fN xs s (n + 1)).length
  | 0 => .inr (Nat.zero_le _)
  | n + 1 => by
    rcases fN_stab xs s n with ⟨m, hm, e⟩ | h
    · exact .inl ⟨m, by omega, e⟩
    · obtain ⟨h1, h2⟩ := fN_grow xs s n
      by_cases e : (fN xs s (n + 1)).length = (fN xs s (n + 2)).length
      · exact .inl ⟨n, by omega, h2 e⟩
      · refine .inr (show n + 1 ≤ (fN xs s (n + 2)).length from ?_)
        omega
theorem fN_end (xs : List Pr) (s : Int) : fN xs s (xs.length + 3) = fN xs s (xs.length + 2) := by
  rcases fN_stab xs s (xs.length + 1) with ⟨m, hm, e⟩ | h
  · have st : ∀ j, fN xs s (m + 1 + j) = fN xs s (m + 1) := fun j => by
      induction j with
      | zero => rfl
      | succ j ih =>
        show actF xs s (fN xs s (m + 1 + j)) = _
        rw [ih]; exact e.symm
    have a := st (xs.length + 3 - (m + 1))
    have b := st (xs.length + 2 - (m + 1))
    rw [show m + 1 + (xs.length + 3 - (m + 1)) = xs.length + 3 by omega] at a
    rw [show m + 1 + (xs.length + 2 - (m + 1)) = xs.length + 2 by omega] at b
    rw [a, b]
  · have : (fN xs s (xs.length + 1 + 1)).length ≤ xs.length := List.length_filter_le _ _
    omega
def reachB (xs : List Pr) (s k : Int) : Bool := (fN xs s (xs.length + 2)).any fun y => y.b == k
theorem fN_sound {xs : List Pr} {s : Int} : ∀ (n : Nat) (x : Pr), x ∈ fN xs s n → Plus xs s x.b
  | 0, x, h => by simp [fN] at h
  | n + 1, x, h => by
    obtain ⟨h1, h2⟩ := actF_mem.1 h
    rcases h2 with e | ⟨y, hy, e⟩
    · exact plus_one h1 e
    · have := fN_sound n y hy
      rw [e] at this
      exact plus_snoc this h1
theorem reachB_true {xs : List Pr} {s k : Int} : reachB xs s k = true ↔ Plus xs s k := by
  unfold reachB
  rw [List.any_eq_true]
  constructor
  · rintro ⟨y, hy, e⟩
    rw [beq_iff_eq] at e
    rw [← e]; exact fN_sound _ y hy
  · intro h
    obtain ⟨y, hy, e⟩ := plus_closed (xs := xs) (s := s) (fun k => ∃ y ∈ fN xs s (xs.length + 2), y.b = k) (fun x hx ha => by
      refine ⟨x, ?_, rfl⟩
      rw [← fN_end]
      exact actF_mem.2 ⟨hx, .inl ha⟩) (fun x hx hp => by
      refine ⟨x, ?_, rfl⟩
      rw [← fN_end]
      exact actF_mem.2 ⟨hx, .inr hp⟩) h
    exact ⟨y, hy, by rw [beq_iff_eq]; exact e⟩
theorem reachB_false {xs : List Pr} {s k : Int} : reachB xs s k = false ↔ ¬ Plus xs s k := by
  rw [← Bool.not_eq_true, reachB_true]
/-! ### Rising lists -/
theorem asc_ext : ∀ {l l' : List Int}, l.Pairwise (· < ·) → l'.Pairwise (· < ·) → (∀ k, k ∈ l ↔ k ∈ l') → l = l'
  | [], [], _, _, _ => rfl
  | [], y :: _, _, _, h => by have := (h y).2 (by simp); simp at this
  | x :: _, [], _, _, h => by have := (h x).1 (by simp); simp at this
  | x :: l, y :: l', h1, h2, h => by
    rw [List.pairwise_cons] at h1 h2
    have hx : x ∈ y :: l' := (h x).1 (by simp)
    have hy : y ∈ x :: l := (h y).2 (by simp)
    have e : x = y := by
      rcases List.mem_cons.1 hx with e | hx'
      · exact e
      · rcases List.mem_cons.1 hy with e | hy'
        · exact e.symm
        · have a := h2.1 x hx'; have b := h1.1 y hy'; omega
    subst e
    have := asc_ext h1.2 h2.2 (fun k => by
      constructor
      · intro hk
        rcases List.mem_cons.1 ((h k).1 (List.mem_cons_of_mem _ hk)) with e | h'
        · have := h1.1 k hk; omega
        · exact h'
      · intro hk
        rcases List.mem_cons.1 ((h k).2 (List.mem_cons_of_mem _ hk)) with e | h'
        · have := h2.1 k hk; omega
        · exact h')
    rw [this]
/-- The kinds below n that meet p, rising. -/
def selTo (p : Int → Bool) : Nat → List Int
  | 0 => []
  | n + 1 => if p n = true then selTo p n ++ [(n : Int)] else selTo p n
theorem selTo_mem {p : Int → Bool} {n : Nat} {k : Int} : k ∈ selTo p n ↔ 0 ≤ k ∧ k < n ∧ p k = true := by
  induction n with
  | zero => simp [selTo]; omega
  | succ n ih =>
    simp only [selTo]
    by_cases h : p n = true
    · rw [if_pos h, List.mem_append, ih]
      simp only [List.mem_singleton]
      constructor
      · rintro (⟨h1, h2, h3⟩ | rfl)
        · exact ⟨h1, by omega, h3⟩
        · exact ⟨by omega, by omega, h⟩
      · rintro ⟨h1, h2, h3⟩
        by_cases e : k = (n : Int)
        · exact .inr e
        · exact .inl ⟨h1, by omega, h3⟩
    · rw [if_neg h, ih]
      constructor
      · rintro ⟨h1, h2, h3⟩; exact ⟨h1, by omega, h3⟩
      · rintro ⟨h1, h2, h3⟩
        refine ⟨h1, ?_, h3⟩
        by_cases e : k = (n : Int)
        · subst e; exact absurd h3 h
        · omega
theorem selTo_asc (p : Int → Bool) (n : Nat) : (selTo p n).Pairwise (· < ·) := by
  induction n with
  | zero => simp [selTo]
  | succ n ih =>
    simp only [selTo]
    by_cases h : p n = true
    · rw [if_pos h, List.pairwise_append]
      refine ⟨ih, by simp, fun x hx y hy => ?_⟩
      have := (selTo_mem.1 hx).2.1
      simp at hy; omega
    · rw [if_neg h]; exact ih
theorem selTo_len (p : Int → Bool) (n : Nat) : (selTo p n).length ≤ n := by
  induction n with
  | zero => simp [selTo]
  | succ n ih =>
    simp only [selTo]
    split
    · simp; omega
    · omega
theorem selTo_congr {p q : Int → Bool} {n : Nat} (h : ∀ k : Int, 0 ≤ k → k < n → p k = q k) : selTo p n = selTo q n := by
  induction n with
  | zero => rfl
  | succ n ih =>
    simp only [selTo]
    rw [ih (fun k h0 h1 => h k h0 (by omega)), h n (by omega) (by omega)]
/-- A rising list of what meets p is that selection. -/
theorem asc_sel {p : Int → Bool} {n : Nat} {l : List Int} (ha : l.Pairwise (· < ·)) (hm : ∀ k, k ∈ l ↔ 0 ≤ k ∧ k < n ∧ p k = true) : l = selTo p n :=
  asc_ext ha (selTo_asc p n) (fun k => by rw [hm, selTo_mem])
/-- A rising list below n has n elements at the most. -/
theorem asc_len : ∀ {l : List Int} {lo n : Int}, l.Pairwise (· < ·) → (∀ k ∈ l, lo ≤ k ∧ k < n) → lo ≤ n → (l.length : Int) ≤ n - lo
  | [], lo, n, _, _, h => by simp; omega
  | x :: l, lo, n, h, hm, hl => by
    rw [List.pairwise_cons] at h
    have hx := hm x (by simp)
    have := asc_len (lo := x + 1) (n := n) h.2 (fun k hk => ⟨by have := h.1 k hk; omega, (hm k (List.mem_cons_of_mem _ hk)).2⟩) (by omega)
    simp only [List.length_cons]; omega
/-- A number put to its place. -/
def putAt (l : List Int) (n : Int) : Nat → List Int := fun k => l.take k ++ n :: l.drop k
theorem putAt_len (l : List Int) (n : Int) (k : Nat) (hk : k ≤ l.length) : (putAt l n k).length = l.length + 1 := by
  simp [putAt]; omega
theorem putAt_mem {l : List Int} {n x : Int} {k : Nat} : x ∈ putAt l n k ↔ x = n ∨ x ∈ l := by
  unfold putAt
  rw [List.mem_append, List.mem_cons]
  conv => rhs; rw [← List.take_append_drop k l, List.mem_append]
  constructor
  · rintro (h | h | h)
    · exact .inr (.inl h)
    · exact .inl h
    · exact .inr (.inr h)
  · rintro (h | h | h)
    · exact .inr (.inl h)
    · exact .inl h
    · exact .inr (.inr h)
theorem putAt_asc {l : List Int} {n : Int} {k : Nat} (h : l.Pairwise (· < ·)) (h1 : ∀ x ∈ l.take k, x < n) (h2 : ∀ x ∈ l.drop k, n < x) : (putAt l n k).Pairwise (· < ·) := by
  have h' := h
  rw [← List.take_append_drop k l, List.pairwise_append] at h'
  obtain ⟨a, b, c⟩ := h'
  unfold putAt
  rw [List.pairwise_append, List.pairwise_cons]
  refine ⟨a, ⟨h2, b⟩, fun x hx y hy => ?_⟩
  rcases List.mem_cons.1 hy with rfl | hy
  · exact h1 x hx
  · exact c x hx y hy
/-- In a rising list what stands behind an element that is not below n, and is not n, stands above n. -/
theorem asc_drop {l : List Int} {n : Int} {k : Nat} (h : l.Pairwise (· < ·)) (hk : ∀ x, l[k]? = some x → n < x) : ∀ x ∈ l.drop k, n < x := by
  intro x hx
  by_cases hl : k < l.length
  · have e := List.drop_eq_getElem_cons hl
    have hd : (l.drop k).Pairwise (· < ·) := by
      have h' := h
      rw [← List.take_append_drop k l, List.pairwise_append] at h'
      exact h'.2.1
    have h0 := hk l[k] (List.getElem?_eq_getElem hl)
    rw [e] at hx hd
    rw [List.pairwise_cons] at hd
    rcases List.mem_cons.1 hx with rfl | hx
    · exact h0
    · have := hd.1 x hx; omega
  · rw [List.drop_of_length_le (by omega)] at hx; simp at hx
theorem asc_notin {l : List Int} {n : Int} {k : Nat} (h : l.Pairwise (· < ·)) (h1 : ∀ x ∈ l.take k, x < n) (hk : ∀ x, l[k]? = some x → n < x) : n ∉ l := by
  intro hn
  rw [← List.take_append_drop k l, List.mem_append] at hn
  rcases hn with hn | hn
  · have := h1 n hn; omega
  · have := asc_drop h hk n hn; omega
/-! ### What a kind yields to, as a row of answers -/
/-- The answers of a row of n bools. -/
def rowB (p : Int → Bool) (n : Nat) : List Bool := (List.range n).map fun (k : Nat) => p (k : Int)
theorem rowB_len (p : Int → Bool) (n : Nat) : (rowB p n).length = n := by simp [rowB]
theorem rowB_get (p : Int → Bool) (n k : Nat) (h : k < (rowB p n).length) : (rowB p n)[k] = p (k : Int) := by simp [rowB]
theorem rowB_ext {L : List Bool} {p : Int → Bool} {n : Nat} (hl : L.length = n) (h : ∀ k (hk : k < L.length), L[k] = p (k : Int)) : L = rowB p n := by
  apply List.ext_getElem (by rw [rowB_len, hl])
  intro k h1 h2
  rw [h k h1, rowB_get]
/-! ### Chains of pairs that end -/
theorem nodup_sub_len {α : Type} [BEq α] [LawfulBEq α] : ∀ {l l' : List α}, l.Nodup → (∀ x ∈ l, x ∈ l') → l.length ≤ l'.length
  | [], _, _, _ => Nat.zero_le _
  | x :: l, l', h, hs => by
    rw [List.nodup_cons] at h
    have hx := hs x (by simp)
    have := nodup_sub_len (l := l) (l' := l'.erase x) h.2 (fun y hy => (List.mem_erase_of_ne (fun e => h.1 (by rw [← e]; exact hy))).2 (hs y (List.mem_cons_of_mem _ hy)))
    rw [List.length_erase_of_mem hx] at this
    have hp := List.length_pos_of_mem hx
    simp only [List.length_cons]; omega
/-- The kinds below n. -/
def kindsTo (n : Nat) : List Int := (List.range n).map fun (k : Nat) => (k : Int)
theorem kindsTo_len (n : Nat) : (kindsTo n).length = n := by simp [kindsTo]
theorem kindsTo_mem {n : Nat} {k : Int} : k ∈ kindsTo n ↔ 0 ≤ k ∧ k < n := by
  simp only [kindsTo, List.mem_map, List.mem_range]
  constructor
  · rintro ⟨j, hj, rfl⟩; omega
  · rintro ⟨h1, h2⟩; exact ⟨k.toNat, by omega, by omega⟩
theorem kindsTo_nodup (n : Nat) : (kindsTo n).Nodup := by
  unfold kindsTo
  rw [List.Nodup, List.pairwise_map]
  exact (List.nodup_range (n := n)).imp fun h e => h (by omega)
theorem nodup_len {l : List Int} {K : Nat} (h : l.Nodup) (hm : ∀ x ∈ l, 0 ≤ x ∧ x < K) : l.length ≤ K := by
  have := nodup_sub_len (l' := kindsTo K) h (fun x hx => kindsTo_mem.2 (hm x hx))
  rwa [kindsTo_len] at this
/-- Whatever is too short lacks a kind. -/
theorem some_lacks {l : List Int} {K : Nat} (h : l.length < K) : ∃ k : Int, 0 ≤ k ∧ k < K ∧ k ∉ l := by
  by_cases hq : ∃ k : Int, 0 ≤ k ∧ k < K ∧ k ∉ l
  · exact hq
  · have := nodup_sub_len (l := kindsTo K) (l' := l) (kindsTo_nodup K) (fun x hx => by
      have := kindsTo_mem.1 hx
      by_cases hx' : x ∈ l
      · exact hx'
      · exact absurd ⟨x, this.1, this.2, hx'⟩ hq)
    rw [kindsTo_len] at this; omega
/-- No more than f pairs in a row end at k. -/
def Up (xs : List Pr) : Nat → Int → Prop
  | 0, k => ∀ x ∈ xs, x.b ≠ k
  | f + 1, k => ∀ x ∈ xs, x.b = k → Up xs f x.a
def InK (xs : List Pr) (K : Nat) : Prop := ∀ x ∈ xs, (0 ≤ x.a ∧ x.a < K) ∧ 0 ≤ x.b ∧ x.b < K
def Acyc (xs : List Pr) : Prop := ∀ k, ¬ Plus xs k k
theorem up_aux {xs : List Pr} {K : Nat} (hx : InK xs K) (ha : Acyc xs) : ∀ (f : Nat) (k : Int) (vis : List Int), (0 ≤ k ∧ k < K) → (∀ v ∈ vis, Plus xs k v ∧ 0 ≤ v ∧ v < K) → vis.Nodup → K ≤ vis.length + f + 1 → Up xs f k
  | 0, k, vis, hk, hv, hn, hl => fun x hm e => by
    have h1 : Plus xs x.a k := e ▸ plus_one hm rfl
    have h2 : (x.a :: k :: vis).Nodup := by
      rw [List.nodup_cons, List.nodup_cons]
      refine ⟨fun hi => ?_, fun hi => ha _ (hv _ hi).1, hn⟩
      rcases List.mem_cons.1 hi with e2 | hi
      · exact ha k (by rw [e2] at h1; exact h1)
      · exact ha _ (plus_trans h1 (hv _ hi).1)
    have := nodup_len h2 (fun y hy => by
      rcases List.mem_cons.1 hy with rfl | hy
      · exact (hx x hm).1
      · rcases List.mem_cons.1 hy with rfl | hy
        · exact hk
        · exact (hv y hy).2)
    simp only [List.length_cons] at this; omega
  | f + 1, k, vis, hk, hv, hn, hl => fun x hm e => by
    have h1 : Plus xs x.a k := e ▸ plus_one hm rfl
    refine up_aux hx ha f x.a (k :: vis) (hx x hm).1 (fun v hvm => ?_) ?_ (by simp only [List.length_cons]; omega)
    · rcases List.mem_cons.1 hvm with rfl | hvm
      · exact ⟨h1, hk⟩
      · exact ⟨plus_trans h1 (hv v hvm).1, (hv v hvm).2⟩
    · rw [List.nodup_cons]
      exact ⟨fun hi => ha _ (hv _ hi).1, hn⟩
theorem up_all {xs : List Pr} {K : Nat} (hx : InK xs K) (ha : Acyc xs) (hK : 1 ≤ K) {k : Int} (hk : 0 ≤ k ∧ k < K) : Up xs (K - 1) k :=
  up_aux hx ha (K - 1) k [] hk (by simp) (by simp) (by simp; omega)
/-! ### The greatest number of pairs in a row that end at a kind -/
def rankB (xs : List Pr) : Nat → Int → Int
  | 0, _ => 0
  | f + 1, k => xs.foldl (fun r x => if x.b = k then max r (rankB xs f x.a + 1) else r) 0
def rankFold (g : Int → Int) (k : Int) (l : List Pr) (r : Int) : Int := l.foldl (fun r x => if x.b = k then max r (g x.a + 1) else r) r
theorem rankB_succ (xs : List Pr) (f : Nat) (k : Int) : rankB xs (f + 1) k = rankFold (rankB xs f) k xs 0 := rfl
theorem rankFold_ge (g : Int → Int) (k : Int) : ∀ (l : List Pr) (r : Int), r ≤ rankFold g k l r
  | [], r => Int.le_refl _
  | x :: l, r => by
    have h := rankFold_ge g k l (if x.b = k then max r (g x.a + 1) else r)
    have h2 : r ≤ (if x.b = k then max r (g x.a + 1) else r) := by split <;> omega
    exact Int.le_trans h2 h
theorem rankFold_mem {g : Int → Int} {k : Int} : ∀ {l : List Pr} {r : Int} {x : Pr}, x ∈ l → x.b = k → g x.a + 1 ≤ rankFold g k l r
  | y :: l, r, x, hx, e => by
    rcases List.mem_cons.1 hx with rfl | hx
    · have h := rankFold_ge g k l (max r (g x.a + 1))
      show g x.a + 1 ≤ rankFold g k l (if x.b = k then max r (g x.a + 1) else r)
      rw [if_pos e]; omega
    · exact rankFold_mem (l := l) hx e
theorem rankFold_le {g : Int → Int} {k M : Int} : ∀ {l : List Pr} {r : Int}, r ≤ M → (∀ x ∈ l, x.b = k → g x.a + 1 ≤ M) → rankFold g k l r ≤ M
  | [], r, h, _ => h
  | x :: l, r, h, hx => by
    refine rankFold_le (l := l) (r := if x.b = k then max r (g x.a + 1) else r) ?_ (fun y hy => hx y (List.mem_cons_of_mem _ hy))
    split
    · rename_i e; have := hx x (by simp) e; omega
    · exact h
theorem rankFold_congr {g g' : Int → Int} {k : Int} : ∀ {l : List Pr} {r : Int}, (∀ x ∈ l, x.b = k → g x.a = g' x.a) → rankFold g k l r = rankFold g' k l r
  | [], _, _ => rfl
  | x :: l, r, h => by
    have e : (if x.b = k then max r (g x.a + 1) else r) = (if x.b = k then max r (g' x.a + 1) else r) := by
      split
      · rename_i e; rw [h x (by simp) e]
      · rfl
    show rankFold g k l (if x.b = k then max r (g x.a + 1) else r) = rankFold g' k l (if x.b = k then max r (g' x.a + 1) else r)
    rw [e]
    exact rankFold_congr (fun y hy => h y (List.mem_cons_of_mem _ hy))
theorem rankFold_snoc (g : Int → Int) (k : Int) (l : List Pr) (x : Pr) (r : Int) : rankFold g k (l ++ [x]) r = if x.b = k then max (rankFold g k l r) (g x.a + 1) else rankFold g k l r := by
  simp [rankFold, List.foldl_append]
theorem rankB_le (xs : List Pr) : ∀ (f : Nat) (k : Int), 0 ≤ rankB xs f k ∧ rankB xs f k ≤ f
  | 0, _ => by simp [rankB]
  | f + 1, k => by
    rw [rankB_succ]
    refine ⟨rankFold_ge _ _ _ _, rankFold_le (by omega) (fun x _ _ => ?_)⟩
    have := (rankB_le xs f x.a).2; omega
theorem rankB_more {xs : List Pr} : ∀ {f : Nat} {k : Int}, Up xs f k → ∀ j, rankB xs (f + 1 + j) k = rankB xs (f + 1) k
  | 0, k, h, j => by
    rw [show 0 + 1 + j = j + 1 by omega, rankB_succ, rankB_succ]
    exact rankFold_congr (fun x hx e => absurd e (h x hx))
  | f + 1, k, h, j => by
    rw [show f + 1 + 1 + j = (f + 1 + j) + 1 by omega, rankB_succ, rankB_succ]
    exact rankFold_congr (fun x hx e => rankB_more (h x hx e) j)
/-- Where no pairs lead round, the ranks stand. -/
theorem rankB_edge {xs : List Pr} {K : Nat} (hx : InK xs K) (ha : Acyc xs) (hK : 1 ≤ K) {x : Pr} (hm : x ∈ xs) : rankB xs K x.a + 1 ≤ rankB xs K x.b := by
  have h := up_all hx ha hK (hx x hm).2
  have e := rankB_more h 1
  rw [show K - 1 + 1 = K by omega] at e
  rw [← e, rankB_succ]
  exact rankFold_mem hm rfl
def ranksL (xs : List Pr) (K : Nat) : List Int := (List.range K).map fun (k : Nat) => rankB xs K (k : Int)
theorem ranksL_len (xs : List Pr) (K : Nat) : (ranksL xs K).length = K := by simp [ranksL]
/-! ### The order of the kinds -/
def hasK (l : List Int) (k : Int) : Bool := l.any fun y => y == k
theorem hasK_iff {l : List Int} {k : Int} : hasK l k = true ↔ k ∈ l := by
  simp [hasK]
def readyB (xs : List Pr) (o : List Int) (k : Int) : Bool := !hasK o k && !(xs.any fun x => x.b == k && !hasK o x.a)
theorem ready_ex {xs : List Pr} {K : Nat} (hx : InK xs K) {o : List Int} : ∀ (f : Nat) (k : Int), (0 ≤ k ∧ k < K) → k ∉ o → Up xs f k → ∃ k' : Int, 0 ≤ k' ∧ k' < K ∧ readyB xs o k' = true
  | f, k, hk, ho, hu => by
    by_cases hr : readyB xs o k = true
    · exact ⟨k, hk.1, hk.2, hr⟩
    · have h1 : hasK o k = false := by
        rw [← Bool.not_eq_true]; exact fun h => ho (hasK_iff.1 h)
      have hr2 : (xs.any fun x => x.b == k && !hasK o x.a) = true := by
        cases hq : (xs.any fun x => x.b == k && !hasK o x.a) with
        | true => rfl
        | false => exact absurd (by rw [readyB, h1, hq]; rfl) hr
      obtain ⟨x, hm, hq⟩ := List.any_eq_true.1 hr2
      rw [Bool.and_eq_true, beq_iff_eq, Bool.not_eq_true'] at hq
      obtain ⟨e, hn⟩ := hq
      have hn' : x.a ∉ o := fun h => by rw [hasK_iff.2 h] at hn; exact absurd hn (by decide)
      match f, hu with
      | 0, hu => exact absurd e (hu x hm)
      | f + 1, hu => exact ready_ex hx f x.a (hx x hm).1 hn' (hu x hm e)
/-- The first kind that meets p, or -1. -/
def firstK (p : Int → Bool) (n : Nat) : Int := ((kindsTo n).find? p).getD (-1)
theorem firstK_is {p : Int → Bool} {n k : Nat} (hk : k < n) (hp : p k = true) (h : ∀ j : Nat, j < k → p j = false) : firstK p n = k := by
  have e : kindsTo n = kindsTo k ++ (k : Int) :: (List.range' (k + 1) (n - (k + 1))).map fun (j : Nat) => (j : Int) := by
    unfold kindsTo
    have : List.range n = List.range k ++ k :: List.range' (k + 1) (n - (k + 1)) := by
      rw [List.range_eq_range', List.range_eq_range', ← List.range'_succ]
      have := List.range'_append_1 (s := 0) (m := k) (n := n - (k + 1) + 1)
      rw [Nat.zero_add] at this
      rw [this]
      congr 1; omega
    rw [this, List.map_append, List.map_cons]
  unfold firstK
  rw [e, List.find?_append, List.find?_eq_none.2 (fun x hx => by
    obtain ⟨h1, h2⟩ := kindsTo_mem.1 hx
    obtain ⟨j, rfl⟩ : ∃ j : Nat, x = j := ⟨x.toNat, by omega⟩
    rw [h j (by omega)]; decide)]
  simp [hp]
theorem firstK_some {p : Int → Bool} {n : Nat} (h : ∃ k, 0 ≤ k ∧ k < (n : Int) ∧ p k = true) : 0 ≤ firstK p n ∧ firstK p n < n ∧ p (firstK p n) = true := by
  obtain ⟨k, h0, h1, h2⟩ := h
  unfold firstK
  cases hf : (kindsTo n).find? p with
  | none => exact absurd h2 (by have := List.find?_eq_none.1 hf k (kindsTo_mem.2 ⟨h0, h1⟩); exact this)
  | some x =>
    have h3 := List.find?_some hf
    have h4 := kindsTo_mem.1 (List.mem_of_find?_eq_some hf)
    exact ⟨h4.1, h4.2, h3⟩
theorem firstK_before {p : Int → Bool} {n : Nat} {j : Int} (h0 : 0 ≤ j) (h1 : j < firstK p n) : p j = false := by
  unfold firstK at h1
  cases hf : (kindsTo n).find? p with
  | none => rw [hf] at h1; simp at h1; omega
  | some x =>
    rw [hf] at h1
    simp only [Option.getD_some] at h1
    obtain ⟨_, hx⟩ := List.find?_eq_some_iff_append.1 hf
    obtain ⟨as, bs, e, hn⟩ := hx
    have hxm := kindsTo_mem.1 (List.mem_of_find?_eq_some hf)
    have hj : j ∈ kindsTo n := kindsTo_mem.2 ⟨h0, by omega⟩
    have hp : (kindsTo n).Pairwise (· < ·) := by
      unfold kindsTo
      rw [List.pairwise_map]
      exact (List.pairwise_lt_range (n := n)).imp fun h => by omega
    rw [e, List.pairwise_append, List.pairwise_cons] at hp
    rw [e] at hj
    rcases List.mem_append.1 hj with hj | hj
    · have := hn j hj; simpa using this
    · rcases List.mem_cons.1 hj with rfl | hj
      · omega
      · have := hp.2.1.1 j hj; omega
def orderL (xs : List Pr) (K : Nat) : Nat → List Int
  | 0 => []
  | n + 1 => orderL xs K n ++ [firstK (readyB xs (orderL xs K n)) K]
theorem orderL_len (xs : List Pr) (K n : Nat) : (orderL xs K n).length = n := by
  induction n with
  | zero => rfl
  | succ n ih => simp [orderL, ih]
theorem order_ready {xs : List Pr} {K : Nat} (hx : InK xs K) (ha : Acyc xs) {n : Nat} (hn : n < K) : ∃ k, 0 ≤ k ∧ k < (K : Int) ∧ readyB xs (orderL xs K n) k = true := by
  obtain ⟨k, h0, h1, h2⟩ := some_lacks (l := orderL xs K n) (K := K) (by rw [orderL_len]; exact hn)
  exact ready_ex hx (K - 1) k ⟨h0, h1⟩ h2 (up_all hx ha (by omega) ⟨h0, h1⟩)
end Go.My
