/-
  Words for memory, over any program: a slice that reads as a list of cells, a row of the call's own, a region that draws its order and calls functions that make memory. Conditions: none.
-/
import Derived.WalkKit
import Derived.WalkSpells
import Derived.WalkLawsBesides
import Derived.Lib.Hide
import Derived.BigQuiet
import Derived.Maps.AppendAt
import Derived.Deep.AppendLies
import Derived.Laws.CopyOwn
namespace Go.My
open Go.RowKit

/-! ### A later world: below block B it is as w was -/
structure After (B : Nat) (w : World) where
  val : World
  bel : Below B w val
instance {B : Nat} {w : World} : Nonempty (After B w) := ⟨⟨w, Below.refl _ _⟩⟩

theorem wp_region_after {P : Program} {id : Nat} {Q : Exit → Act → World → Prop} {a : Act} {w : World} {l : List Oper} (hm : P.follows .mixedOrders = true) (hB : Region.lexB .any l.toArray = true)
    (h : wpQuiet P l.toArray (fun w' => ∃ n : After w.heap.size w, w' = n.val) (fun a' => ∀ n : After w.heap.size w, Q .normal a' n.val) l a) : (Code.region id l.toArray true).wp P Q a w :=
  wp_region_quiet (C := fun w' => ∃ n : After w.heap.size w, w' = n.val) hm hB ⟨⟨_, (Below.refl _ w).drew⟩, rfl⟩ (by
    have e : (fun a' => ∀ w', (∃ n : After w.heap.size w, w' = n.val) → Q .normal a' w') = (fun a' => ∀ n : After w.heap.size w, Q .normal a' n.val) := by
      funext a'
      exact propext ⟨fun h n => h _ ⟨n, rfl⟩, fun h _ ⟨n, e⟩ => e ▸ h n⟩
    rw [e]
    simpa using h)
theorem Calls.after {P : Program} {f : FuncId} {args : Array Value} {w0 : World} {n : After w0.heap.size w0} {v : Value}
    (h : Calls P f args n.val fun e w' => e = .returned v ∧ Below n.val.heap.size n.val w') : Calls P f args n.val fun e w'' => e = .returned v ∧ ∃ m : After w0.heap.size w0, w'' = m.val :=
  h.mono fun _ w' ⟨he, hm⟩ => ⟨he, ⟨⟨w', n.bel.trans (hm.mono n.bel.size)⟩, rfl⟩⟩
theorem Calls.after_same {P : Program} {f : FuncId} {args : Array Value} {w0 : World} {n : After w0.heap.size w0} {v : Value}
    (h : Calls P f args n.val fun e w' => e = .returned v ∧ n.val = w') : Calls P f args n.val fun e w'' => e = .returned v ∧ ∃ m : After w0.heap.size w0, w'' = m.val :=
  h.mono fun _ _ ⟨he, hm⟩ => ⟨he, ⟨n, hm.symm⟩⟩
theorem cell_after {w : World} {p : Addr} {v : Value} (h : w.cell? p = some v) (n : After w.heap.size w) : n.val.cell? p = some v :=
  (n.bel.cell (World.block_lt_of_cell? w _ h)).trans h

/-- The call's own new block, and two steps in a row. -/
theorem bnew {w w1 : World} (h : Below w.heap.size w w1) (o : Obj) : Below w.heap.size w (w1.alloc o) := h.alloc h.size o
theorem btr {w w1 w2 : World} (h : Below w.heap.size w w1) (h2 : Below w1.heap.size w1 w2) : Below w.heap.size w w2 := h.trans (h2.mono h.size)

/-! ### Lists of cells -/
theorem flat_length {α : Type} (f : α → List Value) (m : Nat) (hf : ∀ x, (f x).length = m) (xs : List α) : (xs.flatMap f).length = xs.length * m := by
  induction xs with
  | nil => simp
  | cons x xs ih => simp [ih, hf, Nat.add_mul]; omega
theorem flat_get {α : Type} (f : α → List Value) (m : Nat) (hf : ∀ x, (f x).length = m) (xs : List α) (k j : Nat) (hk : k < xs.length) (hj : j < m) :
    (xs.flatMap f)[k * m + j]? = (f xs[k])[j]? := by
  induction xs generalizing k with
  | nil => simp at hk
  | cons x xs ih =>
    cases k with
    | zero => simp; rw [List.getElem?_append_left (by rw [hf]; exact hj)]
    | succ k =>
      simp only [List.flatMap_cons, List.getElem_cons_succ]
      rw [List.getElem?_append_right (by rw [hf, Nat.add_mul]; omega), ← ih k (by simpa using hk)]
      congr 1
      rw [hf, Nat.add_mul]; omega
theorem flat_take {α : Type} (f : α → List Value) (m : Nat) (hf : ∀ x, (f x).length = m) (xs : List α) (k : Nat) (hk : k ≤ xs.length) : (xs.flatMap f).take (k * m) = (xs.take k).flatMap f := by
  conv => lhs; rw [← List.take_append_drop k xs, List.flatMap_append]
  rw [List.take_append_of_le_length (by rw [flat_length f m hf, List.length_take, Nat.min_eq_left hk]; exact Nat.le_refl _)]
  exact List.take_of_length_le (by rw [flat_length f m hf, List.length_take, Nat.min_eq_left hk]; exact Nat.le_refl _)
theorem flat_drop {α : Type} (f : α → List Value) (m : Nat) (hf : ∀ x, (f x).length = m) (xs : List α) (k : Nat) (hk : k ≤ xs.length) : (xs.flatMap f).drop (k * m) = (xs.drop k).flatMap f := by
  conv => lhs; rw [← List.take_append_drop k xs, List.flatMap_append]
  rw [List.drop_append_of_le_length (by rw [flat_length f m hf, List.length_take, Nat.min_eq_left hk]; exact Nat.le_refl _)]
  rw [List.drop_of_length_le (by rw [flat_length f m hf, List.length_take, Nat.min_eq_left hk]; exact Nat.le_refl _)]
  rfl

/-! ### A slice that reads as a list of cells -/
def Rd (w : World) (A : Option Addr) (xs : List Value) : Prop :=
  xs = [] ∨ ∃ b off, A = some ⟨b, off, none⟩ ∧ ∀ j (h : j < xs.length), w.cell? ⟨b, off + j, none⟩ = some xs[j]
theorem Rd.nil {w : World} {A : Option Addr} : Rd w A [] := .inl rfl
theorem Rd.keep {w w' : World} {A : Option Addr} {xs : List Value} (h : Rd w A xs) (hk : ∀ p v, w.cell? p = some v → w'.cell? p = some v) : Rd w' A xs := by
  rcases h with h | ⟨b, off, rfl, hc⟩
  · exact .inl h
  · exact .inr ⟨b, off, rfl, fun j hj => hk _ _ (hc j hj)⟩
theorem Rd.below {w w' : World} {A : Option Addr} {xs : List Value} (h : Rd w A xs) (hb : Below w.heap.size w w') : Rd w' A xs :=
  h.keep fun _ _ hv => (hb.cell (World.block_lt_of_cell? w _ hv)).trans hv
theorem Rd.drew {w : World} {A : Option Addr} {xs : List Value} (h : Rd w A xs) : Rd w.drew A xs := h
theorem Rd.alloc {w : World} {A : Option Addr} {xs : List Value} (h : Rd w A xs) (o : Obj) : Rd (w.alloc o) A xs :=
  h.below ((Below.refl _ _).alloc (Nat.le_refl _) o)
theorem Rd.at_ {α : Type} (f : α → List Value) (m : Nat) (hf : ∀ x, (f x).length = m) {w : World} {A : Option Addr} {xs : List α} (h : Rd w A (xs.flatMap f)) {k : Nat} (hk : k < xs.length) (hm : 0 < m) :
    ∃ b off, A = some ⟨b, off, none⟩ ∧ ∀ j u, (f xs[k])[j]? = some u → w.cell? ⟨b, off + k * m + j, none⟩ = some u := by
  rcases h with h | ⟨b, off, rfl, hc⟩
  · have := flat_length f m hf xs
    rw [h] at this
    simp at this
    have : 0 < xs.length * m := Nat.mul_pos (by omega) hm
    omega
  · refine ⟨b, off, rfl, fun j u hu => ?_⟩
    have hj : j < m := by rw [← hf xs[k]]; exact (List.getElem?_eq_some_iff.1 hu).1
    rw [← flat_get f m hf xs k j hk hj] at hu
    obtain ⟨hl, e⟩ := List.getElem?_eq_some_iff.1 hu
    rw [Nat.add_assoc, hc _ hl, e]
theorem Rd.addr {w : World} {A : Option Addr} {xs : List Value} (h : Rd w A xs) (hx : xs ≠ []) : ∃ b off, A = some ⟨b, off, none⟩ ∧ b < w.heap.size := by
  rcases h with h | ⟨b, off, rfl, hc⟩
  · exact absurd h hx
  · exact ⟨b, off, rfl, World.block_lt_of_cell? w _ (hc 0 (List.length_pos_iff.2 hx))⟩
/-- The first k cells. -/
theorem Rd.take {w : World} {A : Option Addr} {xs : List Value} (h : Rd w A xs) (k : Nat) : Rd w A (xs.take k) := by
  rcases h with rfl | ⟨b, off, rfl, hc⟩
  · exact .inl (by simp)
  · refine .inr ⟨b, off, rfl, fun j hj => ?_⟩
    rw [List.length_take] at hj
    rw [hc j (by omega), List.getElem_take]
/-- The cells from k on: what the model makes of 's[k:]'. -/
theorem Rd.cut {w : World} {A : Option Addr} {xs : List Value} (h : Rd w A xs) (k size cap : Nat) (hc : k = cap → xs.length ≤ k * size) :
    Rd w (if cap = k then A else A.map (·.add (k * size))) (xs.drop (k * size)) := by
  rcases h with rfl | ⟨b, off, rfl, hcell⟩
  · exact .inl (by simp)
  · by_cases hk : cap = k
    · exact .inl (List.drop_of_length_le (hc hk.symm))
    · rw [if_neg hk]
      have e : (some (⟨b, off, none⟩ : Addr)).map (·.add (k * size)) = some ⟨b, off + k * size, none⟩ := by
        simp only [Option.map_some, Option.some.injEq]
        unfold Addr.add
        split <;> simp_all
      rw [e]
      refine .inr ⟨b, _, rfl, fun j hj => ?_⟩
      rw [List.length_drop] at hj
      rw [Nat.add_assoc, hcell _ (by omega), List.getElem_drop]
theorem Rd.cutg {w : World} {g off : Nat} {xs : List Value} (h : Rd w (some ⟨g, off, none⟩) xs) (k size cap : Nat) (hc : k = cap → xs.length ≤ k * size) :
    Rd w (if cap = k then some ⟨g, off, none⟩ else some ⟨g, off + k * size, none⟩) (xs.drop (k * size)) := by
  have := h.cut k size cap hc
  by_cases hk : cap = k
  · rw [if_pos hk] at this ⊢; exact this
  · rw [if_neg hk] at this ⊢
    have e : (some (⟨g, off, none⟩ : Addr)).map (·.add (k * size)) = some ⟨g, off + k * size, none⟩ := by
      simp only [Option.map_some, Option.some.injEq]
      unfold Addr.add
      split <;> simp_all
    rw [e] at this; exact this
theorem Rd.cut0 {w : World} {g : Nat} {xs : List Value} (h : Rd w (some ⟨g, 0, none⟩) xs) (k size cap : Nat) (hc : k = cap → xs.length ≤ k * size) :
    Rd w (if cap = k then some ⟨g, 0, none⟩ else some ⟨g, k * size, none⟩) (xs.drop (k * size)) := by
  have := h.cutg k size cap hc
  simpa using this
theorem Rd.news {w : World} {ad : Addr} {xs : List Value} (h : Rd w (some ad) xs) : ∀ j u, xs[j]? = some u → w.cell? (ad.add j) = some u := by
  intro j u hu
  obtain ⟨hl, rfl⟩ := List.getElem?_eq_some_iff.1 hu
  rcases h with rfl | ⟨b, off, e, hc⟩
  · simp at hl
  · obtain rfl := Option.some.inj e
    have hadd : (⟨b, off, none⟩ : Addr).add j = ⟨b, off + j, none⟩ := by unfold Addr.add; split <;> simp_all
    rw [hadd]; exact hc j hl
/-- A block of the cells just made. -/
theorem Rd.made {w : World} {cs : Array Value} {t : TypeId} : Rd (w.alloc (.cells cs t)) (some ⟨w.heap.size, 0, none⟩) cs.toList := by
  refine .inr ⟨_, 0, rfl, fun j hj => ?_⟩
  rw [Nat.zero_add, World.cell?_alloc_at _ _ _ _ rfl]
  have hj' : j < cs.size := by simpa using hj
  simp [hj']

/-! ### A row of the call's own -/
section own
variable {w w' : World} {B B' : Nat} {e : TypeId} {size n : Nat} {v : Value} {A : Option Addr} {c : Nat} {xs : List Value}
theorem own_rd (h : w.ownsRow B e size (.slice A n c) n xs) : Rd w A xs := by
  rcases h.2 with ⟨_, rfl⟩ | ⟨g, cap, cur, hv, _⟩
  · exact .inl (List.eq_nil_of_length_eq_zero (by simpa using h.1))
  · simp only [Value.slice.injEq, true_and] at hv
    obtain ⟨rfl, rfl⟩ := hv
    refine .inr ⟨g, 0, rfl, fun j hj => ?_⟩
    rw [Nat.zero_add, h.cellAt j (by rw [← h.1]; exact hj)]
    exact List.getElem?_eq_getElem hj
theorem own_below (h : w.ownsRow B e size v n xs) (hb : Below w.heap.size w w') : w'.ownsRow B e size v n xs :=
  h.kept (row := none) ⟨hb.os, hb.tape, hb.output, hb.size, fun k hk _ => hb.block k hk⟩ (by cases v.ownBlock <;> simp)
theorem own_base (h : w.ownsRow B e size v n xs) (hB : B' ≤ B) : w.ownsRow B' e size v n xs := by
  refine ⟨h.1, ?_⟩
  rcases h.2 with h2 | ⟨g, cap, cur, hv, hg, r⟩
  · exact .inl h2
  · exact .inr ⟨g, cap, cur, hv, Nat.le_trans hB hg, r⟩
theorem own_form (h : w.ownsRow B e size v n xs) : ∃ A c, v = .slice A n c ∧ n ≤ c := by
  rcases h.2 with ⟨rfl, rfl⟩ | ⟨g, cap, cur, rfl, _, _, hc, _⟩
  · exact ⟨_, _, rfl, Nat.le_refl _⟩
  · exact ⟨_, _, rfl, hc⟩
theorem own_blk (h : w.ownsRow B e size v n xs) : ∀ k, v.ownBlock = some k → B ≤ k := fun k hk => (h.lt k hk).1
/-- An own row of base B is not a block below B. -/
theorem own_ne (h : w.ownsRow B e size v n xs) {k : Nat} (hk : k < B) : some k ≠ v.ownBlock := fun e => by have := own_blk h k e.symm; omega
theorem own_nil {w : World} : w.ownsRow B e size (.slice none 0 0) 0 [] := World.ownsRow_nil w B e size
theorem own_lit {w : World} (cs : Array Value) (n : Nat) (hb : B ≤ w.heap.size) (hm : n ≤ maxLen) (hs : cs.size = n * size) :
    (w.alloc (.cells cs e)).ownsRow B e size (.slice (some ⟨w.heap.size, 0, none⟩) n n) n cs.toList := World.ownsRow_lit w cs n hb hm hs
/-- The first k elements of an own row. -/
theorem own_take (h : w.ownsRow B e size (.slice A n c) n xs) {k : Nat} (hk : k ≤ n) (hA : 0 < n → A ≠ none) : w.ownsRow B e size (.slice A k c) k (xs.take (k * size)) := by
  refine ⟨by rw [List.length_take, h.1]; exact Nat.min_eq_left (Nat.mul_le_mul_right _ hk), ?_⟩
  rcases h.2 with ⟨h2, h0⟩ | ⟨g, cap, cur, hv, hb, hg, hnc, hcm, hcs, ht⟩
  · simp only [Value.slice.injEq] at h2
    obtain ⟨rfl, _, rfl⟩ := h2
    exact .inl ⟨by rw [show k = 0 by omega], by omega⟩
  · simp only [Value.slice.injEq, true_and] at hv
    obtain ⟨rfl, rfl⟩ := hv
    refine .inr ⟨g, c, cur, rfl, hb, hg, by omega, hcm, hcs, ?_⟩
    rw [← ht, List.take_take]
    congr 1
    exact (Nat.min_eq_left (Nat.mul_le_mul_right _ hk)).symm
end own

/-- The element type's row of the program's table. -/
def ElemOk (P : Program) (t e : TypeId) (size bytes : Nat) : Prop :=
  P.underlying t = some (.slice e) ∧ 0 < size ∧ ∃ i z, P.info? e = some i ∧ i.zero = some z ∧ i.size = size ∧ i.bytes = bytes ∧ z.cells.size = size
theorem elemOk_mk {P : Program} {t e : TypeId} {z : Value} {size bytes : Nat} (h : P.underlying t = some (.slice e)) (hi : (P.info? e).map (fun i => (i.zero, i.size, i.bytes)) = some (some z, size, bytes)) (hz : z.cells.size = size) (hs : 0 < size) : ElemOk P t e size bytes := by
  obtain ⟨i, h1, h2, h3, h4⟩ := info_parts hi
  exact ⟨h, hs, i, z, h1, h2, h3, h4, hz⟩

/-- 'append' onto a row of the call's own, from whatever slice reads as a list of cells. -/
theorem run_app {P : Program} {w : World} {base : Nat} {t ty e : TypeId} {size bytes : Nat} (E : ElemOk P t e size bytes) {v : Value} {n : Nat} {xs : List Value} (hown : w.ownsRow base e size v n xs)
    {A : Option Addr} {m c : Nat} {news : List Value} (hl : news.length = m * size) (hr : Rd w A news) (h1 : ∀ u ∈ news, u.oneCell' = true)
    (h63 : n + m ≤ maxLen) (hbytes : (n + m) * bytes ≤ 140737488355328) (hbase : base ≤ w.heap.size) :
    ∃ v' w', (Builtin.append_ #[t, t] ty #[v, .slice A m c]).run P w = .ok v' w' ∧ w'.ownsRow base e size v' (n + m) (xs ++ news) ∧ w.grownBy w' v.ownBlock ∧ (v'.ownBlock = v.ownBlock ∨ v'.ownBlock = some w.heap.size) := by
  obtain ⟨ht, hs0, i, z, hi, hz, h3, h4, hzc⟩ := E
  cases A with
  | some ad =>
    obtain ⟨v', w', r1, r2, r3, _, r5⟩ := run_append_own_at (P := P) w base t ty e i z size bytes ht hi hz h3 h4 hzc hs0 v n xs hown ad m c news hl hr.news h1 h63 hbytes hbase
    exact ⟨v', w', r1, r2, r3, r5⟩
  | none =>
    have hn : news = [] := by
      rcases hr with h | ⟨b, off, h, _⟩
      · exact h
      · cases h
    subst hn
    have hm : m = 0 := by
      rcases Nat.eq_zero_or_pos m with h | h
      · exact h
      · have := Nat.mul_pos h hs0; simp at hl; omega
    subst hm
    refine ⟨v, w, ?_, by simpa using hown, World.grownBy.refl w _, .inl rfl⟩
    rcases hown.2 with ⟨rfl, rfl⟩ | ⟨g, cap, cur, rfl, _, _, hnc, _⟩
    · simp [Builtin.append_, run_underlying ht, sizeOf, typeInfo, hi, Builtin.lenOf, Builtin.firstCells]
    · simp [Builtin.append_, run_underlying ht, sizeOf, typeInfo, hi, Builtin.lenOf, Builtin.firstCells, hnc, storeCells]

theorem wpl_app {P : Program} {w : World} {ops : Array Oper} {rest : List Oper} {o : Oper} {a : Act} {Q : Exit → Act → World → Prop} (hgd : o.guard = none) (s x : Operand) (t : TypeId)
    (ho : o.op = .call { callee := .builtin .append, args := #[s, x], argTypes := #[t, t] })
    {base : Nat} {e : TypeId} {size bytes : Nat} (E : ElemOk P t e size bytes) {v : Value} {n : Nat} {xs : List Value} (hs : a.eval s = v) (hown : w.ownsRow base e size v n xs)
    {A : Option Addr} {m c : Nat} {news : List Value} (hx : a.eval x = .slice A m c) (hl : news.length = m * size) (hr : Rd w A news) (h1 : ∀ u ∈ news, u.oneCell' = true)
    (h63 : n + m ≤ maxLen) (hbytes : (n + m) * bytes ≤ 140737488355328) (hbase : base ≤ w.heap.size)
    (h : ∀ A' c' w', w'.ownsRow base e size (.slice A' (n + m) c') (n + m) (xs ++ news) → w.grownBy w' v.ownBlock → ((Value.slice A' (n + m) c').ownBlock = v.ownBlock ∨ (Value.slice A' (n + m) c').ownBlock = some w.heap.size) →
      wpList P ops Q rest (a.put o.dst (.slice A' (n + m) c')) w') : wpList P ops Q (o :: rest) a w := by
  refine wpList_plain hgd fun K hK => ?_
  obtain ⟨v', w', hr', h2, h3, h4⟩ := run_app (ty := o.type) (c := c) E hown hl hr h1 h63 hbytes hbase
  obtain ⟨A', c', rfl, _⟩ := own_form h2
  unfold Oper.wp execOp
  simp only [ho, resolve, invoke, builtin, Sem.run_bind, Sem.run_pure, Result.andThen_ok, List.map_toArray, List.map_cons, List.map_nil, hs, hx, hr']
  exact hK _ _ (h A' c' w' h2 h3 h4)

/-- 'make([]T, n)': a row of n elements. -/
theorem wpl_make {P : Program} {w : World} {ops : Array Oper} {rest : List Oper} {o : Oper} {a : Act} {Q : Exit → Act → World → Prop}
    (hg : o.guard = none) (l c : Operand) (t : TypeId) (hop : o.op = Op.makeSlice t l c) {base : Nat} {e : TypeId} {size bytes : Nat} (E : ElemOk P t e size bytes)
    {kl kc : IntKind} {L C : Int} {n : Nat} (hl : a.eval l = .int kl L) (hc : a.eval c = .int kc C) (hL : L = (n : Int)) (hC : C = (n : Int)) (b2 : bytes * n ≤ 281474976710656) (b3 : n ≤ maxLen) (b4 : base ≤ w.heap.size)
    (hK : ∀ L w', L.length = n * size → w'.ownsRow base e size (.slice (some ⟨w.heap.size, 0, none⟩) n n) n L → w.grownBy w' none → wpList P ops Q rest (a.put o.dst (.slice (some ⟨w.heap.size, 0, none⟩) n n)) w') :
    wpList P ops Q (o :: rest) a w := by
  obtain ⟨ht, hs0, i, z, hi, hz, h3, h4, hzc⟩ := E
  exact wpList_make_full w hg l c t hop base e i z size ht hi hz h3 kl kc L C n hl hc hL hC (by rw [h4]; exact b2) b3 b4 (fun w' ho hgr => hK _ w' ho.1 ho hgr)

/-! ### Stores into an own row -/
theorem take_set_next {α : Type} (L : List α) (p : Nat) (a : α) (h : p < L.length) : (L.set p a).take (p + 1) = L.take p ++ [a] := by
  rw [List.take_succ_eq_append_getElem (by simpa using h)]
  simp [List.take_set_of_le]
theorem own_at {w : World} {B : Nat} {e : TypeId} {size n : Nat} {A : Option Addr} {c : Nat} {xs : List Value} (h : w.ownsRow B e size (.slice A n c) n xs) (hn : 0 < n) :
    ∃ g, A = some ⟨g, 0, none⟩ ∧ B ≤ g ∧ g < w.heap.size := by
  obtain ⟨g, cap, hv, hb, hg⟩ := h.form hn
  simp only [Value.slice.injEq, true_and] at hv
  exact ⟨g, hv.1, hb, hg⟩
theorem own_cell {w : World} {B : Nat} {e : TypeId} {size n g : Nat} {c : Nat} {xs : List Value} (h : w.ownsRow B e size (.slice (some ⟨g, 0, none⟩) n c) n xs) {j : Nat} (hj : j < xs.length) :
    w.cell? ⟨g, j, none⟩ = some xs[j] := by
  rw [h.cellAt j (by rw [← h.1]; exact hj), List.getElem?_eq_getElem hj]
theorem own_some {w : World} {B : Nat} {e : TypeId} {size n g : Nat} {c : Nat} {xs : List Value} (h : w.ownsRow B e size (.slice (some ⟨g, 0, none⟩) n c) n xs) (j : Nat) (hj : j < n * size) :
    ∃ u, w.cell? ⟨g, j, none⟩ = some u := ⟨_, own_cell h (by rw [h.1]; exact hj)⟩
theorem own_set {w : World} {B : Nat} {e : TypeId} {size n g : Nat} {c : Nat} {xs : List Value} (h : w.ownsRow B e size (.slice (some ⟨g, 0, none⟩) n c) n xs) (j : Nat) (u : Value) :
    (w.setCell ⟨g, j, none⟩ u).ownsRow B e size (.slice (some ⟨g, 0, none⟩) n c) n (xs.set j u) := (h.stored j u).1
theorem grown_set {w w' : World} {g : Nat} (h : w.grownBy w' (some g)) (j : Nat) (u : Value) : w.grownBy (w'.setCell ⟨g, j, none⟩ u) (some g) :=
  ⟨h.os, h.tape, h.output, by simpa [World.setCell] using h.size, fun k hk hne => (Below.heap_setCell _ _ _ _ (fun e => hne (by simpa using e))).trans (h.block k hk hne)⟩
theorem grown_below {w w' w'' : World} {row : Option Nat} (h : w.grownBy w' row) (hb : Below w'.heap.size w' w'') : w.grownBy w'' row :=
  ⟨hb.os.trans h.os, hb.tape.trans h.tape, hb.output.trans h.output, Nat.le_trans h.size hb.size, fun k hk hne => (hb.block k (Nat.lt_of_lt_of_le hk h.size)).trans (h.block k hk hne)⟩
theorem below_grown {w w' : World} {row : Option Nat} (h : w.grownBy w' row) {B : Nat} (hB : B ≤ w.heap.size) (hr : ∀ k, row = some k → B ≤ k) : Below B w w' := (Below.refl B w).grown h hB hr
theorem Rd.grown {w w' : World} {A : Option Addr} {xs : List Value} {row : Option Nat} (h : Rd w A xs) (hg : w.grownBy w' row) (hne : ∀ ad, A = some ad → some ad.block ≠ row) : Rd w' A xs := by
  rcases h with h | ⟨b, off, rfl, hc⟩
  · exact .inl h
  · exact .inr ⟨b, off, rfl, fun j hj => hg.cell (hc j hj) (by have := hne _ rfl; simpa using this)⟩

/-- 'string([]byte{b})'. -/
theorem conv_byte {P : Program} {src dst e : TypeId} (hs : P.underlying src = some (.slice e)) (he : P.underlying e = some (.int .u8)) (hd : P.underlying dst = some .string) (w : World) (n : Int) (h0 : 0 ≤ n) (h1 : n < 256) :
    (convert src dst (.slice (some ⟨w.heap.size, 0, none⟩) 1 1)).run P (w.alloc (.cells #[.int .u8 n] e)) = .ok (.string ⟨#[UInt8.ofNat n.toNat]⟩) (w.alloc (.cells #[.int .u8 n] e)) := by
  have hb : ((UInt8.ofNat n.toNat).toNat : Int) = n := by
    rw [UInt8.toNat_ofNat']; omega
  have := run_convert_bytes_back (P := P) (w.alloc (.cells #[.int .u8 n] e)) src dst e ⟨w.heap.size, 0, none⟩ 1 [UInt8.ofNat n.toNat] hs he hd (fun j hj => by
    obtain rfl : j = 0 := by simpa using hj
    simp only [List.getElem_cons_zero, hb]
    show (w.alloc (.cells #[.int .u8 n] e)).cell? ⟨w.heap.size, 0, none⟩ = _
    rw [World.cell?_alloc_at _ _ _ _ rfl]; rfl)
  simpa using this
end Go.My
