/-
  A row that is cut at its front and grows at its end (a queue): elements of one cell; 'make' of a row of such elements. Conditions: none.
-/
import Derived.Test.YtdbcbaahjhaonaaRow
import Derived.Test.YtdbcbaahjhaonaaApp
namespace Go.My
open Go.RowKit
/-- A row that begins anywhere in a block of the call's own. -/
def QRow (w : World) (B : Nat) (e : TypeId) (A : Option Addr) (n c : Nat) (xs : List Value) : Prop :=
  ∃ g off L, A = some ⟨g, off, none⟩ ∧ B ≤ g ∧ Blk w g e L ∧ off + c ≤ L.length ∧ n ≤ c ∧ c ≤ maxLen ∧ (L.drop off).take n = xs ∧ xs.length = n
section
variable {w w' : World} {B : Nat} {e : TypeId} {A : Option Addr} {n c : Nat} {xs : List Value}
theorem QRow.below (h : QRow w B e A n c xs) (hb : Below w.heap.size w w') : QRow w' B e A n c xs := by
  obtain ⟨g, off, L, h1, h2, h3, h4⟩ := h
  exact ⟨g, off, L, h1, h2, h3.below hb, h4⟩
theorem QRow.grown (h : QRow w B e A n c xs) {row : Option Nat} (hg : w.grownBy w' row) (hr : ∀ k, row = some k → k < B) : QRow w' B e A n c xs := by
  obtain ⟨g, off, L, h1, h2, h3, h4⟩ := h
  exact ⟨g, off, L, h1, h2, h3.grown hg (fun e => by have := hr g e.symm; omega), h4⟩
theorem QRow.rd (h : QRow w B e A n c xs) : Rd w A xs := by
  obtain ⟨g, off, L, rfl, _, h3, h4, _, _, h7, h8⟩ := h
  refine .inr ⟨g, off, rfl, fun j hj => ?_⟩
  rw [cell_of_row w g _ _ e (0, 0) h3]
  subst h7
  simp only [List.length_take, List.length_drop] at hj
  have hl : off + j < L.length := by omega
  simp [hl]
theorem QRow.cut (h : QRow w B e A n c xs) (hn : 0 < n) : QRow w B e (cutA A c 1 1) (n - 1) (c - 1) (xs.drop 1) := by
  obtain ⟨g, off, L, rfl, h2, h3, h4, h5, h6, h7, h8⟩ := h
  by_cases hc : c = 1
  · have hn1 : n = 1 := by omega
    subst hn1
    refine ⟨g, off, L, by simp [cutA, hc], h2, h3, by omega, by omega, by omega, ?_, by simp [h8]⟩
    have e0 : xs.drop 1 = [] := List.drop_of_length_le (by omega)
    rw [e0]; simp
  · refine ⟨g, off + 1, L, by unfold cutA; rw [if_neg hc]; simp [Addr.add], h2, h3, by omega, by omega, by omega, ?_, by simp [h8]⟩
    subst h7
    rw [List.drop_take, List.drop_drop]
theorem QRow.own (h : w.ownsRow B e 1 (.slice (some ⟨B, 0, none⟩) n c) n xs) : QRow w B e (some ⟨B, 0, none⟩) n c xs := by
  have hl := h.1
  obtain ⟨L, h1, h2, h3, h4, h5, h6⟩ := own_blk' h
  exact ⟨B, 0, L, rfl, Nat.le_refl _, h1, by omega, h5, h6, by simpa using h3, by simpa using hl⟩
end
/-- 'append(q, v)'. -/
theorem wpl_qapp {P : Program} {w : World} {ops : Array Oper} {rest : List Oper} {o : Oper} {a : Act} {Q : Exit → Act → World → Prop} (hgd : o.guard = none) (s x : Operand) (t : TypeId)
    (ho : o.op = .call { callee := .builtin .append, args := #[s, x], argTypes := #[t, t] })
    {B : Nat} {e : TypeId} {bytes : Nat} (E : ElemOk P t e 1 bytes) {A : Option Addr} {n c : Nat} {xs : List Value} (hs : a.eval s = .slice A n c) (hq : QRow w B e A n c xs)
    {ad : Addr} {c2 : Nat} {v : Value} (hx : a.eval x = .slice (some ad) 1 c2) (hr : Rd w (some ad) [v]) (h1 : v.oneCell' = true)
    (h63 : n + 1 ≤ maxLen) (hbytes : (n + 1) * bytes ≤ 140737488355328) (hB : B ≤ w.heap.size)
    (h : ∀ A' c' w', QRow w' B e A' (n + 1) c' (xs ++ [v]) → Below B w w' → wpList P ops Q rest (a.put o.dst (.slice A' (n + 1) c')) w') : wpList P ops Q (o :: rest) a w := by
  obtain ⟨ht, hs0, i, z, hi, hz, h3, h4, hzc⟩ := E
  obtain ⟨g, off, L, rfl, q2, q3, q4, q5, q6, q7, q8⟩ := hq
  have hnews : ∀ j u, [v][j]? = some u → w.cell? (ad.add j) = some u := hr.news
  have key : ∃ A' c' w', (Builtin.append_ #[t, t] o.type #[.slice (some ⟨g, off, none⟩) n c, .slice (some ad) 1 c2]).run P w = .ok (.slice A' (n + 1) c') w' ∧ QRow w' B e A' (n + 1) c' (xs ++ [v]) ∧ Below B w w' := by
    by_cases hroom : n + 1 ≤ c
    · have hf := run_firstCells_some (P := P) w i.size 1 ad 1 c2 [v] (by simp [h3]) hnews
      have hst := run_storeCells_at P g (off + n) e [v] 0 L.toArray w q3 (by simp; omega) (by simpa using h1)
      have hst : (storeCells ⟨g, off + n, none⟩ [v]).run P w = .ok () (w.setRow g (L.take (off + n) ++ v :: L.drop (off + n + 1)).toArray) := by simpa using hst
      have hadd : (⟨g, off, none⟩ : Addr).add (n * i.size) = ⟨g, off + n, none⟩ := by rw [h3]; simp [Addr.add]
      refine ⟨some ⟨g, off, none⟩, c, w.setRow g (L.take (off + n) ++ [v] ++ L.drop (off + n + 1)).toArray, ?_, ⟨g, off, L.take (off + n) ++ [v] ++ L.drop (off + n + 1), rfl, q2, ?_, ?_, hroom, q6, ?_, by simp [q8]⟩, ?_⟩
      · simp [Builtin.append_, run_underlying ht, sizeOf, typeInfo, hi, Builtin.lenOf, hroom, hf, hadd, hst]
      · unfold Blk
        exact setRow_heap w g _ _ e _ q3
      · simp; omega
      · subst q7
        have hl : (L.take (off + n)).length = off + n := by rw [List.length_take]; omega
        rw [List.append_assoc, List.drop_append_of_le_length (by omega), List.drop_take, Nat.add_sub_cancel_left]
        have h2 : ((L.drop off).take n).length = n := q8
        rw [List.take_append, List.take_of_length_le (by omega), h2]
        simp
      · refine ⟨rfl, rfl, rfl, by simp, fun k hk => setRow_other w g k _ (by omega)⟩
    · have holds : ∀ j u, xs[j]? = some u → w.cell? ((⟨g, off, none⟩ : Addr).add j) = some u := (QRow.rd (A := some ⟨g, off, none⟩) (B := B) (e := e) (n := n) (c := c) ⟨g, off, L, rfl, q2, q3, q4, q5, q6, q7, q8⟩).news
      have hr2 := run_append_grow (P := P) w t o.type e i z ht hi hz ⟨g, off, none⟩ n c xs (by rw [h3, q8]; omega) holds ad 1 c2 [v] (by simp [h3]) hnews (by omega) (by unfold maxLen at h63; omega) (by rw [h4]; exact growslice_fits (by omega) hbytes)
      have hge := grownCap_ge w (n + 1) c e
      refine ⟨_, _, _, hr2, ⟨w.heap.size, 0, xs ++ [v] ++ (Builtin.zeroCells z.cells (grownCap w (n + 1) c e - (n + 1))).toList, rfl, hB, ?_, ?_, hge, grownCap_le_maxLen w _ _ _ h63, ?_, by simp [q8]⟩, ?_⟩
      · unfold Blk
        have := heap_alloc_new w.drew (.cells (xs.toArray ++ [v].toArray ++ Builtin.zeroCells z.cells (grownCap w (n + 1) c e - (n + 1))) e)
        rw [show w.drew.heap.size = w.heap.size from rfl] at this
        rw [this]
        simp
      · simp only [List.length_append, Array.length_toList, size_zeroCells, hzc, q8, List.length_cons, List.length_nil]; omega
      · rw [List.drop_zero, List.take_append_of_le_length (by simp [q8])]
        exact List.take_of_length_le (by simp [q8])
      · exact ((Below.refl B w).drew).alloc hB _
  refine wpList_plain hgd fun K hK => ?_
  obtain ⟨A', c', w', hr', h2, h3'⟩ := key
  unfold Oper.wp execOp
  simp only [ho, resolve, invoke, builtin, Sem.run_bind, Sem.run_pure, Result.andThen_ok, List.map_toArray, List.map_cons, List.map_nil, hs, hx, hr']
  exact hK _ _ (h A' c' w' h2 h3')
/-- 'make([]T, n)': a row of n zeros. -/
theorem wpl_makez {P : Program} {w : World} {ops : Array Oper} {rest : List Oper} {o : Oper} {a : Act} {Q : Exit → Act → World → Prop}
    (hg : o.guard = none) (l c : Operand) (t : TypeId) (hop : o.op = Op.makeSlice t l c) {base : Nat} {e : TypeId} {z : Value} {bytes : Nat} (ht : P.underlying t = some (.slice e)) (hzi : (P.info? e).map (fun i => (i.zero, i.size, i.bytes)) = some (some z, 1, bytes)) (hz1 : z.cells = #[z])
    {kl kc : IntKind} {L C : Int} {n : Nat} (hl : a.eval l = .int kl L) (hc : a.eval c = .int kc C) (hL : L = (n : Int)) (hC : C = (n : Int)) (b2 : bytes * n ≤ 281474976710656) (b3 : n ≤ maxLen) (b4 : base ≤ w.heap.size)
    (hK : ∀ w', w'.ownsRow base e 1 (.slice (some ⟨w.heap.size, 0, none⟩) n n) n (List.replicate n z) → w.grownBy w' none → wpList P ops Q rest (a.put o.dst (.slice (some ⟨w.heap.size, 0, none⟩) n n)) w') :
    wpList P ops Q (o :: rest) a w := by
  obtain ⟨i, hi, hz, h3, h4⟩ := info_parts hzi
  have e0 : (madeCells z.cells (n * 1)).toList = List.replicate n z := by
    rw [hz1]
    apply List.ext_getElem
    · simp [madeCells]
    · intro j h1 h2
      simp [madeCells, Nat.mod_one]
  exact wpList_make_full w hg l c t hop base e i z 1 ht hi hz h3 kl kc L C n hl hc hL hC (by rw [h4]; exact b2) b3 b4 (fun w' ho hgr => hK w' (by rw [← e0]; exact ho) hgr)
end Go.My
