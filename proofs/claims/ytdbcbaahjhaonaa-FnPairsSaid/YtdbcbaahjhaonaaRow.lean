/-
  Words for memory, more: copy, clear and append within one row of the call's own, whatever the elements' size. Conditions: none.
-/
import Derived.Test.YtdbcbaahjhaonaaMem
import Derived.Lib.AppendZerosOnto
import Derived.Lib.Overlaps
import Derived.StillTailTactics
namespace Go.My
open Go.RowKit

/-! ### A region that draws its order and ends in operations whose order is forced: the first n only read -/
theorem still_of_quiet {P : Program} {o : Oper} {a : Act} {w1 : World} {K : Act → Prop} (h : o.quiet P a (fun w' => w' = w1) K) : o.still P a w1 K := by
  obtain ⟨v, h1, h2⟩ := h
  have h3 := h1 w1 rfl
  unfold Oper.quietAt at h3
  unfold Oper.still
  generalize (execOp a.eval o).run P w1 = r at *
  cases r with
  | ok n w' =>
    cases n <;> simp only [Oper.quietUpon] at h3 <;> simp only [Oper.stillUpon]
    case value u => obtain ⟨e1, e2⟩ := h3; exact ⟨e1, e2 ▸ h2⟩
    case skip => obtain ⟨e1, e2⟩ := h3; exact ⟨e1, e2 ▸ h2⟩
    case enter f args => obtain ⟨e1, hc⟩ := h3; exact ⟨e1, v, e1 ▸ hc, h2⟩
  | halt x w' => simp only [Oper.quietUpon] at h3
theorem wpStill_of_quiet {P : Program} {ops : Array Oper} {w1 : World} {Q : Act → Prop} : ∀ (l : List Oper) (a : Act), wpQuiet P ops (fun w' => w' = w1) Q l a → wpStill P ops w1 Q l a
  | [], _, h => h
  | o :: l, a, h => by
    unfold wpQuiet at h
    unfold wpStill
    split
    · rename_i hw
      rw [if_pos hw] at h
      exact still_of_quiet (Oper.quiet_mono (fun a' h' => wpStill_of_quiet l a' h') h)
    · rename_i hw
      rw [if_neg hw] at h
      exact wpStill_of_quiet l _ h
theorem wp_region_tail {P : Program} {id : Nat} {Q : Exit → Act → World → Prop} {a : Act} {w : World} {l : List Oper} (n : Nat) (hm : P.follows .mixedOrders = true) (hB : Region.lexTailB .any l.toArray n = true)
    (h : wpQuiet P l.toArray (fun w' => w' = w.drew) (fun a' => wpList P l.toArray Q (l.drop n) a' w.drew) (l.take n) a) : (Code.region id l.toArray true).wp P Q a w :=
  wp_region_still_tail n hm hB (wpStill_of_quiet _ _ h)

/-- A block known whole. -/
def Blk (w : World) (g : Nat) (e : TypeId) (L : List Value) : Prop := w.heap[g]? = some (.cells L.toArray e (0, 0))
section
variable {w w' : World} {g B : Nat} {e : TypeId} {size n cap : Nat} {L xs : List Value}
theorem Blk.lt (h : Blk w g e L) : g < w.heap.size := (Array.getElem?_eq_some_iff.1 h).1
theorem Blk.below (h : Blk w g e L) (hb : Below w.heap.size w w') : Blk w' g e L := (hb.block g h.lt).trans h
theorem Blk.grown (h : Blk w g e L) {row : Option Nat} (hg : w.grownBy w' row) (hne : some g ≠ row) : Blk w' g e L := (hg.block g h.lt hne).trans h
theorem Blk.rd (h : Blk w g e L) : Rd w (some ⟨g, 0, none⟩) L := by
  refine .inr ⟨g, 0, rfl, fun j hj => ?_⟩
  rw [Nat.zero_add, cell_of_row w g j _ e (0, 0) h]
  simp [hj]
theorem Blk.own (h : Blk w g e L) (hB : B ≤ g) (hn : n ≤ cap) (hm : cap ≤ maxLen) (hl : L.length = cap * size) : w.ownsRow B e size (.slice (some ⟨g, 0, none⟩) n cap) n (L.take (n * size)) := by
  refine ⟨?_, .inr ⟨g, cap, L.toArray, rfl, hB, h, hn, hm, by simpa using hl, by simp⟩⟩
  rw [List.length_take, hl]
  exact Nat.min_eq_left (Nat.mul_le_mul_right _ hn)
theorem own_blk' (h : w.ownsRow B e size (.slice (some ⟨g, 0, none⟩) n cap) n xs) : ∃ L, Blk w g e L ∧ L.length = cap * size ∧ L.take (n * size) = xs ∧ B ≤ g ∧ n ≤ cap ∧ cap ≤ maxLen := by
  rcases h.2 with ⟨h2, _⟩ | ⟨g', cap', cur, hv, hb, hg, hnc, hcm, hcs, ht⟩
  · simp at h2
  · simp only [Value.slice.injEq, Option.some.injEq, Addr.mk.injEq, and_true, true_and] at hv
    obtain ⟨rfl, rfl⟩ := hv
    exact ⟨cur.toList, by unfold Blk; simpa using hg, by simpa using hcs, ht, hb, hnc, hcm⟩
end
theorem grown_setRow (w : World) (g : Nat) (cs : Array Value) : w.grownBy (w.setRow g cs) (some g) :=
  ⟨rfl, rfl, rfl, by simp, fun k _ hk => setRow_other w g k cs (fun e => hk (by rw [e]))⟩

/-- 'copy' into a block known whole. -/
theorem run_copy_blk {P : Program} {w : World} {dT sT ty e : TypeId} {size bytes : Nat} (E : ElemOk P dT e size bytes) {g off : Nat} {L : List Value} (hg : Blk w g e L) {D : Option Addr} {dLen dCap : Nat} {S : Option Addr} {sLen sCap : Nat} {news : List Value}
    (hD : news ≠ [] → D = some ⟨g, off, none⟩) (hr : Rd w S news) (hl : news.length = Nat.min sLen dLen * size) (hfit : off + news.length ≤ L.length) (h1 : ∀ u ∈ news, u.oneCell' = true) :
    ∃ w', (Builtin.copy_ #[dT, sT] ty #[.slice D dLen dCap, .slice S sLen sCap]).run P w = .ok (goInt (Nat.min sLen dLen)) w' ∧ Blk w' g e (splice L off news) ∧ w.grownBy w' (some g) := by
  obtain ⟨ht, hs0, i, z, hi, hz, h3, h4, hzc⟩ := E
  by_cases hne : news = []
  · subst hne
    have h0 : Nat.min sLen dLen = 0 := by
      rcases Nat.eq_zero_or_pos (Nat.min sLen dLen) with h | h
      · exact h
      · have := Nat.mul_pos h hs0; simp at hl; omega
    refine ⟨w, ?_, by simpa [splice] using hg, World.grownBy.refl w _⟩
    have hf : (Builtin.firstCells i.size (Nat.min sLen dLen) (.slice S sLen sCap)).run P w = .ok #[] w := by
      rw [h0]; cases S <;> simp [Builtin.firstCells, loadCells, loadCellsFrom]
    cases D <;> simp [Builtin.copy_, run_underlying ht, sizeOf, typeInfo, hi, Builtin.lenOf, hf, storeCells]
  · rw [hD hne]
    obtain ⟨b, o, rfl, _⟩ := hr.addr hne
    have hf := run_firstCells_some (P := P) w i.size (Nat.min sLen dLen) ⟨b, o, none⟩ sLen sCap news (by rw [h3]; exact hl) hr.news
    have hst := run_storeCells_at P g off e news 0 L.toArray w hg (by simpa using hfit) h1
    simp only [Nat.add_zero] at hst
    refine ⟨_, ?_, ?_, grown_setRow w g (L.take off ++ news ++ L.drop (off + news.length)).toArray⟩
    · simp [Builtin.copy_, run_underlying ht, sizeOf, typeInfo, hi, Builtin.lenOf, hf, hst]
    · have := setRow_heap w g _ (L.take off ++ news ++ L.drop (off + news.length)).toArray e _ hg
      unfold Blk
      rw [this]
      simp [splice]

theorem wpl_copy {P : Program} {w : World} {ops : Array Oper} {rest : List Oper} {o : Oper} {a : Act} {Q : Exit → Act → World → Prop} (hgd : o.guard = none) (d s : Operand) (dT sT : TypeId)
    (ho : o.op = .call { callee := .builtin .copy, args := #[d, s], argTypes := #[dT, sT] }) {e : TypeId} {size bytes : Nat} (E : ElemOk P dT e size bytes) {g off : Nat} {L : List Value} (hg : Blk w g e L)
    {D : Option Addr} {dLen dCap : Nat} {S : Option Addr} {sLen sCap : Nat} {news : List Value} (hd : a.eval d = .slice D dLen dCap) (hs : a.eval s = .slice S sLen sCap)
    (hD : news ≠ [] → D = some ⟨g, off, none⟩) (hr : Rd w S news) (hl : news.length = Nat.min sLen dLen * size) (hfit : off + news.length ≤ L.length) (h1 : ∀ u ∈ news, u.oneCell' = true)
    (h : ∀ w', Blk w' g e (splice L off news) → w.grownBy w' (some g) → wpList P ops Q rest (a.put o.dst (goInt (Nat.min sLen dLen))) w') : wpList P ops Q (o :: rest) a w := by
  refine wpList_plain hgd fun K hK => ?_
  obtain ⟨w', hr', h2, h3⟩ := run_copy_blk (sT := sT) (ty := o.type) (dCap := dCap) (sCap := sCap) E hg hD hr hl hfit h1
  unfold Oper.wp execOp
  simp only [ho, resolve, invoke, builtin, Sem.run_bind, Sem.run_pure, Result.andThen_ok, List.map_toArray, List.map_cons, List.map_nil, hs, hd, hr']
  exact hK _ _ (h w' h2 h3)

theorem splice_eq {α : Type} (L : List α) (o : Nat) (cs : List α) : splice L o cs = L.take o ++ (cs ++ L.drop (o + cs.length)) := rfl
/-- Two splices that open a gap and fill it. -/
theorem ins_room {α : Type} (L X S D : List α) (N p q : Nat) (hX : L.take N = X) (hXl : X.length = N) (hp : p ≤ N) (hq : S.length = q) (hD : D = X.drop p) (hL : N + q ≤ L.length) :
    (splice (splice L (p + q) D) p S).take (N + q) = X.take p ++ S ++ D := by
  subst hX hq hD
  have e1 : ((L.take N).drop p).length = N - p := by rw [List.length_drop, hXl]
  have e2 : (splice L (p + S.length) ((L.take N).drop p)).take p = (L.take N).take p := by
    unfold splice
    rw [List.take_append_of_le_length (by rw [List.length_take]; omega), List.take_take, List.take_take]
    congr 1; omega
  have e3 : (splice L (p + S.length) ((L.take N).drop p)).drop (p + S.length) = (L.take N).drop p ++ L.drop (p + S.length + (N - p)) := by
    unfold splice
    rw [List.drop_append_of_le_length (by rw [List.length_take]; omega), List.drop_of_length_le (by rw [List.length_take]; omega), e1]
    rfl
  rw [splice_eq (splice L (p + S.length) ((L.take N).drop p)) p S, e2, e3]
  rw [← List.append_assoc, ← List.append_assoc]
  rw [List.take_append_of_le_length (by simp only [List.length_append, List.length_take, e1]; omega)]
  exact List.take_of_length_le (by simp only [List.length_append, List.length_take, e1]; omega)
theorem ins_grow {α : Type} (L X S D : List α) (N p q : Nat) (hX : L.take p = X.take p) (hXl : X.length = N) (hp : p ≤ N) (hq : S.length = q) (hD : D = X.drop p) (hL : N + q ≤ L.length) :
    (splice (splice L p S) (p + q) D).take (N + q) = X.take p ++ S ++ D := by
  subst hq hD
  have e1 : (X.drop p).length = N - p := by rw [List.length_drop, hXl]
  have e2 : (splice L p S).take (p + S.length) = X.take p ++ S := by
    unfold splice
    rw [← List.append_assoc, List.take_append_of_le_length (by simp only [List.length_append, List.length_take]; omega), hX]
    exact List.take_of_length_le (by simp only [List.length_append, List.length_take]; omega)
  rw [splice_eq (splice L p S) (p + S.length) (X.drop p), e2, ← List.append_assoc]
  rw [List.take_append_of_le_length (by simp only [List.length_append, List.length_take, e1]; omega)]
  exact List.take_of_length_le (by simp only [List.length_append, List.length_take, e1]; omega)
theorem splice_len {α : Type} (L : List α) (o : Nat) (cs : List α) (h : o + cs.length ≤ L.length) : (splice L o cs).length = L.length := length_splice L o cs h
theorem grown_trans {w w1 w2 : World} {row : Option Nat} (h : w.grownBy w1 row) (h2 : w1.grownBy w2 row) : w.grownBy w2 row :=
  ⟨h2.os.trans h.os, h2.tape.trans h.tape, h2.output.trans h.output, Nat.le_trans h.size h2.size, fun k hk hne => (h2.block k (Nat.lt_of_lt_of_le hk h.size) hne).trans (h.block k hk hne)⟩
/-- A step that writes only a block that did not exist. -/
theorem grown_new {w w1 w2 : World} {row : Option Nat} {g : Nat} (h : w.grownBy w1 row) (h2 : w1.grownBy w2 (some g)) (hg : w.heap.size ≤ g) : w.grownBy w2 row :=
  ⟨h2.os.trans h.os, h2.tape.trans h.tape, h2.output.trans h.output, Nat.le_trans h.size h2.size, fun k hk hne => (h2.block k (Nat.lt_of_lt_of_le hk h.size) (fun e => by cases e; omega)).trans (h.block k hk hne)⟩
theorem grown_drew {w w1 : World} {row : Option Nat} (h : w.drew.grownBy w1 row) : w.grownBy w1 row := ⟨h.os, h.tape, h.output, h.size, h.block⟩
theorem grown_wide {w w1 : World} {row : Option Nat} (h : w.grownBy w1 none) : w.grownBy w1 row := ⟨h.os, h.tape, h.output, h.size, fun k hk _ => h.block k hk (by simp)⟩

/-- 'append' within the capacity of a row of the call's own: the value is known. -/
theorem wpl_fits {P : Program} {w : World} {ops : Array Oper} {rest : List Oper} {o : Oper} {a : Act} {Q : Exit → Act → World → Prop} (hgd : o.guard = none) (s x : Operand) (t : TypeId)
    (ho : o.op = .call { callee := .builtin .append, args := #[s, x], argTypes := #[t, t] })
    {base : Nat} {e : TypeId} {size bytes : Nat} (E : ElemOk P t e size bytes) {g n cap : Nat} {xs : List Value} (hs : a.eval s = .slice (some ⟨g, 0, none⟩) n cap) (hown : w.ownsRow base e size (.slice (some ⟨g, 0, none⟩) n cap) n xs)
    {A : Option Addr} {m c : Nat} {news : List Value} (hx : a.eval x = .slice A m c) (hl : news.length = m * size) (hr : Rd w A news) (h1 : ∀ u ∈ news, u.oneCell' = true) (hroom : n + m ≤ cap)
    (h : ∀ w', w'.ownsRow base e size (.slice (some ⟨g, 0, none⟩) (n + m) cap) (n + m) (xs ++ news) → w.grownBy w' (some g) → wpList P ops Q rest (a.put o.dst (.slice (some ⟨g, 0, none⟩) (n + m) cap)) w') : wpList P ops Q (o :: rest) a w := by
  obtain ⟨ht, hs0, i, z, hi, hz, h3, h4, hzc⟩ := E
  have key : ∃ w', (Builtin.append_ #[t, t] o.type #[.slice (some ⟨g, 0, none⟩) n cap, .slice A m c]).run P w = .ok (.slice (some ⟨g, 0, none⟩) (n + m) cap) w' ∧
      w'.ownsRow base e size (.slice (some ⟨g, 0, none⟩) (n + m) cap) (n + m) (xs ++ news) ∧ w.grownBy w' (some g) := by
    cases A with
    | some ad => exact run_append_fits (P := P) w base t o.type e i size ht hi h3 g n cap xs hown ad m c news hl hr.news h1 hroom
    | none =>
      have hn : news = [] := by
        rcases hr with h | ⟨b, off, h, _⟩
        · exact h
        · cases h
      subst hn
      have hm : m = 0 := by
        rcases Nat.eq_zero_or_pos m with h | h
        · exact h
        · have := Nat.mul_pos h hs0; simp at hl; omega
      subst hm
      refine ⟨w, ?_, by simpa using hown, World.grownBy.refl w _⟩
      have hnc : n ≤ cap := by omega
      simp [Builtin.append_, run_underlying ht, sizeOf, typeInfo, hi, Builtin.lenOf, Builtin.firstCells, hnc, storeCells]
  refine wpList_plain hgd fun K hK => ?_
  obtain ⟨w', hr', h2, h3'⟩ := key
  unfold Oper.wp execOp
  simp only [ho, resolve, invoke, builtin, Sem.run_bind, Sem.run_pure, Result.andThen_ok, List.map_toArray, List.map_cons, List.map_nil, hs, hx, hr']
  exact hK _ _ (h w' h2 h3')

/-- 'clear' of places behind an own row's elements. -/
theorem wpl_clear {P : Program} {w : World} {ops : Array Oper} {rest : List Oper} {o : Oper} {a : Act} {Q : Exit → Act → World → Prop} (hgd : o.guard = none) (x : Operand) (t : TypeId)
    (ho : o.op = .call { callee := .builtin .clear, args := #[x], argTypes := #[t] })
    {base : Nat} {e : TypeId} {size bytes : Nat} (E : ElemOk P t e size bytes) {z : Value} (hzv : ∀ w, (zeroValue e).run P w = .ok z w) (hz1 : ∀ c ∈ z.cells.toList, c.oneCell' = true) (hzs : z.cells.size = size)
    {g n cap k off c : Nat} {xs : List Value} (hx : a.eval x = .slice (some ⟨g, off, none⟩) k c) (hoff : off = n * size) (hown : w.ownsRow base e size (.slice (some ⟨g, 0, none⟩) n cap) n xs) (hk : n + k ≤ cap)
    (h : ∀ w', w'.ownsRow base e size (.slice (some ⟨g, 0, none⟩) n cap) n xs → w.grownBy w' (some g) → wpList P ops Q rest (a.put o.dst (.tuple #[])) w') : wpList P ops Q (o :: rest) a w := by
  obtain ⟨ht, hs0, i, _, hi, _, h3, h4, _⟩ := E
  subst hoff
  refine wpList_plain hgd fun K hK => ?_
  by_cases h0 : k = 0
  · subst h0
    have hrun : (Builtin.clear_ #[t] o.type #[.slice (some ⟨g, n * size, none⟩) 0 c]).run P w = .ok (.tuple #[]) w := by simp [Builtin.clear_, run_underlying ht]
    unfold Oper.wp execOp
    simp only [ho, resolve, invoke, builtin, Sem.run_bind, Sem.run_pure, Result.andThen_ok, List.map_toArray, List.map_cons, List.map_nil, hx, hrun]
    exact hK _ _ (h w hown (World.grownBy.refl w _))
  · obtain ⟨k', rfl⟩ : ∃ m, k = m + 1 := ⟨k - 1, by omega⟩
    obtain ⟨L, hB, hL, htk, hbg, hnc, hcm⟩ := own_blk' hown
    have hzl : (Builtin.zeroCells z.cells (k' + 1)).toList.length = (k' + 1) * size := by rw [Array.length_toList, size_zeroCells, hzs]
    have hfit : n * size + ((k' + 1) * size) ≤ L.length := by rw [hL, ← Nat.add_mul]; exact Nat.mul_le_mul_right _ hk
    have hst := run_storeCells_at P g (n * size) e (Builtin.zeroCells z.cells (k' + 1)).toList 0 L.toArray w hB (by rw [hzl]; simpa using hfit) (by
      intro v hv
      rw [Array.mem_toList_iff] at hv
      unfold Builtin.zeroCells at hv
      rw [Array.mem_map] at hv
      obtain ⟨j, _, rfl⟩ := hv
      have hj : j % z.cells.size < z.cells.size := Nat.mod_lt _ (by omega)
      rw [getElem!_pos z.cells _ hj]
      exact hz1 _ (by simp))
    simp only [Nat.add_zero] at hst
    have hrun : (Builtin.clear_ #[t] o.type #[.slice (some ⟨g, n * size, none⟩) (k' + 1) c]).run P w = .ok (.tuple #[]) (w.setRow g (L.toArray.toList.take (n * size) ++ (Builtin.zeroCells z.cells (k' + 1)).toList ++ L.toArray.toList.drop (n * size + (Builtin.zeroCells z.cells (k' + 1)).toList.length)).toArray) := by
      simp [Builtin.clear_, run_underlying ht, hzv, hst]
    unfold Oper.wp execOp
    simp only [ho, resolve, invoke, builtin, Sem.run_bind, Sem.run_pure, Result.andThen_ok, List.map_toArray, List.map_cons, List.map_nil, hx, hrun]
    refine hK _ _ (h _ ?_ (grown_setRow w g _))
    have hB' : Blk (w.setRow g (L.toArray.toList.take (n * size) ++ (Builtin.zeroCells z.cells (k' + 1)).toList ++ L.toArray.toList.drop (n * size + (Builtin.zeroCells z.cells (k' + 1)).toList.length)).toArray) g e (L.take (n * size) ++ (Builtin.zeroCells z.cells (k' + 1)).toList ++ L.drop (n * size + (Builtin.zeroCells z.cells (k' + 1)).toList.length)) := by
      unfold Blk
      exact setRow_heap w g _ _ e _ hB
    have hlen : (L.take (n * size) ++ (Builtin.zeroCells z.cells (k' + 1)).toList ++ L.drop (n * size + (Builtin.zeroCells z.cells (k' + 1)).toList.length)).length = cap * size := by
      simp only [List.length_append, List.length_take, List.length_drop, hzl]
      rw [← hL]
      omega
    have e1 : (L.take (n * size) ++ (Builtin.zeroCells z.cells (k' + 1)).toList ++ L.drop (n * size + (Builtin.zeroCells z.cells (k' + 1)).toList.length)).take (n * size) = xs := by
      have hle : n * size ≤ (L.take (n * size)).length := by rw [List.length_take]; omega
      rw [List.append_assoc, List.take_append_of_le_length hle, List.take_take, Nat.min_self, htk]
    have := hB'.own (B := base) (n := n) (size := size) hbg hnc hcm hlen
    rw [e1] at this
    exact this

/-- 'append(s, make([]T, k)...)' where there is no room: a new row that begins with what s held. -/
theorem wpl_zeros {P : Program} {w : World} {ops : Array Oper} {rest : List Oper} {o : Oper} {a : Act} {Q : Exit → Act → World → Prop} (hgd : o.guard = none) (s x : Operand) (t tn : TypeId)
    (ho : o.op = .call { callee := .builtin .append, args := #[s, x], argTypes := #[t, tn] }) (htn : P.underlying tn = some (.int .i64))
    {e : TypeId} {size bytes : Nat} (E : ElemOk P t e size bytes) {A : Option Addr} {n cap : Nat} {xs : List Value} (hs : a.eval s = .slice A n cap) (hr : Rd w A xs) (hl : xs.length = n * size)
    {k : Nat} {K : Int} (hx : a.eval x = .int .i64 K) (hK : K = (k : Int)) (h0 : 0 < k) (hg : cap < n + k) (hA : A ≠ none) (h63 : n + k ≤ 9223372036854775807) (hbytes : (n + k) * bytes ≤ 140737488355328)
    (h : ∀ G L w', Blk w' w.heap.size e L → L.length = G * size → n + k ≤ G → G ≤ maxLen → L.take (n * size) = xs → w.grownBy w' none → wpList P ops Q rest (a.put o.dst (.slice (some ⟨w.heap.size, 0, none⟩) (n + k) G)) w') : wpList P ops Q (o :: rest) a w := by
  obtain ⟨ht, hs0, i, z, hi, hz, h3, h4, hzc⟩ := E
  subst hK
  obtain ⟨ad, rfl⟩ := Option.ne_none_iff_exists'.1 hA
  have hold : (Builtin.firstCells i.size n (.slice (some ad) n cap)).run P w.drew = .ok xs.toArray w.drew :=
    run_firstCells_some (P := P) w.drew i.size n ad n cap xs (by rw [h3]; exact hl) (Rd.news (w := w.drew) hr)
  have hrun := Lib.run_append_grow_zeros (P := P) w t tn o.type e i z .i64 .i64 ht htn hi hz (some ad) n cap xs hold k h0 (by omega) hg (by omega) (by
      rw [h4]
      have : k * bytes ≤ (n + k) * bytes := Nat.mul_le_mul_right _ (by omega)
      omega) (by rw [h4]; exact growslice_fits hg hbytes)
  refine wpList_plain hgd fun K hK => ?_
  unfold Oper.wp execOp
  simp only [ho, resolve, invoke, builtin, Sem.run_bind, Sem.run_pure, Result.andThen_ok, List.map_toArray, List.map_cons, List.map_nil, hs, hx, hrun]
  have hge := grownCap_ge w (n + k) cap e
  refine hK _ _ (h (grownCap w (n + k) cap e) (xs ++ (Builtin.zeroCells z.cells k).toList ++ (Builtin.zeroCells z.cells (grownCap w (n + k) cap e - (n + k))).toList) _ ?_ ?_ hge (grownCap_le_maxLen w _ _ _ (by unfold maxLen; omega)) ?_ ⟨rfl, rfl, rfl, by simp, fun j hj _ => Below.heap_alloc w.drew _ j hj⟩)
  · unfold Blk
    have := heap_alloc_new w.drew (.cells (xs.toArray ++ Builtin.zeroCells z.cells k ++ Builtin.zeroCells z.cells (grownCap w (n + k) cap e - (n + k))) e)
    rw [show w.drew.heap.size = w.heap.size from rfl] at this
    rw [this]
    simp
  · simp only [List.length_append, Array.length_toList, size_zeroCells, hzc, hl, ← Nat.add_mul]
    congr 1
    omega
  · rw [List.append_assoc, List.take_append_of_le_length (by omega)]
    exact List.take_of_length_le (by omega)
end Go.My
