/-
  FnPrecedence, FnPairs: plain laws of cycles, orders, ranks and needless pairs. Conditions: none.
-/
import Derived.Test.YtdbcbaahjhaonaaCyc2
import Derived.Test.YtdbcbaahjhaonaaOrd
import Derived.Test.YtdbcbaahjhaonaaNeed
import Derived.Test.YtdbcbaahjhaonaaAdd
namespace Go.My
open Go.RowKit
/-! ### Cycles and reaching -/
def Link (xs : List Pr) (l : List Int) : Prop := ∀ i, i + 1 < l.length → dirB xs (l.getD i 0) (l.getD (i + 1) 0) = true
theorem getD_app {l : List Int} {i : Nat} (h : i < l.length) (m : List Int) : (l ++ m).getD i 0 = l.getD i 0 := by
  rw [List.getD_eq_getElem?_getD, List.getD_eq_getElem?_getD, List.getElem?_append_left h]
theorem getD_last {l : List Int} {i : Nat} (h : i + 1 = l.length) : l.getD i 0 = lastI l := by
  unfold lastI
  rw [List.getLastD_eq_getLast?, List.getLast?_eq_getElem?, List.getD_eq_getElem?_getD, show l.length - 1 = i by omega]
theorem getD_head (l : List Int) : l.getD 0 0 = headI l := by cases l <;> rfl
theorem getD_snoc (l : List Int) (k : Int) : (l ++ [k]).getD l.length 0 = k := by
  rw [List.getD_eq_getElem?_getD, List.getElem?_append_right (Nat.le_refl _)]; simp
theorem Link.snoc {xs : List Pr} {l : List Int} {k : Int} (h : Link xs l) (hd : l = [] ∨ dirB xs (lastI l) k = true) : Link xs (l ++ [k]) := by
  intro i hi
  have hi' : i < l.length := by simp at hi; omega
  by_cases h1 : i + 1 < l.length
  · rw [getD_app hi', getD_app h1]; exact h i h1
  · have e : i + 1 = l.length := by omega
    rw [getD_app hi', e, getD_snoc, getD_last e]
    rcases hd with rfl | hd
    · simp at hi'
    · exact hd
theorem ext_link {xs : List Pr} {K : Nat} {l c : List Int} (h : Ext xs K l c) : Link xs l → Link xs c ∧ dirB xs (lastI c) (headI c) = true := by
  induction h with
  | done l _ hd => exact fun hl => ⟨hl, hd⟩
  | step l k c hk hn hd h ih => exact fun hl => ih (hl.snoc hd)
theorem link_nil (xs : List Pr) : Link xs [] := fun i h => by simp at h
theorem dir_plus {xs : List Pr} {a b : Int} (h : dirB xs a b = true) : Plus xs a b := by
  obtain ⟨x, hx, rfl, rfl⟩ := dirB_iff.1 h
  exact plus_one hx rfl
theorem cyc_next {xs : List Pr} {K : Nat} {c : List Int} (h : Ext xs K [] c) {i : Nat} (hi : i < c.length) : dirB xs (c.getD i 0) (c.getD ((i + 1) % c.length) 0) = true := by
  obtain ⟨h1, h2⟩ := ext_link h (link_nil xs)
  by_cases e : i + 1 < c.length
  · rw [Nat.mod_eq_of_lt e]; exact h1 i e
  · have e2 : i + 1 = c.length := by omega
    rw [e2, Nat.mod_self, getD_last e2, getD_head]; exact h2
theorem cyc_round {xs : List Pr} {K : Nat} {c : List Int} (h : Ext xs K [] c) {i : Nat} (hi : i < c.length) : Plus xs (c.getD i 0) (c.getD i 0) := by
  have key : ∀ j, Plus xs (c.getD i 0) (c.getD ((i + 1 + j) % c.length) 0) := by
    intro j
    induction j with
    | zero => exact dir_plus (cyc_next h hi)
    | succ j ih =>
      have := cyc_next h (i := (i + 1 + j) % c.length) (Nat.mod_lt _ (by omega))
      rw [Nat.mod_add_mod] at this
      exact plus_trans ih (dir_plus this)
  have := key (c.length - 1)
  rw [show i + 1 + (c.length - 1) = i + c.length by omega, Nat.add_mod_right, Nat.mod_eq_of_lt hi] at this
  exact this
theorem ext_of {xs : List Pr} {K : Nat} {c : List Int} (hl : Link xs c) (hn : c.Nodup) (hk : ∀ x ∈ c, 0 ≤ x ∧ x < (K : Int)) (hne : c ≠ []) (hd : dirB xs (lastI c) (headI c) = true) : ∀ (t l : List Int), c = l ++ t → Ext xs K l c
  | [], l, e => by
    rw [List.append_nil] at e
    subst e
    exact .done _ hne hd
  | k :: t, l, e => by
    refine .step l k c (hk k (by rw [e]; simp)) ?_ ?_ (ext_of hl hn hk hne hd t (l ++ [k]) (by rw [e]; simp))
    · intro hm
      rw [e, List.nodup_append] at hn
      exact hn.2.2 k hm k (by simp) rfl
    · cases hl0 : l with
      | nil => exact .inl rfl
      | cons y r =>
        refine .inr ?_
        rw [← hl0]
        have hlen : 0 < l.length := by rw [hl0]; simp
        have := hl (l.length - 1) (by rw [e]; simp; omega)
        rw [e, getD_app (by omega), getD_last (by omega), show l.length - 1 + 1 = l.length by omega] at this
        have e2 : (l ++ k :: t).getD l.length 0 = k := by
          rw [List.getD_eq_getElem?_getD, List.getElem?_append_right (Nat.le_refl _)]; simp
        rwa [e2] at this
theorem Link.drop {xs : List Pr} {l : List Int} (h : Link xs l) (j : Nat) : Link xs (l.drop j) := by
  intro i hi
  have := h (j + i) (by simp at hi; omega)
  rw [List.getD_eq_getElem?_getD, List.getD_eq_getElem?_getD, List.getElem?_drop, List.getElem?_drop, ← List.getD_eq_getElem?_getD, ← List.getD_eq_getElem?_getD, show j + (i + 1) = j + i + 1 by omega]
  exact this
theorem lastI_drop {l : List Int} {j : Nat} (h : j < l.length) : lastI (l.drop j) = lastI l := by
  rw [← getD_last (l := l.drop j) (i := l.length - j - 1) (by simp; omega), ← getD_last (l := l) (i := l.length - 1) (by omega), List.getD_eq_getElem?_getD, List.getD_eq_getElem?_getD, List.getElem?_drop, show j + (l.length - j - 1) = l.length - 1 by omega]
/-- Who yields to himself lies on a simple cycle. -/
theorem walk_cyc {xs : List Pr} {K : Nat} (hin : InK xs K) : ∀ (f : Nat) (l : List Int), l ≠ [] → Link xs l → l.Nodup → (∀ x ∈ l, 0 ≤ x ∧ x < (K : Int)) → Plus xs (lastI l) (lastI l) → l.length + f = K + 1 → ∃ c, Ext xs K [] c
  | 0, l, _, _, hn, hk, _, hf => by
    have := nodup_len hn hk
    omega
  | f + 1, l, hne, hl, hn, hk, hp, hf => by
    obtain ⟨x, hx, ha, hb⟩ := plus_first hp
    have hself : Plus xs x.b x.b := by
      rcases hb with e | hb
      · rw [e]; exact hp
      · exact plus_trans hb (plus_one hx ha)
    have hd : dirB xs (lastI l) x.b = true := dirB_iff.2 ⟨x, hx, ha, rfl⟩
    by_cases hm : x.b ∈ l
    · obtain ⟨j, hj, e⟩ := List.getElem_of_mem hm
      have hlen : 0 < (l.drop j).length := by simp; omega
      refine ⟨l.drop j, ext_of (hl.drop j) (List.Sublist.nodup (List.drop_sublist j l) hn) (fun y hy => hk y (List.mem_of_mem_drop hy)) (List.length_pos_iff.1 hlen) ?_ _ [] rfl⟩
      rw [lastI_drop hj, ← getD_head, List.getD_eq_getElem?_getD, List.getElem?_drop, Nat.add_zero, List.getElem?_eq_getElem hj, e]
      exact hd
    · refine walk_cyc hin f (l ++ [x.b]) (by simp) (hl.snoc (.inr hd)) ?_ ?_ (by rw [lastI_snoc]; exact hself) (by simp; omega)
      · rw [List.nodup_append]
        refine ⟨hn, by simp, fun a ha' b hb' => ?_⟩
        simp at hb'; subst hb'
        exact fun e => hm (e ▸ ha')
      · intro y hy
        rcases List.mem_append.1 hy with hy | hy
        · exact hk y hy
        · simp at hy; subst hy; exact (hin x hx).2
theorem cyc_ex {xs : List Pr} {K : Nat} (hin : InK xs K) {k : Int} (h : Plus xs k k) : ∃ c, Ext xs K [] c := by
  have hk := plus_in (K := K) (fun x hx => (hin x hx).2) h
  exact walk_cyc hin K [k] (by simp) (fun i hi => by simp at hi) (by simp) (by simpa using hk) (by simpa [lastI] using h) (by simp; omega)
/-! ### The order of kinds -/
theorem order_get {xs : List Pr} {K : Nat} : ∀ {n i : Nat}, i < n → (orderL xs K n).getD i 0 = firstK (readyB xs (orderL xs K i)) K
  | 0, i, h => by omega
  | n + 1, i, h => by
    show (orderL xs K n ++ [_]).getD i 0 = _
    by_cases e : i = n
    · subst e
      have := getD_snoc (orderL xs K i) (firstK (readyB xs (orderL xs K i)) K)
      rwa [orderL_len] at this
    · rw [getD_app (by rw [orderL_len]; omega)]
      exact order_get (by omega)
theorem order_mem {xs : List Pr} {K n : Nat} {k : Int} (h : k ∈ orderL xs K n) : ∃ i, i < n ∧ k = firstK (readyB xs (orderL xs K i)) K := by
  obtain ⟨i, hi, e⟩ := List.getElem_of_mem h
  rw [orderL_len] at hi
  refine ⟨i, hi, ?_⟩
  have := order_get (xs := xs) (K := K) hi
  rw [List.getD_eq_getElem?_getD, List.getElem?_eq_getElem (by rw [orderL_len]; exact hi)] at this
  rw [← e]; exact this
theorem ready_parts {xs : List Pr} {o : List Int} {k : Int} (h : readyB xs o k = true) : k ∉ o ∧ ∀ x ∈ xs, x.b = k → x.a ∈ o := by
  unfold readyB at h
  simp only [Bool.and_eq_true, Bool.not_eq_true', List.any_eq_false] at h
  refine ⟨fun hm => ?_, fun x hx e => ?_⟩
  · have := h.1
    rw [hasK_iff.2 hm] at this; cases this
  · have := h.2 x hx
    rw [e] at this
    simp at this
    exact hasK_iff.1 this
/-- What yields to the kind at place n stands ahead of it. -/
theorem order_back {xs : List Pr} {K : Nat} (hin : InK xs K) (ha : Acyc xs) : ∀ (n : Nat), n < K → ∀ s, Plus xs s (firstK (readyB xs (orderL xs K n)) K) → s ∈ orderL xs K n := by
  intro n
  induction n using Nat.strongRecOn with
  | _ n ih =>
    intro hn s hs
    obtain ⟨h0, h1, hr⟩ := firstK_some (order_ready hin ha hn)
    obtain ⟨x, hx, e, hq⟩ := plus_last hs
    have hxa : x.a ∈ orderL xs K n := (ready_parts hr).2 x hx e
    rcases hq with rfl | hq
    · exact hxa
    · obtain ⟨i, hi, ei⟩ := order_mem hxa
      rw [ei] at hq
      have := ih i hi (by omega) s hq
      have hsub : ∀ m, i ≤ m → ∀ y ∈ orderL xs K i, y ∈ orderL xs K m := by
        intro m hm
        induction m with
        | zero => intro y hy; rw [show i = 0 by omega] at hy; exact hy
        | succ m ihm =>
          intro y hy
          by_cases e2 : i = m + 1
          · rw [e2] at hy; exact hy
          · exact List.mem_append_left _ (ihm (by omega) y hy)
      exact hsub n (by omega) s this
theorem order_sub {xs : List Pr} {K i m : Nat} (hm : i ≤ m) : ∀ y ∈ orderL xs K i, y ∈ orderL xs K m := by
  induction m with
  | zero => intro y hy; rw [show i = 0 by omega] at hy; exact hy
  | succ m ihm =>
    intro y hy
    by_cases e2 : i = m + 1
    · rw [e2] at hy; exact hy
    · exact List.mem_append_left _ (ihm (by omega) y hy)
theorem order_law {xs : List Pr} {K : Nat} (hin : InK xs K) (ha : Acyc xs) {i k : Nat} (hk : k < i) (hi : i < K) :
    (0 ≤ (orderL xs K K).getD i 0 ∧ (orderL xs K K).getD i 0 < K) ∧ ¬ Plus xs ((orderL xs K K).getD i 0) ((orderL xs K K).getD k 0) := by
  rw [order_get hi, order_get (by omega)]
  obtain ⟨h0, h1, hr⟩ := firstK_some (order_ready hin ha hi)
  refine ⟨⟨h0, h1⟩, fun hp => ?_⟩
  have h2 := order_back hin ha k (by omega) _ hp
  have h3 := order_sub (m := i) (by omega) _ h2
  exact (ready_parts hr).1 h3
theorem ranks_get {xs : List Pr} {K k : Nat} (h : k < K) : (ranksL xs K).getD k 0 = rankB xs K (k : Int) := by
  unfold ranksL
  rw [List.getD_eq_getElem?_getD, List.getElem?_map, List.getElem?_range h]; rfl
/-! ### Without needless pairs -/
theorem rank_plus {xs : List Pr} {K : Nat} (hin : InK xs K) (ha : Acyc xs) (hK : 1 ≤ K) {s k : Int} (h : Plus xs s k) : rankB xs K s + 1 ≤ rankB xs K k := by
  refine plus_closed (fun k => rankB xs K s + 1 ≤ rankB xs K k) (fun x hx e => ?_) (fun x hx e => ?_) h
  · have := rankB_edge hin ha hK hx; rw [e] at this; exact this
  · have := rankB_edge hin ha hK hx; omega
/-- A pair is needless if its kinds stay joined without it. -/
theorem less_plus {xs less : List Pr} {K : Nat} (hin : InK xs K) (ha : Acyc xs) (hK : 1 ≤ K)
    (hl : ∀ x ∈ xs, x ∈ less ∨ Plus (xs.filter fun y => !(y.a == x.a && y.b == x.b)) x.a x.b) : ∀ (n : Nat) (x : Pr), x ∈ xs → rankB xs K x.b - rankB xs K x.a ≤ n → Plus less x.a x.b := by
  intro n
  induction n with
  | zero =>
    intro x hx hr
    have := rankB_edge hin ha hK hx
    omega
  | succ n ih =>
    intro x hx hr
    rcases hl x hx with h | h
    · exact plus_one h rfl
    · have hsub : ∀ y ∈ xs.filter (fun y => !(y.a == x.a && y.b == x.b)), y ∈ xs ∧ ¬ (y.a = x.a ∧ y.b = x.b) := fun y hy => by
        obtain ⟨h1, h2⟩ := List.mem_filter.1 hy
        simp at h2
        exact ⟨h1, fun h => h2.elim (fun h3 => h3 h.1) (fun h3 => h3 h.2)⟩
      generalize (xs.filter fun y => !(y.a == x.a && y.b == x.b)) = ys at *
      have hmono : ∀ {s k}, Plus ys s k → Plus xs s k := fun h => plus_mono (fun y hy => (hsub y hy).1) h
      have key := plus_closed (xs := ys) (s := x.a) (fun k => Plus ys x.a k ∧ ((Plus ys k x.b ∨ k = x.b) → Plus less x.a k)) (fun y hy e => ?_) (fun y hy hc => ?_) h
      · exact key.2 (.inr rfl)
      · refine ⟨plus_one hy e, fun hD => ?_⟩
        have hyx := hsub y hy
        have hD' : Plus ys y.b x.b := by
          rcases hD with hD | hD
          · exact hD
          · exact absurd ⟨e, hD⟩ hyx.2
        have h1 := rank_plus hin ha hK (hmono hD')
        have h2 := ih y hyx.1 (by rw [e]; omega)
        rw [e] at h2; exact h2
      · refine ⟨plus_snoc hc.1 hy, fun hD => ?_⟩
        have hyx := hsub y hy
        have hDa : Plus ys y.a x.b := by
          rcases hD with hD | hD
          · exact plus_trans (plus_one hy rfl) hD
          · rw [← hD]; exact plus_one hy rfl
        have h1 := rank_plus hin ha hK (hmono hc.1)
        have h3 : rankB xs K y.b ≤ rankB xs K x.b := by
          rcases hD with hD | hD
          · have := rank_plus hin ha hK (hmono hD); omega
          · rw [hD]; exact Int.le_refl _
        exact plus_trans (hc.2 (.inl hDa)) (ih y hyx.1 (by omega))
theorem less_law {xs less : List Pr} {K : Nat} (hin : InK xs K) (ha : Acyc xs) (hK : 1 ≤ K) (hsub : ∀ x ∈ less, x ∈ xs)
    (hl : ∀ x ∈ xs, x ∈ less ∨ Plus (xs.filter fun y => !(y.a == x.a && y.b == x.b)) x.a x.b) {s k : Int} : Plus less s k ↔ Plus xs s k := by
  refine ⟨fun h => plus_mono hsub h, fun h => ?_⟩
  have hE : ∀ x ∈ xs, Plus less x.a x.b := fun x hx => less_plus hin ha hK hl (rankB xs K x.b - rankB xs K x.a).toNat x hx (by omega)
  exact plus_closed (fun k => Plus less s k) (fun x hx e => by rw [← e]; exact hE x hx) (fun x hx hp => plus_trans hp (hE x hx)) h
/-! ### What the law says of a precedence -/
theorem sound_iff {xs : List Pr} {K : Nat} (hin : InK xs K) : soundB xs K = true ↔ Acyc xs :=
  ⟨soundB_acyc hin, fun h => soundB_yes fun k _ => reachB_false.2 (h k)⟩
theorem yields_at {p : Prec} (hg : goodPc p = true) {s : Int} (hs : 0 ≤ s ∧ s < (p.kinds.toNat : Int)) : yieldsR p s = (selTo (reachB p.over s) p.kinds.toNat, true) := by
  have h1 := (goodPc_in hg).1
  refine if_pos ?_
  simp only [kindB, hg, Bool.true_and, inB, decide_eq_true_eq]
  omega
theorem has_sel {q : Int → Bool} {n : Nat} {k : Int} (hk : 0 ≤ k ∧ k < (n : Int)) : hasK (selTo q n) k = q k := by
  obtain ⟨j, rfl⟩ : ∃ j : Nat, k = j := ⟨k.toNat, by omega⟩
  exact hasK_selTo (by omega)
theorem getD_elem {l : List Int} {i : Nat} (h : i < l.length) : l.getD i 0 = l[i] := by
  rw [List.getD_eq_getElem?_getD, List.getElem?_eq_getElem h]; rfl
theorem good_of_pairwise {K : Int} : ∀ {xs pre : List Pr}, (∀ x ∈ xs, prOk K x = true) → (pre ++ xs).Pairwise (fun x y => lexB x y = true) → goodPre (prFits K) pre xs = true
  | [], _, _, _ => rfl
  | x :: r, pre, h, hp => by
    simp only [goodPre, Bool.and_eq_true, prFits]
    refine ⟨⟨h x (by simp), ?_⟩, good_of_pairwise (fun y hy => h y (List.mem_cons_of_mem _ hy)) (by simpa using hp)⟩
    unfold lastLex
    cases hl : pre.getLast? with
    | none => rfl
    | some z =>
      obtain ⟨ini, e⟩ := List.getLast?_eq_some_iff.1 hl
      rw [List.pairwise_append] at hp
      exact hp.2.2 z (by rw [e]; simp) x (by simp)
theorem good_parts {p : Prec} (hg : goodPc p = true) : (∀ x ∈ p.over, prOk p.kinds x = true) ∧ p.over.Pairwise (fun x y => lexB x y = true) := by
  simp only [goodPc, Bool.and_eq_true] at hg
  refine ⟨fun x hx => ?_, by have := good_pairwise (pre := []) hg.2 (by simp); simpa using this⟩
  obtain ⟨ys, hy⟩ := goodPre_all hg.2 x hx
  simp only [prFits, Bool.and_eq_true] at hy
  exact hy.1
theorem good_filter {p : Prec} (hg : goodPc p = true) (f : Pr → Bool) : goodPc ⟨p.kinds, p.over.filter f⟩ = true := by
  obtain ⟨h1, h2⟩ := good_parts hg
  have h3 := goodPc_in hg
  have h4 := List.length_filter_le f p.over
  simp only [goodPc, Bool.and_eq_true, decide_eq_true_eq, inB]
  exact ⟨⟨⟨h3.1, h3.2.1⟩, by omega⟩, good_of_pairwise (fun x hx => h1 x (List.mem_filter.1 hx).1) (by simpa using h2.filter f)⟩
theorem needL_mem {xs : List Pr} {x : Pr} : ∀ {n : Nat}, x ∈ needL xs n → ∃ (i : Nat) (hi : i < xs.length), x = xs[i] ∧ reachB (delAt xs i) x.a x.b = true
  | 0, h => by simp [needL] at h
  | n + 1, h => by
    rcases List.mem_append.1 h with h | h
    · exact needL_mem h
    · unfold needAt at h
      split at h
      · rename_i y hy
        obtain ⟨hn, e⟩ := List.getElem?_eq_some_iff.1 hy
        split at h
        · rename_i hr
          simp at h; subst h
          exact ⟨n, hn, e.symm, hr⟩
        · simp at h
      · simp at h
theorem delAt_ne {xs : List Pr} (h : xs.Pairwise (fun x y => lexB x y = true)) {i : Nat} (hi : i < xs.length) : ∀ y ∈ delAt xs i, y ∈ xs ∧ ¬ (y.a = xs[i].a ∧ y.b = xs[i].b) := by
  intro y hy
  rw [List.pairwise_iff_getElem] at h
  have key : ∀ j (hj : j < xs.length), j ≠ i → ¬ (xs[j].a = xs[i].a ∧ xs[j].b = xs[i].b) := by
    intro j hj hne e
    have e2 : xs[j] = xs[i] := pr_ext e.1 e.2
    rcases Nat.lt_or_gt_of_ne hne with hl | hl
    · have := h j i hj hi hl; rw [e2, lexB_irr] at this; cases this
    · have := h i j hi hj hl; rw [e2, lexB_irr] at this; cases this
  rcases List.mem_append.1 hy with hy | hy
  · obtain ⟨j, hj, e⟩ := List.getElem_of_mem hy
    rw [List.length_take] at hj
    rw [List.getElem_take] at e
    rw [← e]
    exact ⟨List.getElem_mem _, key j (by omega) (by omega)⟩
  · obtain ⟨j, hj, e⟩ := List.getElem_of_mem hy
    rw [List.length_drop] at hj
    rw [List.getElem_drop] at e
    rw [← e]
    exact ⟨List.getElem_mem _, key (i + 1 + j) (by omega) (by omega)⟩
def lessL (p : Prec) : List Pr := p.over.filter fun x => !dirB (needR p).1 x.a x.b
theorem need_law {p : Prec} (h : (needR p).2 = true) : (1 ≤ p.kinds ∧ p.kinds ≤ 8) ∧ p.over.length ≤ 16 ∧ ∀ k : Int, 0 ≤ k → k < p.kinds → ∃ Y, Y.length ≤ 8 ∧ yieldsR p k = (Y, true) ∧ yieldsR ⟨p.kinds, lessL p⟩ k = (Y, true) := by
  have hok : okB p = true := by
    unfold needR at h
    split at h
    · assumption
    · simp at h
  have hN : (needR p).1 = needL p.over p.over.length := by unfold needR; rw [if_pos hok]
  simp only [okB, Bool.and_eq_true] at hok
  obtain ⟨hg, hs⟩ := hok
  obtain ⟨h1, h8, h16, hin, _⟩ := goodPc_in hg
  have ha := soundB_acyc hin hs
  refine ⟨⟨h1, h8⟩, h16, fun k h0 hk => ⟨selTo (reachB p.over k) p.kinds.toNat, by have := selTo_len (reachB p.over k) p.kinds.toNat; omega, yields_at hg (by omega), ?_⟩⟩
  have hy := yields_at (p := ⟨p.kinds, lessL p⟩) (good_filter hg _) (s := k) (by show 0 ≤ k ∧ k < (p.kinds.toNat : Int); omega)
  rw [hy]
  simp only [Prod.mk.injEq, and_true]
  refine selTo_congr fun j hj0 hj1 => ?_
  have hiff := less_law (less := lessL p) hin ha (by omega) (fun x hx => (List.mem_filter.1 hx).1) (fun x hx => ?_) (s := k) (k := j)
  · cases hr : reachB p.over k j with
    | true => exact reachB_true.2 (hiff.2 (reachB_true.1 hr))
    | false => exact reachB_false.2 (fun hh => reachB_false.1 hr (hiff.1 hh))
  · cases hd : dirB (needR p).1 x.a x.b with
    | false => exact .inl (List.mem_filter.2 ⟨hx, by rw [hd]; rfl⟩)
    | true =>
      right
      rw [hN] at hd
      obtain ⟨y, hy, e1, e2⟩ := dirB_iff.1 hd
      obtain ⟨i, hi, e3, hr⟩ := needL_mem hy
      have hp := reachB_true.1 hr
      rw [e1, e2] at hp
      refine plus_mono (fun z hz => ?_) hp
      obtain ⟨hz1, hz2⟩ := delAt_ne (good_parts hg).2 hi z hz
      refine List.mem_filter.2 ⟨hz1, ?_⟩
      rw [← e3, e1, e2] at hz2
      simp only [Bool.not_eq_true', Bool.and_eq_false_iff, beq_eq_false_iff_ne]
      by_cases hza : z.a = x.a
      · exact .inr (fun hzb => hz2 ⟨hza, hzb⟩)
      · exact .inl hza
theorem add_law {p : Prec} {x : Pr} (h : (addP p x).2 = true) : ∃ Y, Y.length ≤ 8 ∧ yieldsR (addP p x).1 x.a = (Y, true) ∧ hasK Y x.b = true := by
  unfold addP at h ⊢
  split at h
  · rename_i h1
    split at h
    · rename_i h2
      rw [if_pos h1, if_pos h2]
      simp only [okB, Bool.and_eq_true] at h2
      obtain ⟨g1, g8, _, hin, _⟩ := goodPc_in h2.1
      have hx : x ∈ (addQ p x).over := by show x ∈ insAt p.over _ x; simp [insAt]
      have hk := hin x hx
      refine ⟨_, ?_, yields_at h2.1 hk.1, ?_⟩
      · have := selTo_len (reachB (addQ p x).over x.a) (addQ p x).kinds.toNat; omega
      · rw [has_sel hk.2]
        exact reachB_true.2 (plus_one hx rfl)
    · simp at h
  · simp at h
theorem block_law (p : Prec) (s : Int) : (yieldsR p s).2 = (blockedR p s).2 ∧ (yieldsR p s).1.length ≤ 8 ∧ (blockedR p s).1.length ≤ 8 ∧ ((yieldsR p s).2 = true → (1 ≤ p.kinds ∧ p.kinds ≤ 8) ∧ ∀ k : Int, 0 ≤ k → k < p.kinds → k ≠ s → hasK (yieldsR p s).1 k = !hasK (blockedR p s).1 k) := by
  by_cases h : kindB p s = true
  · have e1 : yieldsR p s = (selTo (reachB p.over s) p.kinds.toNat, true) := if_pos h
    have e2 : blockedR p s = (selTo (blockP p.over s) p.kinds.toNat, true) := if_pos h
    simp only [kindB, Bool.and_eq_true] at h
    obtain ⟨g1, g8, _⟩ := goodPc_in h.1
    rw [e1, e2]
    have h3 := selTo_len (reachB p.over s) p.kinds.toNat
    have h4 := selTo_len (blockP p.over s) p.kinds.toNat
    refine ⟨rfl, Nat.le_trans h3 (by omega), Nat.le_trans h4 (by omega), fun _ => ⟨⟨g1, g8⟩, fun k h0 hk hne => ?_⟩⟩
    rw [has_sel (by omega), has_sel (by omega)]
    unfold blockP
    have : (k != s) = true := by simpa using hne
    rw [this]; simp
  · have e1 : yieldsR p s = ([], false) := if_neg h
    have e2 : blockedR p s = ([], false) := if_neg h
    rw [e1, e2]
    exact ⟨rfl, by simp, by simp, fun h => by simp at h⟩
end Go.My
namespace Go.Proofs.Ytdbcbaahjhaonaa
open Go.RowKit Go.My
theorem pq_bad {p : Prec} (h : goodPc p = false) : cycR p = ([], false) ∧ soundR p = (false, false) ∧ orderR p = ([], false) ∧ ranksR p = ([], false) := by
  refine ⟨if_neg (by rw [h]; decide), if_neg (by rw [h]; decide), if_neg ?_, if_neg ?_⟩ <;> simp [okB, h]
theorem pq_sound {p : Prec} (hg : goodPc p = true) (hs : soundB p.over p.kinds.toNat = true) : ∃ O R : List Int, cycR p = ([], false) ∧ soundR p = (true, true) ∧ orderR p = (O, true) ∧ ranksR p = (R, true) ∧ O.length ≤ 8 ∧ R.length ≤ 8 ∧
    (∀ (i k : Nat) (hi : i < O.length) (hk : k < O.length), k < i → ∃ Y, Y.length ≤ 8 ∧ yieldsR p O[i] = (Y, true) ∧ hasK Y O[k] = false) ∧
    ∀ x ∈ p.over, ∃ (a b : Nat) (ha : a < R.length) (hb : b < R.length), x.a = a ∧ x.b = b ∧ R[a] < R[b] := by
  obtain ⟨h1, h8, h16, hin, _⟩ := goodPc_in hg
  have hac := soundB_acyc hin hs
  have hok : okB p = true := by simp [okB, hg, hs]
  have hb : bestF p.over p.kinds.toNat = none := by
    have hm := bestF_min hin
    cases hb : bestF p.over p.kinds.toNat with
    | none => rfl
    | some c =>
      rw [hb] at hm
      have hc := hm.1
      have := cyc_round hc (i := 0) (List.length_pos_iff.2 hc.ne)
      exact absurd this (hac _)
  refine ⟨orderL p.over p.kinds.toNat p.kinds.toNat, ranksL p.over p.kinds.toNat, ?_, ?_, if_pos hok, if_pos hok, by rw [orderL_len]; omega, by rw [ranksL_len]; omega, fun i k hi hk hlt => ?_, fun x hx => ?_⟩
  · unfold cycR; rw [if_pos hg, hb]; rfl
  · unfold soundR; rw [if_pos hg, hs]
  · rw [orderL_len] at hi
    obtain ⟨hr, hno⟩ := order_law hin hac hlt hi
    have hrk : 0 ≤ (orderL p.over p.kinds.toNat p.kinds.toNat).getD k 0 ∧ (orderL p.over p.kinds.toNat p.kinds.toNat).getD k 0 < (p.kinds.toNat : Int) := by
      rw [order_get (by omega)]
      obtain ⟨a, b, _⟩ := firstK_some (order_ready hin hac (n := k) (by omega))
      exact ⟨a, b⟩
    rw [getD_elem (by rw [orderL_len]; exact hi)] at hr hno
    rw [getD_elem hk] at hno hrk
    refine ⟨_, ?_, yields_at hg hr, ?_⟩
    · have := selTo_len (reachB p.over (orderL p.over p.kinds.toNat p.kinds.toNat)[i]) p.kinds.toNat; omega
    · rw [has_sel hrk]; exact reachB_false.2 hno
  · obtain ⟨⟨a0, a1⟩, b0, b1⟩ := hin x hx
    have e := rankB_edge hin hac (by omega) hx
    refine ⟨x.a.toNat, x.b.toNat, by rw [ranksL_len]; omega, by rw [ranksL_len]; omega, by omega, by omega, ?_⟩
    rw [← getD_elem, ← getD_elem, ranks_get (by omega), ranks_get (by omega)]
    rw [show ((x.a.toNat : Nat) : Int) = x.a by omega, show ((x.b.toNat : Nat) : Int) = x.b by omega]
    omega
theorem pq_cyc {p : Prec} (hg : goodPc p = true) (hs : soundB p.over p.kinds.toNat = false) : ∃ c : List Int, cycR p = (c, true) ∧ soundR p = (false, true) ∧ orderR p = ([], false) ∧ ranksR p = ([], false) ∧ c.length ≤ 8 ∧
    ∀ (i : Nat) (hi : i < c.length), ∃ Y, Y.length ≤ 8 ∧ yieldsR p c[i] = (Y, true) ∧ hasK Y c[i] = true ∧ ∃ hj : (i + 1) % c.length < c.length, hasK Y c[(i + 1) % c.length] = true := by
  obtain ⟨h1, h8, h16, hin, _⟩ := goodPc_in hg
  have hok : okB p = false := by simp [okB, hg, hs]
  have hnac : ¬ Acyc p.over := fun h => by rw [(sound_iff hin).2 h] at hs; cases hs
  have hm := bestF_min hin
  cases hb : bestF p.over p.kinds.toNat with
  | none =>
    rw [hb] at hm
    exact absurd (fun k hk => by obtain ⟨c, hc⟩ := cyc_ex hin hk; exact hm c hc) hnac
  | some c =>
    rw [hb] at hm
    have hc := hm.1
    obtain ⟨hnd, hrg⟩ := hc.ok (by simp) (by simp)
    have hlen := nodup_len hnd hrg
    refine ⟨c, ?_, ?_, if_neg (by rw [hok]; decide), if_neg (by rw [hok]; decide), by omega, fun i hi => ?_⟩
    · unfold cycR; rw [if_pos hg, hb]; rfl
    · unfold soundR; rw [if_pos hg, hs]
    · have hj : (i + 1) % c.length < c.length := Nat.mod_lt _ (by omega)
      have p1 := cyc_round hc hi
      have p2 := dir_plus (cyc_next hc hi)
      rw [getD_elem hi] at p1 p2
      rw [getD_elem hj] at p2
      refine ⟨_, ?_, yields_at hg (hrg _ (List.getElem_mem hi)), ?_, hj, ?_⟩
      · have := selTo_len (reachB p.over c[i]) p.kinds.toNat; omega
      · rw [has_sel (hrg _ (List.getElem_mem hi))]; exact reachB_true.2 p1
      · rw [has_sel (hrg _ (List.getElem_mem hj))]; exact reachB_true.2 p2
/-- All that FnPrecedence asks of a precedence. -/
theorem pq_all (p : Prec) : ∃ (CY OR RK : List Int) (told so cy fi : Bool), goodPc p = told ∧ cycR p = (CY, cy) ∧ soundR p = (so, told) ∧ orderR p = (OR, fi) ∧ ranksR p = (RK, fi) ∧ CY.length ≤ 8 ∧ OR.length ≤ 8 ∧ RK.length ≤ 8 ∧
    (∀ (i : Nat) (hi : i < CY.length), ∃ Y, Y.length ≤ 8 ∧ yieldsR p CY[i] = (Y, true) ∧ hasK Y CY[i] = true ∧ ∃ hj : (i + 1) % CY.length < CY.length, hasK Y CY[(i + 1) % CY.length] = true) ∧
    (∀ (i k : Nat) (hi : i < OR.length) (hk : k < OR.length), k < i → ∃ Y, Y.length ≤ 8 ∧ yieldsR p OR[i] = (Y, true) ∧ hasK Y OR[k] = false) ∧
    (fi = true → ∀ x ∈ p.over, ∃ (a b : Nat) (ha : a < RK.length) (hb : b < RK.length), x.a = a ∧ x.b = b ∧ RK[a] < RK[b]) ∧
    ((told = false ∧ so = false ∧ cy = false ∧ fi = false) ∨ (told = true ∧ so = true ∧ cy = false ∧ fi = true) ∨ (told = true ∧ so = false ∧ cy = true ∧ fi = false)) := by
  cases hg : goodPc p with
  | false =>
    obtain ⟨e1, e2, e3, e4⟩ := pq_bad hg
    exact ⟨[], [], [], false, false, false, false, rfl, e1, e2, e3, e4, by simp, by simp, by simp, fun i hi => by simp at hi, fun i k hi => by simp at hi, (fun h => by cases h), .inl ⟨rfl, rfl, rfl, rfl⟩⟩
  | true =>
    cases hs : soundB p.over p.kinds.toNat with
    | true =>
      obtain ⟨O, R, e1, e2, e3, e4, l2, l3, h2, h3⟩ := pq_sound hg hs
      exact ⟨[], O, R, true, true, false, true, rfl, e1, e2, e3, e4, by simp, l2, l3, fun i hi => by simp at hi, h2, fun _ => h3, .inr (.inl ⟨rfl, rfl, rfl, rfl⟩)⟩
    | false =>
      obtain ⟨c, e1, e2, e3, e4, l1, h1⟩ := pq_cyc hg hs
      exact ⟨c, [], [], true, false, true, false, rfl, e1, e2, e3, e4, l1, by simp, by simp, h1, fun i k hi => by simp at hi, (fun h => by cases h), .inr (.inr ⟨rfl, rfl, rfl, rfl⟩)⟩
theorem hasK_at {l : List Int} {k : Nat} {v : Int} (h : k < l.length) : hasK (l.drop k) v = (l[k] == v || hasK (l.drop (k + 1)) v) := by
  rw [List.drop_eq_getElem_cons h]; rfl
end Go.Proofs.Ytdbcbaahjhaonaa
