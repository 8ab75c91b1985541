/-
  Cycles of pairs, the order of lists, and the two searches for the least cycle: plain laws; the contract of l4Direct. Conditions: none.
-/
import Derived.Test.YtdbcbaahjhaonaaReach3
namespace Go.My
open Go.RowKit
/-! ### Cycles -/
def dirB (xs : List Pr) (a b : Int) : Bool := xs.any fun x => x.a == a && x.b == b
theorem dirB_iff {xs : List Pr} {a b : Int} : dirB xs a b = true ↔ ∃ x ∈ xs, x.a = a ∧ x.b = b := by
  simp [dirB]
def lastI (l : List Int) : Int := l.getLastD 0
def headI (l : List Int) : Int := l.headD 0
theorem lastI_snoc (l : List Int) (k : Int) : lastI (l ++ [k]) = k := by simp [lastI]
theorem headI_snoc {l : List Int} (h : l ≠ []) (k : Int) : headI (l ++ [k]) = headI l := by
  cases l with
  | nil => exact absurd rfl h
  | cons x l => rfl
theorem lastI_get {l : List Int} (h : 0 < l.length) : l[l.length - 1]'(by omega) = lastI l := by
  unfold lastI
  rw [List.getLastD_eq_getLast?, List.getLast?_eq_getElem?, List.getElem?_eq_getElem (by omega)]; rfl
theorem headI_get {l : List Int} (h : 0 < l.length) : l[0]'h = headI l := by
  cases l with
  | nil => simp at h
  | cons x l => rfl
/-- A cycle that continues a list. -/
inductive Ext (xs : List Pr) (K : Nat) : List Int → List Int → Prop
  | done (l : List Int) (h : l ≠ []) (hd : dirB xs (lastI l) (headI l) = true) : Ext xs K l l
  | step (l : List Int) (k : Int) (c : List Int) (hk : 0 ≤ k ∧ k < K) (hn : k ∉ l) (hd : l = [] ∨ dirB xs (lastI l) k = true) (h : Ext xs K (l ++ [k]) c) : Ext xs K l c
theorem Ext.len {xs : List Pr} {K : Nat} {l c : List Int} (h : Ext xs K l c) : l.length ≤ c.length := by
  induction h with
  | done => exact Nat.le_refl _
  | step l k c hk hn hd h ih => simp at ih; omega
theorem Ext.pre {xs : List Pr} {K : Nat} {l c : List Int} (h : Ext xs K l c) : ∃ t, c = l ++ t := by
  induction h with
  | done l _ _ => exact ⟨[], by simp⟩
  | step l k c hk hn hd h ih => obtain ⟨t, rfl⟩ := ih; exact ⟨k :: t, by simp⟩
theorem Ext.ne {xs : List Pr} {K : Nat} {l c : List Int} (h : Ext xs K l c) : c ≠ [] := by
  induction h with
  | done l h _ => exact h
  | step l k c hk hn hd h ih => exact ih
theorem Ext.ok {xs : List Pr} {K : Nat} {l c : List Int} (h : Ext xs K l c) : l.Nodup → (∀ x ∈ l, 0 ≤ x ∧ x < K) → c.Nodup ∧ ∀ x ∈ c, 0 ≤ x ∧ x < K := by
  induction h with
  | done l _ _ => exact fun h1 h2 => ⟨h1, h2⟩
  | step l k c hk hn hd h ih =>
    intro h1 h2
    refine ih ?_ ?_
    · rw [List.nodup_append]
      refine ⟨h1, by simp, fun a ha b hb => ?_⟩
      simp at hb; subst hb
      exact fun e => hn (e ▸ ha)
    · intro x hx
      rcases List.mem_append.1 hx with hx | hx
      · exact h2 x hx
      · simp at hx; subst hx; exact hk
/-! ### The order of lists -/
def cmpL : List Int → List Int → Int
  | [], [] => 0
  | [], _ :: _ => -1
  | _ :: _, [] => 1
  | a :: l, b :: m => if cmpI a b ≠ 0 then cmpI a b else cmpL l m
theorem cmpI_self (a : Int) : cmpI a a = 0 := by simp [cmpI]
theorem cmpI_zero {a b : Int} (h : cmpI a b = 0) : a = b := by
  unfold cmpI at h; split at h
  · omega
  · split at h <;> omega
theorem cmpI_neg {a b : Int} : cmpI a b < 0 ↔ a < b := by
  unfold cmpI; split
  · simp; omega
  · split <;> omega
theorem cmpI_pos {a b : Int} : 0 < cmpI a b ↔ b < a := by
  unfold cmpI; split
  · omega
  · split <;> omega
theorem cmpL_self (l : List Int) : cmpL l l = 0 := by
  induction l with
  | nil => rfl
  | cons a l ih => simp [cmpL, cmpI_self, ih]
theorem cmpL_zero : ∀ {l m : List Int}, cmpL l m = 0 → l = m
  | [], [], _ => rfl
  | [], _ :: _, h => by simp [cmpL] at h
  | _ :: _, [], h => by simp [cmpL] at h
  | a :: l, b :: m, h => by
    simp only [cmpL] at h
    split at h
    · omega
    · rename_i h0
      rw [cmpI_zero (by omega : cmpI a b = 0), cmpL_zero h]
theorem cmpL_anti : ∀ {l m : List Int}, 0 < cmpL l m → cmpL m l < 0
  | [], [], h => by simp [cmpL] at h
  | [], _ :: _, h => by simp [cmpL] at h
  | _ :: _, [], _ => by simp [cmpL]
  | a :: l, b :: m, h => by
    simp only [cmpL] at h ⊢
    split at h
    · have := cmpI_pos.1 h
      have h2 : cmpI b a < 0 := cmpI_neg.2 this
      rw [if_pos (by omega)]; exact h2
    · rename_i h0
      have e := cmpI_zero (by omega : cmpI a b = 0)
      rw [e, cmpI_self, if_neg (by simp)]
      exact cmpL_anti h
theorem cmpL_trans : ∀ {l m n : List Int}, cmpL l m < 0 → cmpL m n < 0 → cmpL l n < 0
  | [], [], _, h, _ => by simp [cmpL] at h
  | [], _ :: _, [], _, h => by simp [cmpL] at h
  | [], _ :: _, _ :: _, _, _ => by simp [cmpL]
  | _ :: _, [], _, h, _ => by simp [cmpL] at h
  | _ :: _, _ :: _, [], _, h => by simp [cmpL] at h
  | a :: l, b :: m, c :: n, h1, h2 => by
    simp only [cmpL] at h1 h2 ⊢
    by_cases e1 : cmpI a b = 0
    · rw [if_neg (by simp [e1])] at h1
      rw [cmpI_zero e1]
      split at h2
      · rename_i e2; rw [if_pos e2]; exact h2
      · rename_i e2; rw [if_neg e2]; exact cmpL_trans h1 h2
    · rw [if_pos e1] at h1
      have := cmpI_neg.1 h1
      by_cases e2 : cmpI b c = 0
      · rw [← cmpI_zero e2, if_pos e1]; exact h1
      · rw [if_pos e2] at h2
        have := cmpI_neg.1 h2
        have h3 : cmpI a c < 0 := cmpI_neg.2 (by omega)
        rw [if_pos (by omega)]; exact h3
theorem cmpL_app (p l m : List Int) : cmpL (p ++ l) (p ++ m) = cmpL l m := by
  induction p with
  | nil => rfl
  | cons a p ih => simp [cmpL, cmpI_self, ih]
/-- Shorter, or as long and before. -/
def cmpN (l m : List Int) : Int := if cmpI l.length m.length ≠ 0 then cmpI l.length m.length else cmpL l m
theorem cmpN_neg {l m : List Int} : cmpN l m < 0 ↔ l.length < m.length ∨ l.length = m.length ∧ cmpL l m < 0 := by
  unfold cmpN
  by_cases h : l.length = m.length
  · rw [h, cmpI_self, if_neg (by simp)]; simp
  · by_cases h2 : l.length < m.length
    · have : cmpI l.length m.length < 0 := cmpI_neg.2 (by omega)
      rw [if_pos (by omega)]; simp [this, h2]
    · have : 0 < cmpI (l.length : Int) m.length := cmpI_pos.2 (by omega)
      rw [if_pos (by omega)]; constructor
      · intro h3; omega
      · rintro (h3 | h3) <;> omega
theorem cmpN_trans {l m n : List Int} (h1 : cmpN l m < 0) (h2 : cmpN m n < 0) : cmpN l n < 0 := by
  rw [cmpN_neg] at *
  rcases h1 with h1 | ⟨e1, h1⟩ <;> rcases h2 with h2 | ⟨e2, h2⟩
  · left; omega
  · left; omega
  · left; omega
  · right; exact ⟨by omega, cmpL_trans h1 h2⟩
theorem cmpN_eq {l m : List Int} (h1 : ¬ cmpN l m < 0) (h2 : ¬ cmpN m l < 0) : l = m := by
  rw [cmpN_neg] at *
  have e : l.length = m.length := by omega
  have a : ¬ cmpL l m < 0 := fun h => h1 (.inr ⟨e, h⟩)
  have b : ¬ cmpL m l < 0 := fun h => h2 (.inr ⟨e.symm, h⟩)
  by_cases z : cmpL l m = 0
  · exact cmpL_zero z
  · exact absurd (cmpL_anti (by omega)) b
/-! ### The least of a set -/
def MinO (b : Option (List Int)) (S : List Int → Prop) : Prop := match b with
  | none => ∀ c, ¬ S c
  | some m => S m ∧ ∀ c, S c → ¬ cmpN c m < 0
theorem MinO.congr {b : Option (List Int)} {S T : List Int → Prop} (h : MinO b S) (e : ∀ c, S c ↔ T c) : MinO b T := by
  have : S = T := funext fun c => propext (e c)
  exact this ▸ h
theorem MinO.uniq {b b' : Option (List Int)} {S : List Int → Prop} (h : MinO b S) (h' : MinO b' S) : b = b' := by
  cases b with
  | none => cases b' with
    | none => rfl
    | some m => exact absurd h'.1 (h m)
  | some m => cases b' with
    | none => exact absurd h.1 (h' m)
    | some n => rw [cmpN_eq (h'.2 m h.1) (h.2 n h'.1)]
def betterB (l : List Int) (b : Option (List Int)) : Bool := match b with
  | none => true
  | some m => decide (cmpN l m < 0)
def takeB (l : List Int) (b : Option (List Int)) : Option (List Int) := if betterB l b = true then some l else b
theorem MinO.take {b : Option (List Int)} {S : List Int → Prop} (h : MinO b S) (l : List Int) : MinO (takeB l b) (fun c => S c ∨ c = l) := by
  cases b with
  | none =>
    refine ⟨.inr rfl, fun c hc => ?_⟩
    rcases hc with hc | rfl
    · exact absurd hc (h c)
    · rw [cmpN_neg, cmpL_self]; omega
  | some m =>
    unfold takeB betterB
    simp only [decide_eq_true_eq]
    by_cases hl : cmpN l m < 0
    · rw [if_pos hl]
      refine ⟨.inr rfl, fun c hc => ?_⟩
      rcases hc with hc | rfl
      · exact fun h2 => h.2 c hc (cmpN_trans h2 hl)
      · rw [cmpN_neg, cmpL_self]; omega
    · rw [if_neg hl]
      refine ⟨.inl h.1, fun c hc => ?_⟩
      rcases hc with hc | rfl
      · exact h.2 c hc
      · exact hl
/-! ### The two searches -/
def visX (rec : List Int → Option (List Int) → Option (List Int)) (l : List Int) (b : Option (List Int)) (x : Pr) : Option (List Int) :=
  if x.a = lastI l then
    let b1 := if x.b = headI l then takeB l b else b
    if hasK l x.b = true then b1 else rec (l ++ [x.b]) b1
  else b
def visF (xs : List Pr) : Nat → List Int → Option (List Int) → Option (List Int)
  | 0, _, b => b
  | f + 1, l, b => xs.foldl (visX (visF xs f) l) b
theorem visF_min {xs : List Pr} {K : Nat} (hin : InK xs K) : ∀ (f : Nat) (l : List Int) (b : Option (List Int)) (S : List Int → Prop), l ≠ [] → l.Nodup → (∀ x ∈ l, 0 ≤ x ∧ x < K) → l.length + f = K + 1 → MinO b S → MinO (visF xs f l b) (fun c => S c ∨ Ext xs K l c)
  | 0, l, b, S, hl, hn, hr, hf, h => by
    have := nodup_len hn hr
    omega
  | f + 1, l, b, S, hl, hn, hr, hf, h => by
    have key : ∀ (ys : List Pr), (∀ y ∈ ys, y ∈ xs) → ∀ (b : Option (List Int)) (S : List Int → Prop), MinO b S → MinO (ys.foldl (visX (visF xs f) l) b) (fun c => S c ∨ ∃ x ∈ ys, x.a = lastI l ∧ ((x.b = headI l ∧ c = l) ∨ (x.b ∉ l ∧ Ext xs K (l ++ [x.b]) c))) := by
      intro ys
      induction ys with
      | nil => intro _ b S h; exact h.congr fun c => by simp
      | cons y ys ih =>
        intro hy b S h
        have hyx := hy y (by simp)
        have h1 : MinO (visX (visF xs f) l b y) (fun c => S c ∨ (y.a = lastI l ∧ ((y.b = headI l ∧ c = l) ∨ (y.b ∉ l ∧ Ext xs K (l ++ [y.b]) c)))) := by
          unfold visX
          by_cases e : y.a = lastI l
          · rw [if_pos e]
            have h2 : MinO (if y.b = headI l then takeB l b else b) (fun c => S c ∨ (y.b = headI l ∧ c = l)) := by
              by_cases e2 : y.b = headI l
              · rw [if_pos e2]; exact (h.take l).congr fun c => by simp [e2]
              · rw [if_neg e2]; exact h.congr fun c => by simp [e2]
            simp only
            by_cases e3 : hasK l y.b = true
            · rw [if_pos e3]
              have := hasK_iff.1 e3
              exact h2.congr fun c => by simp [e, this]
            · rw [if_neg e3]
              have hni : y.b ∉ l := fun h => e3 (hasK_iff.2 h)
              have hnd : (l ++ [y.b]).Nodup := by
                rw [List.nodup_append]
                refine ⟨hn, by simp, fun a ha b hb => ?_⟩
                simp at hb; subst hb
                exact fun e => hni (e ▸ ha)
              refine (visF_min hin f (l ++ [y.b]) _ _ (by simp) hnd (fun x hx => ?_) (by simp; omega) h2).congr fun c => ?_
              · rcases List.mem_append.1 hx with hx | hx
                · exact hr x hx
                · simp at hx; subst hx; exact (hin y hyx).2
              · simp [e, hni, or_assoc]
          · rw [if_neg e]; exact h.congr fun c => by simp [e]
        refine (ih (fun z hz => hy z (List.mem_cons_of_mem _ hz)) _ _ h1).congr fun c => ?_
        simp only [List.mem_cons, exists_eq_or_imp, or_assoc]
    refine (key xs (fun _ h => h) b S h).congr fun c => ?_
    constructor
    · rintro (h | ⟨x, hx, e, (⟨e2, rfl⟩ | ⟨hni, hE⟩)⟩)
      · exact .inl h
      · exact .inr (.done _ hl (dirB_iff.2 ⟨x, hx, e, e2⟩))
      · exact .inr (.step _ x.b _ (hin x hx).2 hni (.inr (dirB_iff.2 ⟨x, hx, e, rfl⟩)) hE)
    · rintro (h | hE)
      · exact .inl h
      · cases hE with
        | done _ h hd =>
          obtain ⟨x, hx, e1, e2⟩ := dirB_iff.1 hd
          exact .inr ⟨x, hx, e1, .inl ⟨e2, rfl⟩⟩
        | step _ k _ hk hn hd h =>
          rcases hd with hd | hd
          · exact absurd hd hl
          · obtain ⟨x, hx, e1, rfl⟩ := dirB_iff.1 hd
            exact .inr ⟨x, hx, e1, .inr ⟨hn, h⟩⟩
def bestF (xs : List Pr) (K : Nat) : Option (List Int) := (kindsTo K).foldl (fun b k => visF xs K [k] b) none
theorem bestF_min {xs : List Pr} {K : Nat} (hin : InK xs K) : MinO (bestF xs K) (Ext xs K []) := by
  have key : ∀ (ks : List Int), (∀ k ∈ ks, 0 ≤ k ∧ k < (K : Int)) → ∀ (b : Option (List Int)) (S : List Int → Prop), MinO b S → MinO (ks.foldl (fun b k => visF xs K [k] b) b) (fun c => S c ∨ ∃ k ∈ ks, Ext xs K [k] c) := by
    intro ks
    induction ks with
    | nil => intro _ b S h; exact h.congr fun c => by simp
    | cons k ks ih =>
      intro hk b S h
      have hk0 := hk k (by simp)
      refine (ih (fun z hz => hk z (List.mem_cons_of_mem _ hz)) _ _ (visF_min hin K [k] b S (by simp) (by simp) (by simpa using hk0) (by simp; omega) h)).congr fun c => ?_
      simp only [List.mem_cons, exists_eq_or_imp, or_assoc]
  refine (key (kindsTo K) (fun k h => kindsTo_mem.1 h) none (fun _ => False) (fun c h => h)).congr fun c => ?_
  constructor
  · rintro (h | ⟨k, hk, h⟩)
    · exact h.elim
    · exact .step [] k c (kindsTo_mem.1 hk) (by simp) (.inl rfl) h
  · intro h
    cases h with
    | done _ h hd => exact absurd rfl h
    | step _ k _ hk hn hd h => exact .inr ⟨k, kindsTo_mem.2 hk, h⟩
/-- The reference's search for a cycle of a length. -/
def cycF (xs : List Pr) (K : Nat) : Nat → List Int → Option (List Int)
  | 0, l => if dirB xs (lastI l) (headI l) = true then some l else none
  | f + 1, l => (kindsTo K).findSome? fun k => if (hasK l k || (!l.isEmpty && !dirB xs (lastI l) k)) = true then none else cycF xs K f (l ++ [k])
theorem cycF_is {xs : List Pr} {K : Nat} : ∀ (f : Nat) (l : List Int), (f = 0 → l ≠ []) → match cycF xs K f l with
    | none => ∀ c, Ext xs K l c → c.length ≠ l.length + f
    | some m => Ext xs K l m ∧ m.length = l.length + f ∧ ∀ c, Ext xs K l c → c.length = l.length + f → ¬ cmpL c m < 0
  | 0, l, h0 => by
    have hl := h0 rfl
    have hs : ∀ c, Ext xs K l c → c.length = l.length + 0 → c = l ∧ dirB xs (lastI l) (headI l) = true := fun c hE he => by
      cases hE with
      | done _ h hd => exact ⟨rfl, hd⟩
      | step _ k _ hk hn hd h => have := h.len; simp at this; omega
    unfold cycF
    by_cases hd : dirB xs (lastI l) (headI l) = true
    · rw [if_pos hd]
      refine ⟨.done l hl hd, rfl, fun c hE he => ?_⟩
      rw [(hs c hE he).1, cmpL_self]; omega
    · rw [if_neg hd]
      exact fun c hE he => hd (hs c hE he).2
  | f + 1, l, _ => by
    have hs : ∀ c, Ext xs K l c → c.length = l.length + (f + 1) → ∃ k, (0 ≤ k ∧ k < (K : Int)) ∧ ¬ (hasK l k || (!l.isEmpty && !dirB xs (lastI l) k)) = true ∧ Ext xs K (l ++ [k]) c := fun c hE he => by
      cases hE with
      | done _ h hd => omega
      | step _ k _ hk hn hd h =>
        refine ⟨k, hk, ?_, h⟩
        simp only [Bool.or_eq_true, Bool.and_eq_true, Bool.not_eq_true', not_or, not_and, Bool.not_eq_false]
        refine ⟨fun h => hn (hasK_iff.1 h), fun he => ?_⟩
        rcases hd with rfl | hd
        · simp at he
        · exact hd
    have hb : ∀ k c, (0 ≤ k ∧ k < (K : Int)) → ¬ (hasK l k || (!l.isEmpty && !dirB xs (lastI l) k)) = true → Ext xs K (l ++ [k]) c → Ext xs K l c := fun k c hk hq hE => by
      simp only [Bool.or_eq_true, Bool.and_eq_true, Bool.not_eq_true', not_or, not_and, Bool.not_eq_false] at hq
      refine .step l k c hk (fun h => hq.1 (hasK_iff.2 h)) ?_ hE
      by_cases hl : l = []
      · exact .inl hl
      · exact .inr (hq.2 (by simpa using hl))
    unfold cycF
    have go : ∀ (pre ks : List Int), kindsTo K = pre ++ ks → (∀ k ∈ pre, ∀ c, ¬ (hasK l k || (!l.isEmpty && !dirB xs (lastI l) k)) = true → Ext xs K (l ++ [k]) c → c.length ≠ l.length + (f + 1)) →
        match ks.findSome? (fun k => if (hasK l k || (!l.isEmpty && !dirB xs (lastI l) k)) = true then none else cycF xs K f (l ++ [k])) with
        | none => ∀ c, Ext xs K l c → c.length ≠ l.length + (f + 1)
        | some m => Ext xs K l m ∧ m.length = l.length + (f + 1) ∧ ∀ c, Ext xs K l c → c.length = l.length + (f + 1) → ¬ cmpL c m < 0 := by
      intro pre ks
      induction ks generalizing pre with
      | nil =>
        intro e hp c hE he
        obtain ⟨k, hk, hq, h⟩ := hs c hE he
        rw [List.append_nil] at e
        exact hp k (e ▸ kindsTo_mem.2 hk) c hq h he
      | cons k ks ih =>
        intro e hp
        have hkK : 0 ≤ k ∧ k < (K : Int) := kindsTo_mem.1 (e ▸ by simp)
        rw [List.findSome?_cons]
        by_cases hq : (hasK l k || (!l.isEmpty && !dirB xs (lastI l) k)) = true
        · rw [if_pos hq]
          refine ih (pre ++ [k]) (by simp [e]) (fun k' hk' c hq' => ?_)
          rcases List.mem_append.1 hk' with hk' | hk'
          · exact hp k' hk' c hq'
          · simp at hk'; subst hk'; exact absurd hq hq'
        · rw [if_neg hq]
          have hr := cycF_is (xs := xs) (K := K) f (l ++ [k]) (fun _ => by simp)
          cases hc : cycF xs K f (l ++ [k]) with
          | none =>
            rw [hc] at hr
            refine ih (pre ++ [k]) (by simp [e]) (fun k' hk' c hq' hE => ?_)
            rcases List.mem_append.1 hk' with hk' | hk'
            · exact hp k' hk' c hq' hE
            · simp at hk'; subst hk'
              have := hr c hE
              simp at this; omega
          | some m =>
            rw [hc] at hr
            obtain ⟨h1, h2, h3⟩ := hr
            have h2' : m.length = l.length + (f + 1) := by simp at h2; omega
            refine ⟨hb k m hkK hq h1, h2', fun c hE he => ?_⟩
            obtain ⟨k', hk', hq', hE'⟩ := hs c hE he
            have hks : (kindsTo K).Pairwise (· < ·) := by
              unfold kindsTo
              rw [List.pairwise_map]
              exact (List.pairwise_lt_range (n := K)).imp fun h => by omega
            rw [e, List.pairwise_append, List.pairwise_cons] at hks
            have hm : k' ∈ pre ++ k :: ks := e ▸ kindsTo_mem.2 hk'
            rcases List.mem_append.1 hm with hm | hm
            · exact absurd he (hp k' hm c hq' hE')
            · rcases List.mem_cons.1 hm with rfl | hm
              · exact h3 c hE' (by simp; omega)
              · have hlt := hks.2.1.1 k' hm
                obtain ⟨t, rfl⟩ := hE'.pre
                obtain ⟨u, rfl⟩ := h1.pre
                rw [List.append_assoc, List.append_assoc, cmpL_app]
                have h4 : 0 < cmpI k' k := cmpI_pos.2 hlt
                simp only [List.cons_append, List.nil_append, cmpL]
                rw [if_pos (by omega)]; omega
    exact go [] (kindsTo K) rfl (by simp)
def searchF (xs : List Pr) (K : Nat) : Nat → Option (List Int)
  | 0 => none
  | n + 1 => match searchF xs K n with
    | some m => some m
    | none => cycF xs K (n + 2) []
theorem searchF_is {xs : List Pr} {K : Nat} : ∀ n, match searchF xs K n with
    | none => ∀ c, Ext xs K [] c → c.length < 2 ∨ n + 2 ≤ c.length
    | some m => Ext xs K [] m ∧ ∀ c, Ext xs K [] c → 2 ≤ c.length → ¬ cmpN c m < 0
  | 0 => fun c h => by omega
  | n + 1 => by
    have ih := searchF_is (xs := xs) (K := K) n
    unfold searchF
    cases h : searchF xs K n with
    | some m => rw [h] at ih; exact ih
    | none =>
      rw [h] at ih
      have hr := cycF_is (xs := xs) (K := K) (n + 2) [] (by omega)
      simp only
      cases hc : cycF xs K (n + 2) [] with
      | none =>
        rw [hc] at hr
        intro c hE
        have h1 := ih c hE
        have h2 := hr c hE
        simp at h2; omega
      | some m =>
        rw [hc] at hr
        obtain ⟨h1, h2, h3⟩ := hr
        simp at h2
        refine ⟨h1, fun c hE hl => ?_⟩
        rw [cmpN_neg]
        rintro (h4 | ⟨h4, h5⟩)
        · have := ih c hE; omega
        · exact h3 c hE (by simp; omega) h5
theorem search_best {xs : List Pr} {K : Nat} (hin : InK xs K) (hne : ∀ x ∈ xs, x.a ≠ x.b) (hK : 1 ≤ K) : searchF xs K (K - 1) = bestF xs K := by
  have hlen : ∀ c, Ext xs K [] c → 2 ≤ c.length ∧ c.length ≤ K := fun c h => by
    obtain ⟨h1, h2⟩ := h.ok (by simp) (by simp)
    have h3 := nodup_len h1 h2
    refine ⟨?_, h3⟩
    have h4 : c ≠ [] := h.ne
    have one : ∀ {l c : List Int}, Ext xs K l c → c.length ≠ 1 := by
      intro l c h
      induction h with
      | done l h hd =>
        intro he
        match l, he with
        | [k], _ =>
          obtain ⟨x, hx, e1, e2⟩ := dirB_iff.1 hd
          exact hne x hx (e1.trans e2.symm)
      | step l k c hk hn hd h ih => exact ih
    have := one h
    have : 0 < c.length := List.length_pos_iff.2 h4
    omega
  refine MinO.uniq (S := Ext xs K []) ?_ (bestF_min hin)
  have h := searchF_is (xs := xs) (K := K) (K - 1)
  cases hs : searchF xs K (K - 1) with
  | none =>
    rw [hs] at h
    intro c hE
    have h1 := h c hE
    have h2 := hlen c hE
    omega
  | some m =>
    rw [hs] at h
    exact ⟨h.1, fun c hE => h.2 c hE (hlen c hE).1⟩
theorem bestF_len {xs : List Pr} {K : Nat} (hin : InK xs K) {m : List Int} (h : bestF xs K = some m) : m.length ≤ K := by
  have hm := bestF_min hin
  rw [h] at hm
  obtain ⟨h1, h2⟩ := hm.1.ok (by simp) (by simp)
  exact nodup_len h1 h2
theorem dirB_at {xs : List Pr} {a b : Int} {k : Nat} (hk : k < xs.length) : dirB (xs.drop k) a b = ((xs[k].a == a && xs[k].b == b) || dirB (xs.drop (k + 1)) a b) := by
  rw [List.drop_eq_getElem_cons hk]; rfl
end Go.My
namespace Go.Proofs.Ytdbcbaahjhaonaa
open Go.RowKit Go.My
theorem eq2_runD (D : Nat) (a b c d : Int) (w : World) : (Op.equalIn (D + 1 + 1) 52 (.agg #[.int .i64 a, .int .i64 b]) (.agg #[.int .i64 c, .int .i64 d])).run Try.prog w = .ok (a == c && b == d) w := by
  have hu : Try.prog.underlying 52 = some (.array 2 3) := Try.underlying52
  have hi : Try.prog.underlying 3 = some (.int .i64) := Try.underlying3
  have hs : ∀ w, (sizeOf 3).run Try.prog w = .ok 1 w := fun w => by kernel_rfl
  have p0 : ∀ (x y : Value) (w : World), (part 3 #[x, y] 0).run Try.prog w = .ok x w := fun x y w => by kernel_rfl
  have p1 : ∀ (x y : Value) (w : World), (part 3 #[x, y] 1).run Try.prog w = .ok y w := fun x y w => by kernel_rfl
  have q : ∀ (a b : Int) (w : World), (Op.equalIn (D + 1) 3 (.int .i64 a) (.int .i64 b)).run Try.prog w = .ok (a == b) w := fun a b w => run_equalIn_int w D 3 .i64 .i64 a b hi
  conv => lhs; unfold Op.equalIn
  simp only [Sem.run_bind, run_underlying hu, Result.andThen_ok, hs]
  simp only [Std.Legacy.Range.forIn_eq_forIn_range', List.range', Std.Legacy.Range.size, Nat.sub_zero, Nat.reduceAdd, Nat.reduceSub, Nat.div_one, List.forIn_cons, List.forIn_nil, Sem.run_bind, p0, q, Result.andThen_ok, Nat.zero_mul, Nat.one_mul, Nat.zero_add, Sem.run_ite, Sem.run_pure]
  cases h1 : (a == c) <;> cases h2 : (b == d) <;> simp [h2, p1, q]
theorem eq2_run (a b c d : Int) (w : World) : (Op.equalIn 10000 52 (.agg #[.int .i64 a, .int .i64 b]) (.agg #[.int .i64 c, .int .i64 d])).run Try.prog w = .ok (a == c && b == d) w := eq2_runD 9998 a b c d w
set_option maxHeartbeats 1000000 in
set_option maxRecDepth 100000 in
theorem l4Direct_any (A : Option Addr) (c : Nat) (K : Int) (xs : List Pr) (lo hi : Int) (w : World) (hn : xs.length ≤ maxLen) (hx : Rd w A (prCells xs)) :
    Calls Try.prog 77 #[.agg #[.int .i64 K, .slice A xs.length c], .int .i64 lo, .int .i64 hi] w fun e w' => e = .returned (.bool (dirB xs lo hi)) ∧ Below w.heap.size w w' := by
  unfold maxLen at hn
  have hb0 : Below w.heap.size w (w.alloc (.cells #[.int .i64 K, .slice A xs.length c] 27)) := bnew (Below.refl _ _) _
  have m1 : (w.alloc (.cells #[.int .i64 K, .slice A xs.length c] 27)).cell? ⟨w.heap.size, 1, none⟩ = some (.slice A xs.length c) := (World.cell?_alloc_at _ _ _ _ rfl).trans rfl
  have hx0 := hx.below hb0
  have HT : Hid (dirB xs lo hi = dirB (xs.drop 0) lo hi) := rfl
  clear hx
  generalize dirB xs lo hi = r at *
  have he := eq2_run
  go_enter Try.func77, Try.ntmps77
  go_wp2_with fail
  generalize w.alloc (.cells #[.int .i64 K, .slice A xs.length c] 27) = W0 at *
  go_loopw [7] (fun q wr => ∃ k : Nat, k ≤ xs.length ∧ q = .int .i64 k ∧ Hid (r = dirB (xs.drop k) lo hi) ∧ W0 = wr) (fun q _ => xs.length - (intOf q).toNat)
  case atStart => exact ⟨0, by omega, rfl, HT, rfl⟩
  case round =>
    obtain ⟨k, hk, rfl, H, rfl⟩ := hrel
    by_cases hlt : k < xs.length
    · obtain ⟨b, off, rfl, c0, c1⟩ := Rd.pr hx0 hlt
      have Hn := Lib.hid (H.out.trans (dirB_at hlt))
      have hkI : (k : Int) < (xs.length : Int) := by omega
      generalize xs[k] = s at *
      clear H HT
      by_cases h1 : s.a = lo
      · by_cases h2 : s.b = hi
        · have hr : Hid (r = true) := Hn.out.trans (by simp [h1, h2])
          have h1' : (s.a == lo) = true := by simp [h1]
          have h2' : (s.b == hi) = true := by simp [h2]
          clear Hn h1 h2
          go_wp2
          go_ret
          exact ⟨by rw [hr.out]; rfl, hb0⟩
        · have hr := Lib.hid (Hn.out.trans (by rw [beq_eq_false_iff_ne.2 h2, Bool.and_false, Bool.false_or]))
          have h1' : (s.a == lo) = true := by simp [h1]
          have h2' : (s.b == hi) = false := by simp [h2]
          clear Hn h1 h2
          go_wp2
          go_roundw
          case rel => exact ⟨k + 1, by omega, by go_num, hr, trivial⟩
          case measure => simp [intOf]; omega
      · have hr := Lib.hid (Hn.out.trans (by rw [beq_eq_false_iff_ne.2 h1, Bool.false_and, Bool.false_or]))
        have h1' : (s.a == lo) = false := by simp [h1]
        clear Hn h1
        go_wp2
        go_roundw
        case rel => exact ⟨k + 1, by omega, by go_num, hr, trivial⟩
        case measure => simp [intOf]; omega
    · have hr : Hid (r = false) := H.out.trans (by rw [List.drop_eq_nil_of_le (by omega)]; rfl)
      clear H HT
      go_wp2
      go_ret
      exact ⟨by rw [hr.out]; rfl, hb0⟩
end Go.Proofs.Ytdbcbaahjhaonaa

