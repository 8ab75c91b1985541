/-
  A region that draws its order and makes memory, walked once: its operations that make memory ('loose' ones) yield values of which only what they own is known; each such thing is used up by one operation at the most. Conditions: none.
-/
import Derived.Test.YtdbcbaahjhaonaaRow
import Derived.Test.YtdbcbaahjhaonaaApp
import Derived.StillTail
namespace Go.My
open Go.RowKit

/-- A later world: all old blocks but those of F are as they were. -/
structure Cl (w0 : World) (F : List Nat) where
  val : World
  os : val.os = w0.os
  tape : val.tape = w0.tape
  output : val.output = w0.output
  size : w0.heap.size ≤ val.heap.size
  block : ∀ g, g < w0.heap.size → g ∉ F → val.heap[g]? = w0.heap[g]?
instance {w0 : World} {F : List Nat} : Nonempty (Cl w0 F) := ⟨⟨w0, rfl, rfl, rfl, Nat.le_refl _, fun _ _ _ => rfl⟩⟩
def ClP (w0 : World) (F : List Nat) (w : World) : Prop := ∃ n : Cl w0 F, w = n.val
theorem ClP.refl (w0 : World) (F : List Nat) : ClP w0 F w0 := ⟨⟨w0, rfl, rfl, rfl, Nat.le_refl _, fun _ _ _ => rfl⟩, rfl⟩
theorem Cl.below {w0 : World} (n : Cl w0 []) : Below w0.heap.size w0 n.val := ⟨n.os, n.tape, n.output, n.size, fun k hk => n.block k hk (by simp)⟩
theorem cell_cl {w : World} {p : Addr} {v : Value} (h : w.cell? p = some v) (n : Cl w []) : n.val.cell? p = some v := (n.below.cell (World.block_lt_of_cell? w _ h)).trans h
theorem cell_clF {w : World} {F : List Nat} {p : Addr} {v : Value} (h : w.cell? p = some v) (hF : p.block ∉ F) (n : Cl w F) : n.val.cell? p = some v := by
  have hlt := World.block_lt_of_cell? w _ h
  have hb := n.block p.block hlt hF
  rw [← h]
  unfold World.cell?
  rw [hb]
/-- What a loose operation yields. -/
structure LS where
  cons : List Nat
  ok : Value → Prop
  V : Value → World → Prop
  fp : Value → List Nat
  loc : ∀ u w w', V u w → (∀ g ∈ fp u, w'.heap[g]? = w.heap[g]?) → w.heap.size ≤ w'.heap.size → V u w'
  ne : ∃ u, ok u

def stepUpon (P : Program) (R : Value → World → Prop) : Result Next → Prop
  | .ok (.value u) w' => R u w'
  | .ok .skip w' => R undef w'
  | .ok (.enter f args) w' => Calls P f args w' fun e w'' => ∃ u, e = .returned u ∧ R u w''
  | _ => False
def stepTo (P : Program) (o : Oper) (a : Act) (w : World) (R : Value → World → Prop) : Prop := stepUpon P R ((execOp a.eval o).run P w)
def strictUpon (w : World) (v : Value) : Result Next → Prop
  | .ok (.value u) w' => w' = w ∧ u = v
  | .ok .skip w' => w' = w ∧ v = undef
  | _ => False
def strictAt (P : Program) (o : Oper) (a : Act) (w : World) (v : Value) : Prop := strictUpon w v ((execOp a.eval o).run P w)
theorem strict_uniq {w : World} {v v' : Value} {r : Result Next} (h : strictUpon w v r) (h' : strictUpon w v' r) : v = v' := by
  cases r with
  | ok n w' => cases n <;> simp only [strictUpon] at h h' <;> first | exact h.2.symm.trans h'.2 | exact h.2.trans h'.2.symm
  | halt x w' => simp only [strictUpon] at h
def upd (U : Nat → Value) (i : Nat) (u : Value) : Nat → Value := fun r => if r = i then u else U r
theorem upd_same (U : Nat → Value) (i : Nat) (u : Value) : upd U i u i = u := if_pos rfl
theorem upd_ne {U : Nat → Value} {i r : Nat} {u : Value} (h : r ≠ i) : upd U i u r = U r := if_neg h
theorem upd_comm (U : Nat → Value) {i j : Nat} (u v : Value) (h : i ≠ j) : upd (upd U i u) j v = upd (upd U j v) i u := by
  funext r
  unfold upd
  by_cases h1 : r = i
  · by_cases h2 : r = j
    · exact absurd (h1.symm.trans h2) h
    · simp [h1, h]
  · by_cases h2 : r = j
    · simp [h2, Ne.symm h]
    · simp [h1, h2]

section
variable {P : Program} {ops : Array Oper} {w0 : World} {F : List Nat} {τ : Nat → Option LS}
/-- What the step owes. -/
def Owes (τ : Nat → Option LS) (s : LS) (U : Nat → Value) (w : World) (u : Value) (w' : World) : Prop :=
  s.ok u ∧ s.V u w' ∧ w'.os = w.os ∧ w'.tape = w.tape ∧ w'.output = w.output ∧ w.heap.size ≤ w'.heap.size ∧
  (∀ g, g < w.heap.size → (∀ d ∈ s.cons, ∀ t, τ d = some t → g ∉ t.fp (U d)) → w'.heap[g]? = w.heap[g]?) ∧
  ∀ g ∈ s.fp u, g < w'.heap.size ∧ (w.heap.size ≤ g ∨ ∃ d ∈ s.cons, ∃ t, τ d = some t ∧ g ∈ t.fp (U d))
/-- What the step has at hand. -/
def Has (τ : Nat → Option LS) (ds : List Nat) (U : Nat → Value) (w : World) : Prop :=
  (∀ d ∈ ds, ∀ t, τ d = some t → t.V (U d) w ∧ ∀ g ∈ t.fp (U d), g < w.heap.size) ∧ ∀ d ∈ ds, ∀ d' ∈ ds, d ≠ d' → ∀ t t', τ d = some t → τ d' = some t' → ∀ g ∈ t.fp (U d), g ∉ t'.fp (U d')
theorem Has.congr {ds : List Nat} {U U' : Nat → Value} {w : World} (h : Has τ ds U w) (e : ∀ d ∈ ds, U' d = U d) : Has τ ds U' w :=
  ⟨fun d hd t ht => by rw [e d hd]; exact h.1 d hd t ht, fun d hd d' hd' hne t t' ht ht' => by rw [e d hd, e d' hd']; exact h.2 d hd d' hd' hne t t' ht ht'⟩
def Ob (P : Program) (w0 : World) (F : List Nat) (τ : Nat → Option LS) (s : LS) (o : Oper) (a : Act) (U : Nat → Value) : Prop :=
  ∀ w, ClP w0 F w → Has τ s.cons U w → stepTo P o a w (Owes τ s U w)
def lOp (P : Program) (ops : Array Oper) (w0 : World) (F : List Nat) (τ : Nat → Option LS) (i : Nat) (K : (Nat → Value) → Act → Prop) (U : Nat → Value) (a : Act) : Prop :=
  match ops[i]? with
  | none => False
  | some o => match τ i with
    | some s => Ob P w0 F τ s o a U ∧ ∀ u, s.ok u → K (upd U i u) (a.put o.dst u)
    | none => if Region.wanted o (yielded ops a.tmps) = true then ∃ v, (∀ w, ClP w0 F w → strictAt P o a w v) ∧ K U (a.put o.dst v) else K U (a.put o.dst undef)
theorem lOp_mono {i : Nat} {K K' : (Nat → Value) → Act → Prop} {U : Nat → Value} {a : Act} (h : ∀ U a, K U a → K' U a) (hh : lOp P ops w0 F τ i K U a) : lOp P ops w0 F τ i K' U a := by
  unfold lOp at *
  split
  · rename_i ho; simp only [ho] at hh
  · rename_i o ho
    simp only [ho] at hh
    split
    · rename_i s hs; simp only [hs] at hh; exact ⟨hh.1, fun u hu => h _ _ (hh.2 u hu)⟩
    · rename_i hs
      simp only [hs] at hh
      split
      · rename_i hw; simp only [hw, if_true] at hh; obtain ⟨v, h1, h2⟩ := hh; exact ⟨v, h1, h _ _ h2⟩
      · rename_i hw; simp only [hw] at hh; exact h _ _ hh
/-- The game over all orders. -/
def gAny (P : Program) (ops : Array Oper) (w0 : World) (F : List Nat) (τ : Nat → Option LS) (n : Nat) (L : Array Bool → (Nat → Value) → Act → Prop) : Nat → Array Bool → (Nat → Value) → Act → Prop
  | 0, listed, U, a => L listed U a
  | f + 1, listed, U, a => Region.ready .any ops listed ≠ [] ∧ ∀ i ∈ Region.ready .any ops listed, i < n ∧ lOp P ops w0 F τ i (gAny P ops w0 F τ n L f (listed.setIfInBounds i true)) U a
/-- What taking an operation first gives. -/
def Gives (P : Program) (ops : Array Oper) (w0 : World) (F : List Nat) (τ : Nat → Option LS) (i : Nat) (o : Oper) (U : Nat → Value) (a : Act) (K : (Nat → Value) → Act → Prop) : Prop :=
  match τ i with
  | some s => Ob P w0 F τ s o a U ∧ ∀ u, s.ok u → K (upd U i u) (a.put o.dst u)
  | none => ∃ v, ((Region.wanted o (yielded ops a.tmps) = true ∧ ∀ w, ClP w0 F w → strictAt P o a w v) ∨ (Region.wanted o (yielded ops a.tmps) = false ∧ v = undef)) ∧ K U (a.put o.dst v)
theorem gives_iff {i : Nat} {o : Oper} {U : Nat → Value} {a : Act} {K : (Nat → Value) → Act → Prop} (hi : ops[i]? = some o) : Gives P ops w0 F τ i o U a K ↔ lOp P ops w0 F τ i K U a := by
  unfold Gives lOp
  rw [hi]
  simp only
  cases τ i with
  | some s => exact Iff.rfl
  | none =>
    simp only
    by_cases hw : Region.wanted o (yielded ops a.tmps) = true
    · rw [if_pos hw]
      constructor
      · rintro ⟨v, (⟨_, h1⟩ | ⟨h1, _⟩), h2⟩
        · exact ⟨v, h1, h2⟩
        · rw [hw] at h1; cases h1
      · rintro ⟨v, h1, h2⟩; exact ⟨v, .inl ⟨hw, h1⟩, h2⟩
    · rw [if_neg hw]
      constructor
      · rintro ⟨v, (⟨h1, _⟩ | ⟨_, rfl⟩), h2⟩
        · exact absurd h1 hw
        · exact h2
      · intro h; exact ⟨undef, .inr ⟨by simpa using hw, rfl⟩, h⟩
theorem ob_put {s : LS} {o : Oper} {a : Act} {U : Nat → Value} {dst : Option Tmp} {v : Value} {i : Nat} {u : Value} (hs : ∀ cs b, o.op ≠ .select cs b) (hd : ∀ d, dst = some d → d ∉ o.looksAt ops) (hi : i ∉ s.cons) :
    Ob P w0 F τ s o (a.put dst v) (upd U i u) ↔ Ob P w0 F τ s o a U := by
  have hU : ∀ d ∈ s.cons, upd U i u d = U d := fun d hd => upd_ne (fun e => hi (e ▸ hd))
  have hO : ∀ w, Owes τ s (upd U i u) w = Owes τ s U w := fun w => by
    funext x w'
    unfold Owes
    have e1 : (∀ g, g < w.heap.size → (∀ d ∈ s.cons, ∀ t, τ d = some t → g ∉ t.fp (upd U i u d)) → w'.heap[g]? = w.heap[g]?) = (∀ g, g < w.heap.size → (∀ d ∈ s.cons, ∀ t, τ d = some t → g ∉ t.fp (U d)) → w'.heap[g]? = w.heap[g]?) :=
      propext ⟨fun h g hg h2 => h g hg (fun d hd t ht => by rw [hU d hd]; exact h2 d hd t ht), fun h g hg h2 => h g hg (fun d hd t ht => by rw [← hU d hd]; exact h2 d hd t ht)⟩
    have e2 : (∀ g ∈ s.fp x, g < w'.heap.size ∧ (w.heap.size ≤ g ∨ ∃ d ∈ s.cons, ∃ t, τ d = some t ∧ g ∈ t.fp (upd U i u d))) = (∀ g ∈ s.fp x, g < w'.heap.size ∧ (w.heap.size ≤ g ∨ ∃ d ∈ s.cons, ∃ t, τ d = some t ∧ g ∈ t.fp (U d))) :=
      propext ⟨fun h g hg => ⟨(h g hg).1, (h g hg).2.imp id (fun ⟨d, hd, t, ht, h3⟩ => ⟨d, hd, t, ht, by rw [← hU d hd]; exact h3⟩)⟩, fun h g hg => ⟨(h g hg).1, (h g hg).2.imp id (fun ⟨d, hd, t, ht, h3⟩ => ⟨d, hd, t, ht, by rw [hU d hd]; exact h3⟩)⟩⟩
    rw [e1, e2]
  unfold Ob stepTo
  rw [execOp_put (ops := ops) o hs a dst v hd]
  constructor
  · intro h w hw h2
    rw [← hO w]
    exact h w hw (h2.congr hU)
  · intro h w hw h2
    rw [hO w]
    exact h w hw (h2.congr (fun d hd => (hU d hd).symm))
theorem ob_put' {s : LS} {o : Oper} {a : Act} {U : Nat → Value} {dst : Option Tmp} {v : Value} (hs : ∀ cs b, o.op ≠ .select cs b) (hd : ∀ d, dst = some d → d ∉ o.looksAt ops) :
    Ob P w0 F τ s o (a.put dst v) U ↔ Ob P w0 F τ s o a U := by
  unfold Ob stepTo
  rw [execOp_put (ops := ops) o hs a dst v hd]
/-- Two operations apart: the one that may be taken first is kept while the other is taken. -/
theorem lOp_put {i j : Nat} {oi oj : Oper} (hij : i ≠ j) (hj : ops[j]? = some oj) (hap : oi.apart ops oj = true) (hsi : ∀ cs b, oi.op ≠ .select cs b) (hsj : ∀ cs b, oj.op ≠ .select cs b)
    (hcj : ∀ s, τ j = some s → i ∉ s.cons) (hci : ∀ s, τ i = some s → j ∉ s.cons) {K : (Nat → Value) → Act → Prop} {U : Nat → Value} {a : Act}
    (h : Gives P ops w0 F τ i oi U a (lOp P ops w0 F τ j K)) : lOp P ops w0 F τ j (fun U' a' => Gives P ops w0 F τ i oi U' a' K) U a := by
  obtain ⟨h1, h2, h3⟩ := Oper.apart_spec hap
  rw [← gives_iff hj]
  unfold Gives at h ⊢
  cases hti : τ i with
  | some si =>
    rw [hti] at h
    obtain ⟨hO, hK⟩ := h
    obtain ⟨u0, hu0⟩ := si.ne
    cases htj : τ j with
    | some sj =>
      have hK' : ∀ u, si.ok u → Ob P w0 F τ sj oj (a.put oi.dst u) (upd U i u) ∧ ∀ x, sj.ok x → K (upd (upd U i u) j x) ((a.put oi.dst u).put oj.dst x) := fun u hu => by
        have := hK u hu
        rw [← gives_iff hj] at this
        unfold Gives at this
        rw [htj] at this
        exact this
      refine ⟨(ob_put hsj h1 (hcj sj htj)).1 (hK' u0 hu0).1, fun x hx => ⟨(ob_put hsi h3 (hci si hti)).2 hO, fun u hu => ?_⟩⟩
      have := (hK' u hu).2 x hx
      rwa [upd_comm U u x hij, Act.put_comm a u x h2] at this
    | none =>
      have hK' : ∀ u, si.ok u → ∃ v, ((Region.wanted oj (yielded ops a.tmps) = true ∧ ∀ w, ClP w0 F w → strictAt P oj a w v) ∨ (Region.wanted oj (yielded ops a.tmps) = false ∧ v = undef)) ∧ K (upd U i u) ((a.put oi.dst u).put oj.dst v) := fun u hu => by
        have := hK u hu
        rw [← gives_iff hj] at this
        unfold Gives at this
        rw [htj] at this
        simp only [wanted_put oj a oi.dst u h1, strictAt, execOp_put oj hsj a oi.dst u h1] at this
        exact this
      obtain ⟨v, hv, _⟩ := hK' u0 hu0
      refine ⟨v, hv, (ob_put' hsi h3).2 hO, fun u hu => ?_⟩
      obtain ⟨v', hv', hk⟩ := hK' u hu
      have e : v' = v := by
        rcases hv with ⟨hw, hv⟩ | ⟨hw, rfl⟩
        · rcases hv' with ⟨_, hv'⟩ | ⟨hw', _⟩
          · exact strict_uniq (hv' w0 (ClP.refl w0 F)) (hv w0 (ClP.refl w0 F))
          · rw [hw] at hw'; cases hw'
        · rcases hv' with ⟨hw', _⟩ | ⟨_, rfl⟩
          · rw [hw] at hw'; cases hw'
          · rfl
      rw [e, Act.put_comm a u v h2] at hk
      exact hk
  | none =>
    rw [hti] at h
    obtain ⟨v, hv, hK⟩ := h
    rw [← gives_iff hj] at hK
    unfold Gives at hK
    have hv' : ∀ x, ((Region.wanted oi (yielded ops (a.put oj.dst x).tmps) = true ∧ ∀ w, ClP w0 F w → strictAt P oi (a.put oj.dst x) w v) ∨ (Region.wanted oi (yielded ops (a.put oj.dst x).tmps) = false ∧ v = undef)) := fun x => by
      simp only [wanted_put oi a oj.dst x h3, strictAt, execOp_put oi hsi a oj.dst x h3]
      exact hv
    cases htj : τ j with
    | some sj =>
      rw [htj] at hK
      refine ⟨(ob_put' hsj h1).1 hK.1, fun x hx => ⟨v, hv' x, ?_⟩⟩
      have := hK.2 x hx
      rwa [Act.put_comm a v x h2] at this
    | none =>
      rw [htj] at hK
      obtain ⟨x, hx, hk⟩ := hK
      simp only [wanted_put oj a oi.dst v h1, strictAt, execOp_put oj hsj a oi.dst v h1] at hx
      refine ⟨x, hx, v, hv' x, ?_⟩
      rwa [Act.put_comm a v x h2] at hk

/-- The words' table, and what it must be: each thing is made ahead of its one use. -/
structure Fits (ops : Array Oper) (n : Nat) (τ : Nat → Option LS) : Prop where
  waits : ∀ i s, τ i = some s → ∀ d ∈ s.cons, (τ d).isSome = true ∧ (n ≤ d ∨ Region.waitsFor .any ops i d = true)
  once : ∀ i j s t d, τ i = some s → τ j = some t → d ∈ s.cons → d ∈ t.cons → i = j
  plain : ∀ i s o, τ i = some s → ops[i]? = some o → o.guard = none
theorem gAny_first {n i : Nat} {oi : Oper} {L : Array Bool → (Nat → Value) → Act → Prop} (hi : ops[i]? = some oi) (hsel : ∀ (j : Nat) (o : Oper) cs b, ops[j]? = some o → o.op ≠ .select cs b) (hin : i < n)
    (hw : ∀ listed, HeadInv .any ops n listed → ∀ i, i < n → listed.getD i true = false → ∀ t ∈ Region.ready .any ops listed, t < n)
    (hF : Fits ops n τ)
    (hdone : ∀ listed U a, L listed U a → ∀ j ∈ Region.ready .any ops listed, n ≤ j) :
    ∀ (f : Nat) (listed : Array Bool) (U : Nat → Value) (a : Act), HeadInv .any ops n listed →
      (∀ j oj, ops[j]? = some oj → j ≠ i → listed.getD j true = false → (∀ e ∈ oj.after, Region.binds .any e = true → e.on ≠ i) → oi.apart ops oj = true) →
      i ∈ Region.ready .any ops listed → Gives P ops w0 F τ i oi U a (gAny P ops w0 F τ n L f (listed.setIfInBounds i true)) → gAny P ops w0 F τ n L (f + 1) listed U a := by
  intro f
  induction f with
  | zero =>
    intro listed U a inv _ hr H
    have hun := (mem_ready.1 hr).1
    refine ⟨fun h => (by rw [h] at hr; cases hr), fun j hj => ?_⟩
    have hjn : j < n := hw listed inv i hin hun j hj
    refine ⟨hjn, ?_⟩
    by_cases hji : j = i
    · subst hji; exact (gives_iff hi).1 H
    · exfalso
      have hex : ∃ U' a', L (listed.setIfInBounds i true) U' a' := by
        unfold Gives at H
        cases hti : τ i with
        | some s => rw [hti] at H; obtain ⟨u, hu⟩ := s.ne; exact ⟨_, _, H.2 u hu⟩
        | none => rw [hti] at H; obtain ⟨v, _, hv⟩ := H; exact ⟨_, _, hv⟩
      obtain ⟨U', a', hL⟩ := hex
      have := hdone _ _ _ hL j (ready_mono hj hji)
      omega
  | succ f ih =>
    intro listed U a inv hfree hr H
    have hun := (mem_ready.1 hr).1
    refine ⟨fun h => (by rw [h] at hr; cases hr), fun j hj => ?_⟩
    have hjn : j < n := hw listed inv i hin hun j hj
    refine ⟨hjn, ?_⟩
    by_cases hji : j = i
    · subst hji; exact (gives_iff hi).1 H
    · obtain ⟨hjun, oj, hoj, hall⟩ := mem_ready.1 hj
      have hnot : ∀ e ∈ oj.after, Region.binds .any e = true → e.on ≠ i := fun e he hb heq => by
        have h1 := hall e he hb
        rw [heq, getD_both hun] at h1
        cases h1
      have hnoti : ∀ e ∈ oi.after, Region.binds .any e = true → e.on ≠ j := fun e he hb heq => by
        obtain ⟨_, oi', hoi', hall'⟩ := mem_ready.1 hr
        have : oi' = oi := Option.some.inj (hoi'.symm.trans hi)
        subst this
        have h1 := hall' e he hb
        rw [heq, getD_both hjun] at h1
        cases h1
      have cons_ne : ∀ (x y : Nat) (ox : Oper), ops[x]? = some ox → x < n → y < n → (∀ e ∈ ox.after, Region.binds .any e = true → e.on ≠ y) → ∀ s, τ x = some s → y ∉ s.cons := fun x y ox hx hxn hyn hnx s hs hy => by
        rcases (hF.waits x s hs y hy).2 with h | h
        · omega
        · obtain ⟨o', ho', e, he, hb, hon⟩ := Region.waitsFor_spec h
          have : o' = ox := Option.some.inj (ho'.symm.trans hx)
          subst this
          exact hnx e he hb hon
      have H2 : Gives P ops w0 F τ i oi U a (lOp P ops w0 F τ j (gAny P ops w0 F τ n L f ((listed.setIfInBounds i true).setIfInBounds j true))) := by
        unfold Gives at H ⊢
        cases hti : τ i with
        | some s => rw [hti] at H; exact ⟨H.1, fun u hu => ((H.2 u hu).2 j (ready_mono hj hji)).2⟩
        | none => rw [hti] at H; obtain ⟨v, h1, h2⟩ := H; exact ⟨v, h1, (h2.2 j (ready_mono hj hji)).2⟩
      have h2 := lOp_put (Ne.symm hji) hoj (hfree j oj hoj hji hjun hnot) (fun cs b => hsel i oi cs b hi) (fun cs b => hsel j oj cs b hoj) (cons_ne j i oj hoj hjn hin hnot) (cons_ne i j oi hi hin hjn hnoti) H2
      have hfree' : ∀ k ok, ops[k]? = some ok → k ≠ i → (listed.setIfInBounds j true).getD k true = false →
          (∀ e ∈ ok.after, Region.binds .any e = true → e.on ≠ i) → oi.apart ops ok = true := fun k ok hk hki hun hno => by
        refine hfree k ok hk hki ?_ hno
        by_cases hjk : j = k
        · subst hjk; exact hjun
        · rw [getD_set_ne true hjk] at hun; exact hun
      refine lOp_mono (fun U' a' h3 => ih (listed.setIfInBounds j true) U' a' (inv.set hj hjn) hfree' (ready_mono hr (Ne.symm hji)) ?_) h2
      rw [Array.setIfInBounds_comm _ _ hji]
      exact h3

/-- The walk in the text's order. -/
def wpL (P : Program) (ops : Array Oper) (w0 : World) (F : List Nat) (τ : Nat → Option LS) (Q : (Nat → Value) → Act → Prop) : Nat → List Oper → (Nat → Value) → Act → Prop
  | _, [], U, a => Q U a
  | k, o :: l, U, a => Gives P ops w0 F τ k o U a (wpL P ops w0 F τ Q (k + 1) l)
/-- A thing that is there and not used up. -/
def Live (n : Nat) (τ : Nat → Option LS) (listed : Array Bool) (r : Nat) : Prop := (n ≤ r ∨ listed.getD r false = true) ∧ ∀ j t, τ j = some t → r ∈ t.cons → listed.getD j false = false
structure LInv (n : Nat) (w0 : World) (F : List Nat) (τ : Nat → Option LS) (listed : Array Bool) (U : Nat → Value) (w : World) : Prop where
  cl : ClP w0 F w
  live : ∀ r s, τ r = some s → Live n τ listed r → s.V (U r) w ∧ ∀ g ∈ s.fp (U r), g < w.heap.size ∧ (g < w0.heap.size → g ∈ F)
  apart : ∀ r r' s s', r ≠ r' → τ r = some s → τ r' = some s' → Live n τ listed r → Live n τ listed r' → ∀ g ∈ s.fp (U r), g ∉ s'.fp (U r')
theorem inv_quiet {n i : Nat} {listed : Array Bool} {U : Nat → Value} {w : World} (h : LInv n w0 F τ listed U w) (hi : τ i = none) : LInv n w0 F τ (listed.setIfInBounds i true) U w := by
  have key : ∀ r s, τ r = some s → Live n τ (listed.setIfInBounds i true) r → Live n τ listed r := fun r s hr ⟨h1, h2⟩ => by
    have hri : i ≠ r := fun e => by rw [e, hr] at hi; cases hi
    refine ⟨h1.imp id (fun h => by rwa [getD_set_ne false hri] at h), fun j t hj hd => ?_⟩
    have hji : i ≠ j := fun e => by rw [e, hj] at hi; cases hi
    have := h2 j t hj hd
    rwa [getD_set_ne false hji] at this
  exact ⟨h.cl, fun r s hr hl => h.live r s hr (key r s hr hl), fun r r' s s' hne hr hr' hl hl' => h.apart r r' s s' hne hr hr' (key r s hr hl) (key r' s' hr' hl')⟩
theorem inv_loose {n i : Nat} {listed : Array Bool} {U : Nat → Value} {w w' : World} {s : LS} {u : Value} (h : LInv n w0 F τ listed U w) (hi : τ i = some s) (hsz : i < listed.size)
    (hc : ∀ d ∈ s.cons, Live n τ listed d) (ho : Owes τ s U w u w') : LInv n w0 F τ (listed.setIfInBounds i true) (upd U i u) w' := by
  obtain ⟨_, hV, h1, h2, h3, h4, h5, h6⟩ := ho
  have key : ∀ r t, τ r = some t → r ≠ i → Live n τ (listed.setIfInBounds i true) r → Live n τ listed r ∧ r ∉ s.cons := fun r t hr hri ⟨a1, a2⟩ => by
    have hns : r ∉ s.cons := fun hm => by
      have := a2 i s hi hm
      simp [hsz] at this
    refine ⟨⟨a1.imp id (fun h => by rwa [getD_set_ne false (Ne.symm hri)] at h), fun j t' hj hd => ?_⟩, hns⟩
    by_cases hji : i = j
    · subst hji
      have : s = t' := Option.some.inj (hi.symm.trans hj)
      subst this
      exact absurd hd hns
    · have := a2 j t' hj hd
      rwa [getD_set_ne false hji] at this
  have hFc : ∀ d ∈ s.cons, ∀ t, τ d = some t → ∀ g ∈ t.fp (U d), g < w.heap.size ∧ (g < w0.heap.size → g ∈ F) := fun d hd t ht g hg => (h.live d t ht (hc d hd)).2 g hg
  have keep : ∀ r t, τ r = some t → Live n τ listed r → r ∉ s.cons → ∀ g ∈ t.fp (U r), w'.heap[g]? = w.heap[g]? := fun r t hr hl hns g hg =>
    h5 g ((h.live r t hr hl).2 g hg).1 (fun d hd t' ht' => h.apart r d t t' (fun e => hns (e ▸ hd)) hr ht' hl (hc d hd) g hg)
  have hfi : ∀ g ∈ s.fp u, g < w'.heap.size ∧ (w.heap.size ≤ g ∨ ∃ d ∈ s.cons, ∃ t, τ d = some t ∧ g ∈ t.fp (U d)) := h6
  obtain ⟨N, rfl⟩ := h.cl
  refine ⟨⟨⟨w', h1.trans N.os, h2.trans N.tape, h3.trans N.output, Nat.le_trans N.size h4, fun g hg hgF => ?_⟩, rfl⟩, fun r t hr hl => ?_, fun r r' t t' hne hr hr' hl hl' g hg => ?_⟩
  · rw [h5 g (Nat.lt_of_lt_of_le hg N.size) (fun d hd t ht hm => hgF ((hFc d hd t ht g hm).2 hg))]
    exact N.block g hg hgF
  · by_cases hri : r = i
    · subst hri
      have : s = t := Option.some.inj (hi.symm.trans hr)
      subst this
      rw [upd_same]
      refine ⟨hV, fun g hg => ⟨(hfi g hg).1, fun hg0 => ?_⟩⟩
      rcases (hfi g hg).2 with h7 | ⟨d, hd, t, ht, hm⟩
      · have := N.size; omega
      · exact (hFc d hd t ht g hm).2 hg0
    · rw [upd_ne hri]
      obtain ⟨hl0, hns⟩ := key r t hr hri hl
      obtain ⟨a1, a2⟩ := h.live r t hr hl0
      exact ⟨t.loc _ _ _ a1 (keep r t hr hl0 hns) h4, fun g hg => ⟨Nat.lt_of_lt_of_le (a2 g hg).1 h4, (a2 g hg).2⟩⟩
  · by_cases hri : r = i
    · subst hri
      have : s = t := Option.some.inj (hi.symm.trans hr)
      subst this
      rw [upd_same] at hg
      rw [upd_ne (Ne.symm hne)]
      obtain ⟨hl0, hns⟩ := key r' t' hr' (Ne.symm hne) hl'
      rcases (hfi g hg).2 with h7 | ⟨d, hd, td, htd, hm⟩
      · intro hg'
        have := ((h.live r' t' hr' hl0).2 g hg').1
        omega
      · exact h.apart d r' td t' (fun e => hns (e ▸ hd)) htd hr' (hc d hd) hl0 g hm
    · rw [upd_ne hri] at hg
      obtain ⟨hl0, hns⟩ := key r t hr hri hl
      by_cases hri' : r' = i
      · subst hri'
        have : s = t' := Option.some.inj (hi.symm.trans hr')
        subst this
        rw [upd_same]
        intro hg'
        rcases (hfi g hg').2 with h7 | ⟨d, hd, td, htd, hm⟩
        · have := ((h.live r t hr hl0).2 g hg).1
          omega
        · exact h.apart r d t td (fun e => hns (e ▸ hd)) hr htd hl0 (hc d hd) g hg hm
      · rw [upd_ne hri']
        exact h.apart r r' t t' hne hr hr' hl0 (key r' t' hr' hri' hl').1 g hg
theorem wp_of_step {o : Oper} {a : Act} {w : World} {R : Value → World → Prop} {K : Act → World → Prop} {Q : Exit → Act → World → Prop} (h : stepTo P o a w R) (hk : ∀ u w', R u w' → K (a.put o.dst u) w') : o.wp P a w K Q := by
  unfold stepTo at h
  unfold Oper.wp
  generalize (execOp a.eval o).run P w = r at *
  cases r with
  | ok n w' =>
    cases n <;> simp only [stepUpon] at h <;> simp only [Oper.upon]
    case value u => exact hk _ _ h
    case skip => exact hk _ _ h
    case enter f args =>
      refine h.mono fun e w'' ⟨u, he, hR⟩ => ?_
      subst he
      exact hk _ _ hR
  | halt x w' => simp only [stepUpon] at h
theorem wp_of_strict {o : Oper} {a : Act} {w : World} {v : Value} {K : Act → World → Prop} {Q : Exit → Act → World → Prop} (h : strictAt P o a w v) (hk : K (a.put o.dst v) w) : o.wp P a w K Q := by
  unfold strictAt at h
  unfold Oper.wp
  generalize (execOp a.eval o).run P w = r at *
  cases r with
  | ok n w' =>
    cases n <;> simp only [strictUpon] at h <;> simp only [Oper.upon]
    case value u => obtain ⟨rfl, rfl⟩ := h; exact hk
    case skip => obtain ⟨rfl, rfl⟩ := h; exact hk
  | halt x w' => simp only [strictUpon] at h
theorem wpAny_of_game {n g : Nat} {L : Array Bool → (Nat → Value) → Act → Prop} {Q : Exit → Act → World → Prop} (hF : Fits ops n τ) (hn : n ≤ ops.size)
    (hL : ∀ listed U a w, HeadInv .any ops n listed → LInv n w0 F τ listed U w → L listed U a → wpAny P .any ops Q g listed a w) :
    ∀ (f : Nat) (listed : Array Bool) (U : Nat → Value) (a : Act) (w : World), HeadInv .any ops n listed → LInv n w0 F τ listed U w → gAny P ops w0 F τ n L f listed U a → wpAny P .any ops Q (f + g) listed a w
  | 0, listed, U, a, w, inv, h, hg => by rw [Nat.zero_add]; exact hL _ _ _ _ inv h hg
  | f + 1, listed, U, a, w, inv, h, hg => by
    rw [show f + 1 + g = (f + g) + 1 by omega]
    refine ⟨fun h0 => absurd h0 hg.1, fun i hi => ?_⟩
    obtain ⟨hin, hl⟩ := hg.2 i hi
    obtain ⟨hun, o, ho, hall⟩ := mem_ready.1 hi
    have hsz : i < listed.size := by rw [inv.size]; omega
    unfold lOp at hl
    unfold wpOp
    rw [ho] at hl ⊢
    simp only at hl ⊢
    cases ht : τ i with
    | some s =>
      rw [ht] at hl
      obtain ⟨hO, hK⟩ := hl
      have hlive : ∀ d ∈ s.cons, Live n τ listed d := fun d hd => by
        refine ⟨(hF.waits i s ht d hd).2.imp id (fun hwt => ?_), fun j t hj hdt => ?_⟩
        · obtain ⟨o', ho', e, he, hb, hon⟩ := Region.waitsFor_spec hwt
          have : o' = o := Option.some.inj (ho'.symm.trans ho)
          subst this
          rw [← hon]; exact hall e he hb
        · have := hF.once i j s t d ht hj hd hdt
          subst this
          exact getD_both hun
      have hst := hO w h.cl ⟨fun d hd t ht' => ⟨(h.live d t ht' (hlive d hd)).1, fun g hg => ((h.live d t ht' (hlive d hd)).2 g hg).1⟩, fun d hd d' hd' hne t t' ht' ht'' => h.apart d d' t t' hne ht' ht'' (hlive d hd) (hlive d' hd')⟩
      have hw : Region.wanted o (yielded ops a.tmps) = true := by simp [Region.wanted, hF.plain i s o ht ho]
      rw [if_pos hw]
      exact .inl (wp_of_step hst (fun u w' hR => wpAny_of_game hF hn hL f _ _ _ _ (inv.set hi hin) (inv_loose h ht hsz hlive hR) (hK u hR.1)))
    | none =>
      rw [ht] at hl
      simp only at hl
      split
      · rename_i hw
        rw [if_pos hw] at hl
        obtain ⟨v, hv, hK⟩ := hl
        exact .inl (wp_of_strict (hv w h.cl) (wpAny_of_game hF hn hL f _ _ _ _ (inv.set hi hin) (inv_quiet h ht) hK))
      · rename_i hw
        rw [if_neg hw] at hl
        exact wpAny_of_game hF hn hL f _ _ _ _ (inv.set hi hin) (inv_quiet h ht) hl
/-- What is known at the region's end. -/
def Ends (w0 : World) (F : List Nat) (τ : Nat → Option LS) (U : Nat → Value) (w : World) : Prop :=
  ClP w0 F w ∧ (∀ r s, τ r = some s → (∀ j t, τ j = some t → r ∉ t.cons) → s.V (U r) w ∧ ∀ g ∈ s.fp (U r), g < w.heap.size) ∧
  ∀ r r' s s', r ≠ r' → τ r = some s → τ r' = some s' → (∀ j t, τ j = some t → r ∉ t.cons) → (∀ j t, τ j = some t → r' ∉ t.cons) → ∀ g ∈ s.fp (U r), g ∉ s'.fp (U r')
theorem gAny_lex {n : Nat} {Lq : (Nat → Value) → Act → Prop} {B : Array Bool → Prop} (hsel : Region.noSelect ops = true) (hF : Fits ops n τ)
    (hw : ∀ listed, HeadInv .any ops n listed → ∀ i, i < n → listed.getD i true = false → ∀ t ∈ Region.ready .any ops listed, t < n)
    (hB0 : ∀ listed, B listed → ∀ j ∈ Region.ready .any ops listed, n ≤ j)
    (lex : Nat → Nat → Array Bool → Bool) (hlex0 : ∀ k listed, k = n → lex 0 k listed = true → B listed)
    (hlexS : ∀ f k listed, lex (f + 1) k listed = true → (Region.ready .any ops listed).contains k = true ∧ Region.free .any ops listed k = true ∧ lex f (k + 1) (listed.setIfInBounds k true) = true) :
    ∀ (l : List Oper) (k : Nat) (listed : Array Bool) (U : Nat → Value) (a : Act), (∀ j, j < l.length → l[j]? = ops[k + j]?) → k + l.length = n → HeadInv .any ops n listed → (∀ i, n ≤ i → i < ops.size → listed.getD i true = false) → (∀ i, i < k → listed.getD i false = true) →
    lex l.length k listed = true → wpL P ops w0 F τ Lq k l U a → gAny P ops w0 F τ n (fun listed' U' a' => (B listed' ∧ ∀ i, i < n → listed'.getD i false = true) ∧ Lq U' a') l.length listed U a
  | [], k, listed, U, a, _, hk, _, _, hd, hB, h => by
    have : k = n := by simpa using hk
    subst this
    exact ⟨⟨hlex0 _ _ rfl hB, hd⟩, h⟩
  | o :: l, k, listed, U, a, hl, hk, inv, ht, hd, hB, h => by
    have h0 : ops[k]? = some o := by simpa using (hl 0 (by simp)).symm
    obtain ⟨hr, hf, hB'⟩ := hlexS _ _ _ hB
    have hkn : k < n := by simp only [List.length_cons] at hk; omega
    have hr' : k ∈ Region.ready .any ops listed := by simpa using hr
    have hks : k < listed.size := by rw [inv.size]; exact (Array.getElem?_eq_some_iff.1 h0).1
    have nxt : ∀ U' a', wpL P ops w0 F τ Lq (k + 1) l U' a' → gAny P ops w0 F τ n (fun listed' U' a' => (B listed' ∧ ∀ i, i < n → listed'.getD i false = true) ∧ Lq U' a') l.length (listed.setIfInBounds k true) U' a' := fun U' a' h' =>
      gAny_lex hsel hF hw hB0 lex hlex0 hlexS l (k + 1) _ U' a' (fun j hj => by have := hl (j + 1) (by simp; omega); simpa [Nat.add_assoc, Nat.add_comm 1 j] using this) (by simp only [List.length_cons] at hk; omega) (inv.set hr' hkn)
        (fun i hi hi' => by rw [getD_set_ne true (by omega)]; exact ht i hi hi')
        (fun i hi => by
          by_cases hik : k = i
          · subst hik; simp [hks]
          · rw [getD_set_ne false hik]; exact hd i (by omega)) hB' h'
    refine gAny_first h0 (Region.noSelect_spec hsel) hkn hw hF (fun listed' U' a' hL => hB0 _ hL.1.1) l.length listed U a inv (Region.free_spec h0 hf) hr' ?_
    unfold wpL at h
    unfold Gives at h ⊢
    cases hti : τ k with
    | some s => rw [hti] at h; exact ⟨h.1, fun u hu => nxt _ _ (h.2 u hu)⟩
    | none => rw [hti] at h; obtain ⟨v, h1, h2⟩ := h; exact ⟨v, h1, nxt _ _ h2⟩
end
/-! ### The two forms of region -/
def lk (T : List (Nat × LS)) (i : Nat) : Option LS := (T.find? fun x => x.1 == i).map (·.2)
theorem lk_mem {T : List (Nat × LS)} {i : Nat} {s : LS} (h : lk T i = some s) : (i, s) ∈ T := by
  unfold lk at h
  obtain ⟨x, hx, rfl⟩ := Option.map_eq_some_iff.1 h
  have h1 := List.mem_of_find?_eq_some hx
  have h2 := List.find?_some hx
  simp only [beq_iff_eq] at h2
  rw [← h2]; exact h1
def fitsB (ops : Array Oper) (n : Nat) (ct : List (Nat × List Nat)) : Bool :=
  ct.all (fun x => (match ops[x.1]? with | some o => o.guard.isNone | none => true) && x.2.all fun d => ct.any (fun y => y.1 == d) && (decide (n ≤ d) || Region.waitsFor .any ops x.1 d)) &&
  ct.all fun x => ct.all fun y => x.1 == y.1 || x.2.all fun d => !y.2.contains d
theorem fits_of {ops : Array Oper} {n : Nat} {T : List (Nat × LS)} {ct : List (Nat × List Nat)} (hct : T.map (fun x => (x.1, x.2.cons)) = ct) (h : fitsB ops n ct = true) : Fits ops n (lk T) := by
  unfold fitsB at h
  rw [Bool.and_eq_true] at h
  obtain ⟨h1, h2⟩ := h
  have hm : ∀ i s, lk T i = some s → (i, s.cons) ∈ ct := fun i s hs => by rw [← hct]; exact List.mem_map.2 ⟨_, lk_mem hs, rfl⟩
  refine ⟨fun i s hs d hd => ?_, fun i j s t d hs ht hds hdt => ?_, fun i s o hs ho => ?_⟩
  · have a := List.all_eq_true.1 h1 _ (hm i s hs)
    rw [Bool.and_eq_true] at a
    have b := List.all_eq_true.1 a.2 d hd
    rw [Bool.and_eq_true, Bool.or_eq_true, decide_eq_true_eq] at b
    refine ⟨?_, b.2⟩
    obtain ⟨y, hy, hyd⟩ := List.any_eq_true.1 b.1
    rw [← hct] at hy
    obtain ⟨x, hx, rfl⟩ := List.mem_map.1 hy
    unfold lk
    rw [Option.isSome_map, List.find?_isSome]
    exact ⟨x, hx, hyd⟩
  · have a := List.all_eq_true.1 (List.all_eq_true.1 h2 _ (hm i s hs)) _ (hm j t ht)
    rw [Bool.or_eq_true, beq_iff_eq] at a
    rcases a with a | a
    · exact a
    · have b := List.all_eq_true.1 a d hds
      simp [hdt] at b
  · have a := List.all_eq_true.1 h1 _ (hm i s hs)
    rw [Bool.and_eq_true] at a
    rw [ho] at a
    simpa using a.1
/-- What must lie there when the region begins: nothing. -/
theorem inv_start {n : Nat} {w : World} {τ : Nat → Option LS} {U : Nat → Value} {m : Nat} (h : ∀ r s, τ r = some s → r < n) : LInv n w [] τ (Array.replicate m false) U w := by
  have no : ∀ r s, τ r = some s → ¬ Live n τ (Array.replicate m false) r := fun r s hr hl => by
    rcases hl.1 with h1 | h1
    · have := h r s hr; omega
    · rw [getD_replicate_false] at h1; cases h1
  exact ⟨ClP.refl _ _, fun r s hr hl => absurd hl (no r s hr), fun r _ s _ _ hr _ hl _ => absurd hl (no r s hr)⟩
theorem wp_loose_tail0 {P : Program} {id : Nat} {Q : Exit → Act → World → Prop} {a : Act} {w : World} {l : List Oper} {F : List Nat} {τ : Nat → Option LS} {U : Nat → Value} (n : Nat) (hm : P.follows .mixedOrders = true) (hB : Region.lexTailB .any l.toArray n = true)
    (hF : Fits l.toArray n τ) (h0 : LInv n w.drew F τ (Array.replicate l.toArray.size false) U w.drew)
    (h : wpL P l.toArray w.drew F τ (fun U' a' => ∀ w', Ends w.drew F τ U' w' → wpList P l.toArray Q (l.drop n) a' w') 0 (l.take n) U a) : (Code.region id l.toArray true).wp P Q a w := by
  simp only [Region.lexTailB, Bool.and_eq_true, decide_eq_true_eq] at hB
  obtain ⟨⟨⟨⟨hsel, hn⟩, hs⟩, hc⟩, hlex⟩ := hB
  have hn' : n < l.length := by simpa using hn
  have htl : (l.take n).length = n := by simp; omega
  have hdl : (l.drop n).length = l.toArray.size - n := by simp
  have inv0 : HeadInv .any l.toArray n (Array.replicate l.toArray.size false) :=
    ⟨by simp, fun j oj _ hl => (by rw [getD_replicate_false] at hl; cases hl), fun t _ ht => getD_in (by simpa using ht) (getD_replicate_false _ _)⟩
  have H := gAny_lex (P := P) (w0 := w.drew) (F := F) (B := fun listed => Region.seqB .any l.toArray (l.toArray.size - n) n listed = true) hsel hF
    (fun listed inv i hi hun t ht => by
      rcases Nat.lt_or_ge t n with h | h
      · exact h
      · exact absurd ht (tail_waits hs hc hn inv _ i rfl hi hun t h))
    (fun listed hb => seqB_ready hb) (Region.lexHead .any l.toArray (l.toArray.size - n)) (fun k listed hk hb => by subst hk; exact hb)
    (fun f k listed hb => by
      simp only [Region.lexHead, Bool.and_eq_true] at hb
      exact ⟨hb.1.1, hb.1.2, hb.2⟩)
    (l.take n) 0 _ U a (fun j hj => by
      have hj' : j < n := by rw [htl] at hj; exact hj
      simp [hj']) (by simpa using htl) inv0 (fun i hi hi' => getD_in (by simpa using hi') (getD_replicate_false _ _)) (fun i hi => by omega) (by rw [htl]; exact hlex) h
  refine wp_region_any hm ?_
  have := wpAny_of_game (Q := Q) (g := l.toArray.size - n) hF (Nat.le_of_lt hn) (fun listed U' a' w' inv hinv hL => by
    obtain ⟨⟨hb, hall⟩, hq⟩ := hL
    have hend : Ends w.drew F τ U' w' := by
      refine ⟨hinv.cl, fun r s hr hnc => ?_, fun r r' s s' hne hr hr' hnc hnc' => ?_⟩
      · have hl : Live n τ listed r := ⟨by rcases Nat.lt_or_ge r n with h | h; exact .inr (hall r h); exact .inl h, fun j t hj hd => absurd hd (hnc j t hj)⟩
        obtain ⟨a1, a2⟩ := hinv.live r s hr hl
        exact ⟨a1, fun g hg => (a2 g hg).1⟩
      · exact hinv.apart r r' s s' hne hr hr' ⟨by rcases Nat.lt_or_ge r n with h | h; exact .inr (hall r h); exact .inl h, fun j t hj hd => absurd hd (hnc j t hj)⟩
          ⟨by rcases Nat.lt_or_ge r' n with h | h; exact .inr (hall r' h); exact .inl h, fun j t hj hd => absurd hd (hnc' j t hj)⟩
    have := wpAny_of_seq (md := .any) (Q' := Q) (l.drop n) n listed a' w' (fun j => by simp [List.getElem?_drop]) (by rw [hdl]; exact hb) (hq w' hend)
    rwa [hdl] at this) _ _ _ _ w.drew inv0 h0 H
  rw [htl, show n + (l.toArray.size - n) = l.toArray.size by omega] at this
  exact this
theorem wp_loose0 {P : Program} {id : Nat} {Q : Exit → Act → World → Prop} {a : Act} {w : World} {l : List Oper} {F : List Nat} {τ : Nat → Option LS} {U : Nat → Value} (hm : P.follows .mixedOrders = true) (hB : Region.lexB .any l.toArray = true)
    (hF : Fits l.toArray l.length τ) (h0 : LInv l.length w.drew F τ (Array.replicate l.toArray.size false) U w.drew)
    (h : wpL P l.toArray w.drew F τ (fun U' a' => ∀ w', Ends w.drew F τ U' w' → Q .normal a' w') 0 l U a) : (Code.region id l.toArray true).wp P Q a w := by
  simp only [Region.lexB, Bool.and_eq_true] at hB
  have inv0 : HeadInv .any l.toArray l.length (Array.replicate l.toArray.size false) :=
    ⟨by simp, fun j oj _ hl => (by rw [getD_replicate_false] at hl; cases hl), fun t h1 ht => by simp at ht; omega⟩
  have H := gAny_lex (P := P) (w0 := w.drew) (F := F) (n := l.length) (B := fun listed => Region.ready .any l.toArray listed = []) hB.1 hF
    (fun listed inv i hi hun t ht => by
      obtain ⟨_, o, ho, _⟩ := mem_ready.1 ht
      simpa using (Array.getElem?_eq_some_iff.1 ho).1)
    (fun listed hb j hj => by rw [hb] at hj; cases hj) (Region.lexFrom .any l.toArray) (fun k listed hk hb => by simpa [Region.lexFrom] using hb)
    (fun f k listed hb => by
      simp only [Region.lexFrom, Bool.and_eq_true] at hb
      exact ⟨hb.1.1, hb.1.2, hb.2⟩)
    l 0 _ U a (fun j hj => by simp) (by simp) inv0 (fun i hi hi' => by simp at hi'; omega) (fun i hi => by omega) (by simpa using hB.2) h
  refine wp_region_any hm ?_
  have := wpAny_of_game (Q := Q) (g := 0) hF (by simp) (fun listed U' a' w' inv hinv hL => by
    obtain ⟨⟨hb, hall⟩, hq⟩ := hL
    have hend : Ends w.drew F τ U' w' := by
      refine ⟨hinv.cl, fun r s hr hnc => ?_, fun r r' s s' hne hr hr' hnc hnc' => ?_⟩
      · have hl : Live l.length τ listed r := ⟨by rcases Nat.lt_or_ge r l.length with h | h; exact .inr (hall r h); exact .inl h, fun j t hj hd => absurd hd (hnc j t hj)⟩
        obtain ⟨a1, a2⟩ := hinv.live r s hr hl
        exact ⟨a1, fun g hg => (a2 g hg).1⟩
      · exact hinv.apart r r' s s' hne hr hr' ⟨by rcases Nat.lt_or_ge r l.length with h | h; exact .inr (hall r h); exact .inl h, fun j t hj hd => absurd hd (hnc j t hj)⟩
          ⟨by rcases Nat.lt_or_ge r' l.length with h | h; exact .inr (hall r' h); exact .inl h, fun j t hj hd => absurd hd (hnc' j t hj)⟩
    exact ⟨hb, hq w' hend⟩) _ _ _ _ w.drew inv0 h0 H
  simpa using this
/-! ### Steps of the walk -/
def plainB (o : Oper) : Bool := match o.op with
  | .move _ | .assign _ | .load .. | .binOp .. | .unOp .. | .convert .. | .slice .. | .fieldAddr .. | .field .. | .indexAddr .. | .index .. | .build .. | .extract .. | .makeFunc .. => true
  | .call c => (match c.callee with | .builtin .len => true | _ => false)
  | _ => false
theorem run_v_enter {P : Program} {w w' : World} (s : Sem Value) (f : FuncId) (args : Array Value) : (do pure (.value (← s)) : Sem Next).run P w ≠ .ok (.enter f args) w' := by
  intro h
  simp only [Sem.run_bind] at h
  cases hs : s.run P w with
  | ok v w1 => rw [hs] at h; simp [Result.andThen] at h
  | halt x w1 => rw [hs] at h; simp [Result.andThen] at h
theorem plain_strict {P : Program} {o : Oper} {a : Act} {C : World → Prop} {w : World} {v : Value} (hp : plainB o = true) (h : o.quietAt P a C w v) : strictAt P o a w v := by
  unfold Oper.quietAt at h
  unfold strictAt
  cases hr : (execOp a.eval o).run P w with
  | ok n w' =>
    rw [hr] at h
    cases n <;> simp only [Oper.quietUpon] at h <;> simp only [strictUpon]
    case value u => exact h
    case skip => exact h
    case enter f args =>
      exfalso
      obtain ⟨dst, op, type, pos, after, guard⟩ := o
      unfold execOp at hr
      cases op <;> simp only [plainB] at hp <;> simp only at hr
      case call c =>
        obtain ⟨callee, cargs, argTypes⟩ := c
        cases callee <;> simp only at hp
        case builtin b =>
          cases b <;> simp only at hp
          all_goals first
            | (simp only [resolve, invoke, builtin, Sem.run_bind, Sem.run_pure, Result.andThen_ok] at hr
               exact run_v_enter _ _ _ (by simp only [Sem.run_bind]; exact hr))
            | (exact absurd hp (by decide))
        all_goals exact absurd hp (by decide)
      all_goals first
        | exact absurd hp (by decide)
        | exact run_v_enter _ _ _ hr
        | (simp only [Sem.run_pure] at hr; cases hr; done)
  | halt x w' => rw [hr] at h; simp only [Oper.quietUpon] at h
section
variable {P : Program} {ops : Array Oper} {w0 : World} {F : List Nat} {τ : Nat → Option LS} {Q : (Nat → Value) → Act → Prop} {U : Nat → Value} {a : Act}
theorem gives_loose {i : Nat} {o : Oper} {s : LS} {K : (Nat → Value) → Act → Prop} (h : τ i = some s) (hO : Ob P w0 F τ s o a U) (hK : ∀ u, s.ok u → K (upd U i u) (a.put o.dst u)) : Gives P ops w0 F τ i o U a K := by
  unfold Gives; rw [h]; exact ⟨hO, hK⟩
theorem wpL_quiet {k : Nat} (m : Nat) {l : List Oper} (hn : (List.range m).all (fun j => (τ (k + j)).isNone) = true) (hp : (l.take m).all plainB = true)
    (h : wpQuiet P ops (fun w' => ∃ n : Cl w0 F, w' = n.val) (fun a' => wpL P ops w0 F τ Q (k + m) (l.drop m) U a') (l.take m) a) : wpL P ops w0 F τ Q k l U a := by
  induction m generalizing k l a with
  | zero => simpa [wpQuiet] using h
  | succ m ih =>
    cases l with
    | nil => simpa [wpQuiet, wpL] using h
    | cons o l =>
      have h0 : τ k = none := by
        have := List.all_eq_true.1 hn 0 (by simp)
        simpa using this
      simp only [List.take_succ_cons, List.all_cons, Bool.and_eq_true, List.drop_succ_cons] at hp h
      have nxt : ∀ v, wpQuiet P ops (fun w' => ∃ n : Cl w0 F, w' = n.val) (fun a' => wpL P ops w0 F τ Q (k + (m + 1)) (l.drop m) U a') (l.take m) (a.put o.dst v) → wpL P ops w0 F τ Q (k + 1) l U (a.put o.dst v) := fun v hv => by
        refine ih (k := k + 1) (List.all_eq_true.2 fun j hj => ?_) hp.2 (by rw [show k + 1 + m = k + (m + 1) by omega]; exact hv)
        have := List.all_eq_true.1 hn (j + 1) (by simp at hj ⊢; omega)
        rwa [show k + (j + 1) = k + 1 + j by omega] at this
      unfold wpQuiet at h
      unfold wpL Gives
      rw [h0]
      by_cases hw : Region.wanted o (yielded ops a.tmps) = true
      · rw [if_pos hw] at h
        obtain ⟨v, h1, h2⟩ := h
        exact ⟨v, .inl ⟨hw, fun w hwC => plain_strict hp.1 (h1 w hwC)⟩, nxt v h2⟩
      · rw [if_neg hw] at h
        exact ⟨undef, .inr ⟨by simpa using hw, rfl⟩, nxt undef h⟩
theorem wpL_nil {k : Nat} (h : Q U a) : wpL P ops w0 F τ Q k [] U a := h
theorem mem_toList {o : Option Nat} {g : Nat} : g ∈ o.toList ↔ o = some g := by cases o <;> simp [eq_comm]
/-- A row of one's own. -/
def rowS (cons : List Nat) (B : Nat) (e : TypeId) (size n : Nat) (xs : List Value) : LS where
  cons := cons
  ok u := ∃ A c, u = .slice A n c
  V u w := w.ownsRow B e size u n xs
  fp u := u.ownBlock.toList
  loc u w w' h hb _ := by
    refine ⟨h.1, ?_⟩
    rcases h.2 with h2 | ⟨g, cap, cur, hv, h3, h4, h5⟩
    · exact .inl h2
    · refine .inr ⟨g, cap, cur, hv, h3, ?_, h5⟩
      rw [hb g (by subst hv; exact mem_toList.2 rfl)]; exact h4
  ne := ⟨.slice none n 0, _, _, rfl⟩
/-- A block of one's own behind a pointer. -/
def boxS (cons : List Nat) (B : Nat) (e : TypeId) (L : List Value) : LS where
  cons := cons
  ok u := ∃ g, u = .pointer (some ⟨g, 0, none⟩)
  V u w := ∃ g, u = .pointer (some ⟨g, 0, none⟩) ∧ B ≤ g ∧ Blk w g e L
  fp u := match u with | .pointer (some ad) => [ad.block] | _ => []
  loc u w w' h hb _ := by
    obtain ⟨g, rfl, h1, h2⟩ := h
    exact ⟨g, rfl, h1, (hb g (by simp)).trans h2⟩
  ne := ⟨_, 0, rfl⟩
theorem owes_row {ds : List Nat} {B : Nat} {e : TypeId} {size n : Nat} {xs : List Value} {w w' : World} {u : Value} {row : Option Nat} (ho : w'.ownsRow B e size u n xs) (hg : w.grownBy w' row)
    (hrow : ∀ k, row = some k → ∃ d ∈ ds, ∃ t, τ d = some t ∧ k ∈ t.fp (U d)) (hu : ∀ k, u.ownBlock = some k → row = some k ∨ w.heap.size ≤ k) : Owes τ (rowS ds B e size n xs) U w u w' := by
  obtain ⟨A, c, rfl, _⟩ := own_form ho
  refine ⟨⟨A, c, rfl⟩, ho, hg.os, hg.tape, hg.output, hg.size, fun g hlt hd => hg.block g hlt (fun e => ?_), fun g hm => ?_⟩
  · obtain ⟨d, hd', t, ht, hk⟩ := hrow g e.symm
    exact hd d hd' t ht hk
  · have hm' := mem_toList.1 hm
    refine ⟨(ho.lt g hm').2, ?_⟩
    rcases hu g hm' with h | h
    · exact .inr (hrow g h)
    · exact .inl h
/-- An operation that makes a row. -/
theorem ob_row {ds : List Nat} {B : Nat} {e : TypeId} {size n : Nat} {xs : List Value} {o : Oper} (hB : B ≤ w0.heap.size)
    (h : ∀ w, ClP w0 F w → Has τ ds U w → stepTo P o a w (fun u w' => w'.ownsRow w.heap.size e size u n xs ∧ w.grownBy w' none)) : Ob P w0 F τ (rowS ds B e size n xs) o a U := fun w hw hd => by
  have h1 := h w hw hd
  have hB' : B ≤ w.heap.size := by obtain ⟨N, rfl⟩ := hw; exact Nat.le_trans hB N.size
  unfold stepTo at h1 ⊢
  have fin : ∀ u w', w'.ownsRow w.heap.size e size u n xs ∧ w.grownBy w' none → Owes τ (rowS ds B e size n xs) U w u w' := fun u w' ⟨ho, hg⟩ =>
    owes_row (row := none) (own_base ho hB') hg (fun k hk => by cases hk) (fun k hk => .inr (ho.lt k hk).1)
  generalize (execOp a.eval o).run P w = r at *
  cases r with
  | ok nx w' =>
    cases nx <;> simp only [stepUpon] at h1 ⊢
    case value u => exact fin _ _ h1
    case skip => exact fin _ _ h1
    case enter f args => exact h1.mono fun e w'' ⟨u, he, hR⟩ => ⟨u, he, fin _ _ hR⟩
  | halt x w' => simp only [stepUpon] at h1
theorem grown_alloc (w : World) (o : Obj) : w.grownBy (w.alloc o) none := ⟨rfl, rfl, rfl, by simp, fun k hk _ => Below.heap_alloc w o k hk⟩
/-- 'x' or nothing in a new row. -/
theorem ob_lit {B : Nat} {e : TypeId} {size n : Nat} {cs : Array Value} {o : Oper} (hB : B ≤ w0.heap.size) (hn : n ≤ maxLen) (hc : cs.size = n * size)
    (h : ∀ w, ClP w0 F w → (execOp a.eval o).run P w = .ok (.value (.slice (some ⟨w.heap.size, 0, none⟩) n n)) (w.alloc (.cells cs e))) : Ob P w0 F τ (rowS [] B e size n cs.toList) o a U :=
  ob_row hB fun w hw _ => by
    unfold stepTo; rw [h w hw]
    exact ⟨own_lit cs n (Nat.le_refl _) hn hc, grown_alloc w _⟩
/-- A new variable. -/
theorem ob_box {B : Nat} {e : TypeId} {cs : Array Value} {o : Oper} (hB : B ≤ w0.heap.size)
    (h : ∀ w, ClP w0 F w → (execOp a.eval o).run P w = .ok (.value (.pointer (some ⟨w.heap.size, 0, none⟩))) (w.alloc (.cells cs e))) : Ob P w0 F τ (boxS [] B e cs.toList) o a U := fun w hw _ => by
  have hB' : B ≤ w.heap.size := by obtain ⟨N, rfl⟩ := hw; exact Nat.le_trans hB N.size
  unfold stepTo; rw [h w hw]
  refine ⟨⟨_, rfl⟩, ⟨_, rfl, hB', by unfold Blk; exact heap_alloc_new w _⟩, rfl, rfl, rfl, by simp, fun g hg _ => Below.heap_alloc w _ g hg, fun g hg => ?_⟩
  have : g = w.heap.size := by simpa [boxS] using hg
  subst this
  exact ⟨by simp, .inl (Nat.le_refl _)⟩
/-- 'append' onto a row that the region itself has made. -/
theorem ob_app {o : Oper} (s x : Operand) (t : TypeId) (ho : o.op = .call { callee := .builtin .append, args := #[s, x], argTypes := #[t, t] })
    {B : Nat} {e : TypeId} {size bytes : Nat} (E : ElemOk P t e size bytes) {n m c : Nat} {xs news : List Value} {A : Option Addr} {cd ds : List Nat} (d : Nat) (hd : τ d = some (rowS cd B e size n xs)) (hs : a.eval s = U d)
    (hx : a.eval x = .slice A m c) (hl : news.length = m * size) (hr : ∀ w, ClP w0 F w → (∀ d ∈ ds, ∀ t, τ d = some t → t.V (U d) w) → Rd w A news) (h1 : ∀ u ∈ news, u.oneCell' = true)
    (h63 : n + m ≤ maxLen) (hbytes : (n + m) * bytes ≤ 140737488355328) (hB : B ≤ w0.heap.size) : Ob P w0 F τ (rowS (d :: ds) B e size (n + m) (xs ++ news)) o a U := fun w hw hf => by
  have hB' : B ≤ w.heap.size := by obtain ⟨N, rfl⟩ := hw; exact Nat.le_trans hB N.size
  have hown : w.ownsRow B e size (U d) n xs := (hf.1 d (by simp [rowS]) _ hd).1
  obtain ⟨v', w', hr', h2, h3, h4⟩ := run_app (ty := o.type) (c := c) E hown hl (hr w hw (fun d' hd' t' ht' => (hf.1 d' (by simp [rowS, hd']) t' ht').1)) h1 h63 hbytes hB'
  have hrun : (execOp a.eval o).run P w = .ok (.value v') w' := by
    unfold execOp
    simp only [ho, resolve, invoke, builtin, Sem.run_bind, Sem.run_pure, Result.andThen_ok, List.map_toArray, List.map_cons, List.map_nil, hs, hx, hr']
  unfold stepTo
  rw [hrun]
  refine owes_row h2 h3 (fun k hk => ⟨d, by simp, _, hd, mem_toList.2 hk⟩) (fun k hk => ?_)
  rcases h4 with h | h
  · exact .inl (h.symm.trans hk)
  · rw [h] at hk; cases hk; exact .inr (Nat.le_refl _)
theorem not_used {T : List (Nat × LS)} {r : Nat} (h : (T.map fun x => x.2.cons).all (fun y => !y.contains r) = true) : ∀ j t, lk T j = some t → r ∉ t.cons := fun j t hj hr => by
  have := List.all_eq_true.1 h t.cons (List.mem_map.2 ⟨_, lk_mem hj, rfl⟩)
  simp [hr] at this
theorem ends_get {T : List (Nat × LS)} {w : World} (h : Ends w0 F (lk T) U w) (r : Nat) {s : LS} (hr : lk T r = some s) (hu : (T.map fun x => x.2.cons).all (fun y => !y.contains r) = true) : s.V (U r) w := (h.2.1 r s hr (not_used hu)).1
theorem ends_lt {T : List (Nat × LS)} {w : World} (h : Ends w0 F (lk T) U w) (r : Nat) {s : LS} (hr : lk T r = some s) (hu : (T.map fun x => x.2.cons).all (fun y => !y.contains r) = true) : ∀ g ∈ s.fp (U r), g < w.heap.size := (h.2.1 r s hr (not_used hu)).2
theorem ends_apart {T : List (Nat × LS)} {w : World} (h : Ends w0 F (lk T) U w) (r r' : Nat) (hne : r ≠ r') {s s' : LS} (hr : lk T r = some s) (hr' : lk T r' = some s') (hu : (T.map fun x => x.2.cons).all (fun y => !y.contains r) = true)
    (hu' : (T.map fun x => x.2.cons).all (fun y => !y.contains r') = true) : ∀ g ∈ s.fp (U r), g ∉ s'.fp (U r') := h.2.2 r r' s s' hne hr hr' (not_used hu) (not_used hu')
theorem ends_below {w0 : World} {τ : Nat → Option LS} {w : World} (h : Ends w0 [] τ U w) : Below w0.heap.size w0 w := by
  obtain ⟨N, e⟩ := h.1
  rw [e]; exact N.below
/-- A box of one's own and a row of one's own, both at the end. -/
theorem ends_box_row {T : List (Nat × LS)} {w : World} (h : Ends w0 F (lk T) U w) (r r' : Nat) {g B B' : Nat} {e e' : TypeId} {size n : Nat} {L xs : List Value} {A : Option Addr} {c m : Nat} {cd cd' : List Nat} (hr : lk T r = some (boxS cd B e L)) (hr' : lk T r' = some (rowS cd' B' e' size n xs))
    (hU : U r = .pointer (some ⟨g, 0, none⟩)) (hU' : U r' = .slice A m c) (hne : r ≠ r') (hu : (T.map fun x => x.2.cons).all (fun y => !y.contains r) = true) (hu' : (T.map fun x => x.2.cons).all (fun y => !y.contains r') = true) :
    Blk w g e L ∧ B ≤ g ∧ some g ≠ (Value.slice A m c).ownBlock := by
  obtain ⟨g', e1, h1, h2⟩ := ends_get h r hr hu
  rw [hU] at e1
  cases e1
  refine ⟨h2, h1, fun e => ?_⟩
  have := ends_apart h r r' hne hr hr' hu hu' g (by simp [boxS, hU])
  rw [hU'] at this
  exact this (mem_toList.2 e.symm)
theorem grown_of_below {w w' : World} (h : Below w.heap.size w w') : w.grownBy w' none := ⟨h.os, h.tape, h.output, h.size, fun k hk _ => h.block k hk⟩
theorem clP_below {w0 w : World} (h : ClP w0 [] w) : Below w0.heap.size w0 w := by
  obtain ⟨N, e⟩ := h
  rw [e]; exact N.below
/-- A literal slice, its block known whole. -/
def litS (cons : List Nat) (B : Nat) (e : TypeId) (n : Nat) (L : List Value) : LS where
  cons := cons
  ok u := ∃ g, u = .slice (some ⟨g, 0, none⟩) n n
  V u w := ∃ g, u = .slice (some ⟨g, 0, none⟩) n n ∧ B ≤ g ∧ Blk w g e L
  fp u := u.ownBlock.toList
  loc u w w' h hb _ := by
    obtain ⟨g, rfl, h1, h2⟩ := h
    exact ⟨g, rfl, h1, (hb g (mem_toList.2 rfl)).trans h2⟩
  ne := ⟨_, 0, rfl⟩
theorem ob_litS {B : Nat} {e : TypeId} {n : Nat} {cs : Array Value} {o : Oper} (hB : B ≤ w0.heap.size)
    (h : ∀ w, ClP w0 F w → (execOp a.eval o).run P w = .ok (.value (.slice (some ⟨w.heap.size, 0, none⟩) n n)) (w.alloc (.cells cs e))) : Ob P w0 F τ (litS [] B e n cs.toList) o a U := fun w hw _ => by
  have hB' : B ≤ w.heap.size := by obtain ⟨N, rfl⟩ := hw; exact Nat.le_trans hB N.size
  unfold stepTo; rw [h w hw]
  refine ⟨⟨_, rfl⟩, ⟨_, rfl, hB', by unfold Blk; exact heap_alloc_new w _⟩, rfl, rfl, rfl, by simp, fun g hg _ => Below.heap_alloc w _ g hg, fun g hg => ?_⟩
  have : g = w.heap.size := by have := mem_toList.1 (show g ∈ (Value.slice (some ⟨w.heap.size, 0, none⟩) n n).ownBlock.toList from hg); simpa [Value.ownBlock, eq_comm] using this
  subst this
  exact ⟨by simp, .inl (Nat.le_refl _)⟩
/-- A call that takes a row of one's own (d), and grows it. -/
theorem ob_grow {B : Nat} {e : TypeId} {size n m : Nat} {xs ys : List Value} {o : Oper} {cd ds : List Nat} (d : Nat) (hd : τ d = some (rowS cd B e size n xs))
    (h : ∀ w, ClP w0 F w → Has τ (d :: ds) U w → w.ownsRow B e size (U d) n xs → stepTo P o a w (fun u w' => w'.ownsRow B e size u m ys ∧ w.grownBy w' (U d).ownBlock ∧ (u.ownBlock = (U d).ownBlock ∨ ∃ k, u.ownBlock = some k ∧ w.heap.size ≤ k))) :
    Ob P w0 F τ (rowS (d :: ds) B e size m ys) o a U := fun w hw hf => by
  have hown : w.ownsRow B e size (U d) n xs := (hf.1 d (by simp [rowS]) _ hd).1
  have h1 := h w hw hf hown
  unfold stepTo at h1 ⊢
  have fin : ∀ u w', (w'.ownsRow B e size u m ys ∧ w.grownBy w' (U d).ownBlock ∧ (u.ownBlock = (U d).ownBlock ∨ ∃ k, u.ownBlock = some k ∧ w.heap.size ≤ k)) → Owes τ (rowS (d :: ds) B e size m ys) U w u w' := fun u w' ⟨ho, hg, hor⟩ => by
    refine owes_row ho hg (fun k hk => ⟨d, by simp, _, hd, mem_toList.2 hk⟩) (fun k hk => ?_)
    rcases hor with h | ⟨k', h, hk'⟩
    · exact .inl (h.symm.trans hk)
    · rw [h] at hk; cases hk; exact .inr hk'
  generalize (execOp a.eval o).run P w = r at *
  cases r with
  | ok nx w' =>
    cases nx <;> simp only [stepUpon] at h1 ⊢
    case value u => exact fin _ _ h1
    case skip => exact fin _ _ h1
    case enter f args => exact h1.mono fun e w'' ⟨u, he, hR⟩ => ⟨u, he, fin _ _ hR⟩
  | halt x w' => simp only [stepUpon] at h1
theorem own_setN {w : World} {B : Nat} {e : TypeId} {size n : Nat} {v : Value} {xs : List Value} (h : w.ownsRow B e size v n xs) {g : Nat} (hne : some g ≠ v.ownBlock) (j : Nat) (u : Value) : (w.setCell ⟨g, j, none⟩ u).ownsRow B e size v n xs :=
  h.kept (grown_set (World.grownBy.refl w (some g)) j u) (.inr (Ne.symm hne))
theorem two_setN {w : World} {g : Nat} {a b u v : Value} (h0 : w.cell? ⟨g, 0, none⟩ = some a) (h1 : w.cell? ⟨g, 1, none⟩ = some b) :
    ((w.setCell ⟨g, 0, none⟩ u).setCell ⟨g, 1, none⟩ v).cell? ⟨g, 0, none⟩ = some u ∧ ((w.setCell ⟨g, 0, none⟩ u).setCell ⟨g, 1, none⟩ v).cell? ⟨g, 1, none⟩ = some v :=
  ⟨(World.cell?_setCell_other _ _ _ _ (by simp)).trans (World.cell?_setCell_same _ _ _ h0), World.cell?_setCell_same _ _ _ (u := b) ((World.cell?_setCell_other _ _ _ _ (by simp)).trans h1)⟩
end
end Go.My
