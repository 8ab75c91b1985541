/-
  The frame of a law's row, once for all laws of a seat: if every call of the law on arguments that read as data returns true and leaves all memory that was there as it was, then the row holds. Conditions: the law's parameters are readable types, it names no package-level variable.
-/
import Derived.Test.YtdbcbaahjhaonaaRows
import Derived.ProofKit
import Derived.Below
import Derived.Carry
import Derived.ChangeOld
import Derived.ShutString
import Derived.Deep.Slices
import Derived.Test.YtdbcbaahjhaonaaMem
namespace Go.My
open Go.ChangeShapes Go.WideShapes Go.ChangeAt Go.RowKit

/-- Each argument reads behind the call as it did before, if nothing below the old heap's size has turned. -/
theorem trodAll_below {H : Type} {enc : TypeId × Value → H} {P : Program} (hl : laidOutB P = true) {W W' : World} (hb : Below W.heap.size W W') :
    ∀ {ts : List TypeId} {vs : List Value} {ds : List (DataW H)} {ps : List MemPlace}, (ts.all fun t => P.readableRec t && decide (t < P.types.size)) = true →
      DataW.TrodAll enc P W 0 (fun _ => true) true ts vs ds ps → (∀ x ∈ ps, x.block < W.heap.size) →
      DataW.TrodAll enc P W' 0 (fun b => decide (b < W.heap.size)) true ts vs ds ps
  | [], vs, ds, ps, _, h, _ => by
    obtain ⟨rfl, rfl, rfl⟩ := trodAll_nil h
    rfl
  | t :: ts, vs, ds, ps, ht, h, hlt => by
    obtain ⟨v, vs', d, ds', p, q, rfl, rfl, rfl, h1, h2⟩ := trodAll_cons h
    simp only [List.all_cons, Bool.and_eq_true, decide_eq_true_eq] at ht
    exact ⟨p, q, Below.trod hl ht.1.1 ht.1.2 h1 hb (fun x hx => hlt x (by simp [hx])), trodAll_below hl hb (by simpa using ht.2) h2 (fun x hx => hlt x (by simp [hx])), rfl⟩

/-- The condition on a law's specification: it says true, and that the arguments read as they did. -/
def SaysTrue (s : ChangeSpec) (n : Nat) : Prop := ∀ (H : Type) (ds : List (DataW H)), ds.length = n → s.fn H ds = { results := [.lit (.bool true)], args := ds }

theorem trodAll_length {H : Type} {enc : TypeId × Value → H} {P : Program} {W : World} {b : Nat} {sp : Nat → Bool} {hd : Bool} :
    ∀ {ts : List TypeId} {vs : List Value} {ds : List (DataW H)} {ps : List MemPlace}, DataW.TrodAll enc P W b sp hd ts vs ds ps → ds.length = ts.length
  | [], _, _, _, h => by obtain ⟨_, rfl, _⟩ := trodAll_nil h; rfl
  | _ :: _, _, _, _, h => by
    obtain ⟨v, vs', d, ds', p, q, rfl, rfl, rfl, h1, h2⟩ := trodAll_cons h
    simp [trodAll_length h2]

theorem law_step {H : Type} {enc : TypeId × Value → H} {P : Program} {fn : Func} {s : ChangeSpec} {T : TypeId} (hl : laidOutB P = true) (hT : P.underlying T = some .bool) (hres : fn.resultTypes = #[T])
    (hpar : (fn.params.toList.all fun t => P.readableRec t && decide (t < P.types.size)) = true) (hvars : s.vars = []) (hsays : SaysTrue s fn.params.toList.length)
    {f : FuncId} {W : World} {args : Array Value} {ds gs : List (DataW H)} {before : List MemPlace} (hW : DataW.Whole enc P fn.params.toList s.vars false W args.toList ds gs before)
    (walk : Calls P f args W fun e w' => e = .returned (.bool true) ∧ Below W.heap.size W w') :
    Calls P f args W fun e W' => ∃ v, e = .returned v ∧ s.post enc P fn false true false false W args v W' := by
  refine walk.mono fun e W' ⟨he, hb⟩ => ⟨_, he, ?_⟩
  have hW0 := hW
  obtain ⟨p, q, hA, hV, rfl, hfz, hnd⟩ := hW
  rw [hvars] at hV
  obtain ⟨rfl, rfl⟩ := trodVars_none hV
  have hlen := trodAll_length hA
  have e0 : s.fn H (ds ++ []) = { results := [.lit (.bool true)], args := ds } := by rw [List.append_nil]; exact hsays H ds hlen
  have hlt : ∀ x ∈ p, x.block < W.heap.size := fun x hx => hA.lt x hx
  refine ⟨ds, [], p ++ [], [], p, [], hW0, ?_, ?_, ?_, hb.frame _, fun h => by cases h⟩
  · rw [e0, hres]
    exact trodAll_mk1 (shut_bool hT true)
  · rw [e0]
    exact trodAll_below hl hb hpar hA hlt
  · rw [e0, hvars]
    exact rfl

/-! ### Two rows that share no block -/
def Apart (v v' : Value) : Prop := ∀ k, v.ownBlock = some k → v'.ownBlock ≠ some k
theorem apart_symm {v v' : Value} (h : Apart v v') : Apart v' v := fun k h1 h2 => h k h2 h1
theorem apart_new {w w' : World} {B : Nat} {e e' : TypeId} {size size' n n' : Nat} {v v' : Value} {xs xs' : List Value} (h : w.ownsRow B e size v n xs) (h' : w'.ownsRow w.heap.size e' size' v' n' xs') : Apart v v' := by
  intro k h1 h2
  have a := (h.lt k h1).2
  have b := (h'.lt k h2).1
  omega
theorem mark_below {w w1 w2 : World} {e : TypeId} {size n : Nat} {v : Value} {xs : List Value} (hb : Below w.heap.size w w1) (ho : w1.ownsRow w.heap.size e size v n xs) (hg : w1.grownBy w2 v.ownBlock) : Below w.heap.size w w2 :=
  hb.grown hg hb.size (fun k hk => (ho.lt k hk).1)
theorem own_mark {w1 w2 : World} {B : Nat} {e : TypeId} {size n : Nat} {v v' : Value} {xs : List Value} (h : w1.ownsRow B e size v n xs) (hg : w1.grownBy w2 v'.ownBlock) (ha : Apart v v') : w2.ownsRow B e size v n xs :=
  h.kept hg (by
    cases hv : v.ownBlock with
    | none => exact .inl rfl
    | some k => exact .inr (fun e => ha k hv e.symm))

/-! ### A slice argument opened: its elements' cells -/
theorem mapM_all {α β : Type} {g : α → Option β} : ∀ {l : List α} {r : List β}, l.mapM g = some r → ∀ a ∈ l, ∃ b, g a = some b
  | [], _, _ => by simp
  | a :: l, r, h => by
    intro x hx
    rw [List.mapM_cons] at h
    cases ha : g a with
    | none => rw [ha] at h; cases h
    | some b =>
      rcases List.mem_cons.1 hx with rfl | hx
      · exact ⟨b, ha⟩
      · cases hl : l.mapM g with
        | none => rw [ha, hl] at h; cases h
        | some r' => exact mapM_all hl x hx

/-- Each field of a struct that reads, reads. -/
theorem trod_fields {H : Type} {enc : TypeId × Value → H} {P : Program} {w : World} {base : Nat} {spare : Nat → Bool} {held : Bool} {fuel : Nat} {e : TypeId} {fs : Array Field} {cs : List Value} {x : DataW H × List MemPlace}
    (hu : P.underlying e = some (.struct fs)) (h : DataW.trod enc P w base spare held fuel e cs = some x) :
    cs.length = P.cellsOf e ∧ ∀ f ∈ fs.toList, ∃ n y, DataW.trod enc P w base spare held n f.type ((cs.drop f.offset).take (P.cellsOf f.type)) = some y := by
  cases fuel with
  | zero => simp [DataW.trod] at h
  | succ n =>
    unfold DataW.trod at h
    rw [hu] at h
    simp only at h
    split at h
    · rename_i hl
      refine ⟨hl, fun f hf => ?_⟩
      rw [Option.map_eq_some_iff] at h
      obtain ⟨r, hr, _⟩ := h
      obtain ⟨y, hy⟩ := mapM_all hr f hf
      exact ⟨n, y, hy⟩
    · cases h

/-- Each element of an array that reads, reads. -/
theorem trod_elems {H : Type} {enc : TypeId × Value → H} {P : Program} {w : World} {base : Nat} {spare : Nat → Bool} {held : Bool} {fuel : Nat} {e e' : TypeId} {m : Nat} {cs : List Value} {x : DataW H × List MemPlace}
    (hu : P.underlying e = some (.array m e')) (h : DataW.trod enc P w base spare held fuel e cs = some x) :
    cs.length = P.cellsOf e ∧ ∀ i, i < m → ∃ n y, DataW.trod enc P w base spare held n e' ((cs.drop (i * P.cellsOf e')).take (P.cellsOf e')) = some y := by
  cases fuel with
  | zero => simp [DataW.trod] at h
  | succ n =>
    unfold DataW.trod at h
    rw [hu] at h
    simp only at h
    split at h
    · rename_i hl
      refine ⟨hl, fun i hi => ?_⟩
      rw [Option.map_eq_some_iff] at h
      obtain ⟨r, hr, _⟩ := h
      obtain ⟨y, hy⟩ := mapM_all hr i (by simpa using hi)
      exact ⟨n, y, hy⟩
    · cases h

theorem choose_list {α : Type} {p : Nat → α → Prop} : ∀ n : Nat, (∀ i, i < n → ∃ s, p i s) → ∃ xs : List α, xs.length = n ∧ ∀ i (h : i < xs.length), p i xs[i]
  | 0, _ => ⟨[], rfl, fun i h => by simp at h⟩
  | n + 1, h => by
    obtain ⟨xs, hl, hx⟩ := choose_list n (fun i hi => h i (by omega))
    obtain ⟨s, hs⟩ := h n (by omega)
    refine ⟨xs ++ [s], by simp [hl], fun i hi => ?_⟩
    by_cases hin : i < xs.length
    · rw [List.getElem_append_left hin]; exact hx i hin
    · have : i = n := by simp at hi; omega
      subst this
      rw [List.getElem_append_right (by omega)]
      simpa [hl] using hs

/-- A SLICE ARGUMENT: a list of elements, each of m cells that are 'f s'. -/
theorem open_list {H : Type} {enc : TypeId × Value → H} {P : Program} {w : World} {base : Nat} {spare : Nat → Bool} {held : Bool} {t e : TypeId} {α : Type} (f : α → List Value) (ok : α → Prop) (m : Nat) (hf : ∀ x, (f x).length = m) (hm : 0 < m)
    (ht : P.underlying t = some (.slice e)) (hc : P.cellsOf e = m)
    (hread : ∀ n cs x, DataW.trod enc P w base spare held n e cs = some x → ∃ s, cs = f s ∧ ok s)
    {A : Option Addr} {len cap : Nat} {d : DataW H} {ps : List MemPlace} (h : DataW.Trod enc P w base spare held t (.slice A len cap) d ps) :
    ∃ xs : List α, xs.length = len ∧ len ≤ cap ∧ cap ≤ maxLen ∧ Rd w A (xs.flatMap f) ∧ ∀ x ∈ xs, ok x := by
  obtain ⟨fuel, hfu⟩ := h
  rcases Deep.open_slice ht hfu with ⟨hcs, _⟩ | ⟨a, l, c, k, n, D, Pl, hcs, _, hl, hmx, hk, _, hx⟩
  · simp [Value.cells] at hcs
    obtain ⟨rfl, rfl, rfl⟩ := hcs
    exact ⟨[], rfl, Nat.le_refl _, Nat.zero_le _, .inl rfl, by simp⟩
  · simp [Value.cells] at hcs
    obtain ⟨rfl, rfl, rfl⟩ := hcs
    have hkl : len ≤ k := by rw [hk]; split <;> omega
    obtain ⟨xs, hxl, hxs⟩ := choose_list (α := α) (p := fun i s => ok s ∧ w.cells? base (a.add (i * m)) m = some (f s)) len (fun i hi => by
      obtain ⟨cs', h1, h2⟩ := hx i (by omega)
      rw [hc] at h1
      obtain ⟨s, rfl, hs⟩ := hread _ _ _ h2
      exact ⟨s, hs, h1⟩)
    refine ⟨xs, hxl, hl, hmx, ?_, fun x hx' => ?_⟩
    · by_cases h0 : xs = []
      · subst h0; exact .inl rfl
      · have hpos : 0 < xs.length := List.length_pos_iff.2 h0
        have cell : ∀ i j (hi : i < xs.length), j < m → w.cell? ((a.add (i * m)).add j) = (f xs[i])[j]? := fun i j hi hj => (World.cells?_some (hxs i hi).2).2.2 j hj
        have hspot : a.spot = none := by
          have h00 := cell 0 0 hpos hm
          obtain ⟨u, hu⟩ : ∃ u, (f xs[0])[0]? = some u := ⟨_, List.getElem?_eq_getElem (show 0 < (f xs[0]).length from (by have := hf xs[0]; omega))⟩
          rw [hu] at h00
          have := World.cell?_spot h00
          simpa [Addr.add] using this
        obtain ⟨b, off, spot⟩ := a
        simp only at hspot
        subst hspot
        refine .inr ⟨b, off, rfl, fun j hj => ?_⟩
        rw [flat_length f m hf] at hj
        have hq : j / m < xs.length := (Nat.div_lt_iff_lt_mul hm).2 hj
        have hr : j % m < m := Nat.mod_lt _ hm
        have hjj : j / m * m + j % m = j := by rw [Nat.mul_comm]; exact Nat.div_add_mod j m
        have := cell (j / m) (j % m) hq hr
        have hadd : ((⟨b, off, none⟩ : Addr).add (j / m * m)).add (j % m) = ⟨b, off + j, none⟩ := by
          have : ∀ (o k : Nat), (⟨b, o, none⟩ : Addr).add k = ⟨b, o + k, none⟩ := fun o k => by unfold Addr.add; split <;> simp_all
          rw [this, this, Nat.add_assoc, hjj]
        rw [hadd, ← flat_get f m hf xs _ _ hq hr, hjj] at this
        rw [this, List.getElem?_eq_getElem]
    · obtain ⟨i, hi, rfl⟩ := List.getElem_of_mem hx'
      exact (hxs i hi).1
end Go.My
