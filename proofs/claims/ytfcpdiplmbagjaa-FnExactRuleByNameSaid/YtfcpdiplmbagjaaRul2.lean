/-
  Contracts of RuleByName, ChangeRank, AddRule and of what they call. Conditions: lengths within Go's range.
-/
import Derived.Test.YtfcpdiplmbagjaaRul
import Derived.Test.YtfcpdiplmbagjaaSlRul
namespace Go.My
open Go.RowKit
def noRul : Rul := ⟨0, ⟨#[]⟩, 0, false, false, false, 0⟩
def byNameR (xs : List Rul) (t : ByteArray) : Rul × Bool :=
  if goodRul xs = true then (match xs.find? (fun s => s.name.toList == t.toList) with | some s => (s, true) | none => (noRul, false)) else (noRul, false)
theorem find_idx {α : Type} {p : α → Bool} {xs : List α} {j i : Nat} (hi : i < xs.length) (h : idxFrom p j xs = ((j + i : Nat) : Int)) : xs.find? p = some xs[i] := by
  induction xs generalizing j i with
  | nil => simp at hi
  | cons x r ih =>
    by_cases hx : p x = true
    · have e : idxFrom p j (x :: r) = (j : Int) := if_pos hx
      rw [e] at h
      have : i = 0 := by omega
      subst this
      simp [hx]
    · have e : idxFrom p j (x :: r) = idxFrom p (j + 1) r := if_neg hx
      rw [e] at h
      have hr := idxFrom_range p (j + 1) r
      cases i with
      | zero => omega
      | succ i =>
        rw [List.find?_cons_of_neg hx]
        simpa using ih (j := j + 1) (i := i) (by simpa using hi) (by rw [h]; omega)
theorem find_none {α : Type} {p : α → Bool} {xs : List α} {j : Nat} (h : idxFrom p j xs < 0) : xs.find? p = none := by
  induction xs generalizing j with
  | nil => rfl
  | cons x r ih =>
    by_cases hx : p x = true
    · have e : idxFrom p j (x :: r) = (j : Int) := if_pos hx
      rw [e] at h; omega
    · have e : idxFrom p j (x :: r) = idxFrom p (j + 1) r := if_neg hx
      rw [e] at h
      rw [List.find?_cons_of_neg hx]; exact ih h
end Go.My
namespace Go.Proofs.Ytfcpdiplmbagjaa
open Go.RowKit Go.My
theorem closN_any (s : Rul) (q : Nat) (t : ByteArray) (w : World) (hq : w.cell? ⟨q, 0, none⟩ = some (.string t)) :
    Calls Try.prog 40 #[.agg #[.int .i64 s.id, .string s.name, .int .i64 s.rank, .bool s.sec, .bool s.deb, .bool s.am, .int .i64 s.need], .pointer (some ⟨q, 0, none⟩)] w fun e w' => e = .returned (.bool (s.name.toList == t.toList)) ∧ Below w.heap.size w w' := by
  have hq2 : (w.alloc (.cells #[.int .i64 s.id, .string s.name, .int .i64 s.rank, .bool s.sec, .bool s.deb, .bool s.am, .int .i64 s.need] 26)).cell? ⟨q, 0, none⟩ = some (.string t) := (World.cell?_alloc_past _ _ _ (World.block_lt_of_cell? w _ hq)).trans hq
  go_enter Try.func40, Try.ntmps40
  go_wp2
  go_ret
  exact ⟨rfl, bnew (Below.refl _ _) _⟩
set_option maxHeartbeats 1000000 in
theorem byName_any (A : Option Addr) (c : Nat) (xs : List Rul) (t : ByteArray) (w : World) (hn : xs.length ≤ maxLen) (hlc : xs.length ≤ c) (hx : Rd w A (rulCells xs)) (hs : ∀ s ∈ xs, s.name.size ≤ maxLen) (_ : t.size ≤ maxLen) :
    Calls Try.prog 19 #[.slice A xs.length c, .string t] w fun e w' => e = .returned (.tuple #[.agg #[.int .i64 (byNameR xs t).1.id, .string (byNameR xs t).1.name, .int .i64 (byNameR xs t).1.rank, .bool (byNameR xs t).1.sec, .bool (byNameR xs t).1.deb, .bool (byNameR xs t).1.am, .int .i64 (byNameR xs t).1.need], .bool (byNameR xs t).2]) ∧ Below w.heap.size w w' := by
  obtain ⟨r, hr⟩ : ∃ r, r = byNameR xs t := ⟨_, rfl⟩
  rw [← hr]
  have Hx : Hid (∀ w1, Below w.heap.size w w1 → w1.cell? ⟨w.heap.size, 0, none⟩ = some (.string t) → Calls Try.prog 39 #[.slice A xs.length c, .func (.func 40) #[] #[.pointer (some ⟨w.heap.size, 0, none⟩)]] w1 fun e w' => e = .returned (.int .i64 (idxOf (fun s : Rul => s.name.toList == t.toList) xs)) ∧ Below w1.heap.size w1 w') :=
    fun w1 hb hc => indexRulN_any ⟨w.heap.size, 0, none⟩ (fun s : Rul => s.name.toList == t.toList) A c xs w1 hn (hx.below hb) (fun w2 hb2 s _ => closN_any s w.heap.size t w2 ((hb2.cell (World.block_lt_of_cell? _ _ hc)).trans hc))
  have Hv : Hid (∀ w1, Below w.heap.size w w1 → Calls Try.prog 16 #[.slice A xs.length c] w1 fun e w' => e = .returned (.bool (goodRul xs)) ∧ Below w1.heap.size w1 w') :=
    fun w1 hb => isRules_any A c xs w1 hn hlc (hx.below hb) hs
  have hq0 : ((w.alloc (.cells #[.string t] 9)).alloc (.cells #[.int .i64 0, .string ⟨#[]⟩, .int .i64 0, .bool false, .bool false, .bool false, .int .i64 0] 26)).cell? ⟨w.heap.size, 0, none⟩ = some (.string t) :=
    (World.cell?_alloc_past _ _ _ (by simp)).trans ((World.cell?_alloc_at _ _ _ _ rfl).trans rfl)
  have hb0 := bnew (bnew (Below.refl w.heap.size w) (.cells #[.string t] 9)) (.cells #[.int .i64 0, .string ⟨#[]⟩, .int .i64 0, .bool false, .bool false, .bool false, .int .i64 0] 26)
  have ho0 := own_lit (e := 26) (size := 7) (B := w.heap.size) (w := w.alloc (.cells #[.string t] 9)) #[.int .i64 0, .string ⟨#[]⟩, .int .i64 0, .bool false, .bool false, .bool false, .int .i64 0] 1 (by simp) (by unfold maxLen; omega) rfl
  rw [show (w.alloc (.cells #[.string t] 9)).heap.size = w.heap.size + 1 by simp] at ho0
  have hx1 := hx
  clear hs hx
  unfold maxLen at hn
  go_enter Try.func19, Try.ntmps19
  go_wp2_with fail
  generalize (w.alloc (.cells #[.string t] 9)).alloc (.cells #[.int .i64 0, .string ⟨#[]⟩, .int .i64 0, .bool false, .bool false, .bool false, .int .i64 0] 26) = w0 at *
  refine (Hx.out w0 hb0 hq0).mono ?_
  rintro e w1 ⟨rfl, hb1⟩
  have hb01 := btr hb0 hb1
  have ho1 := own_below ho0 hb1
  clear hq0 ho0
  obtain ⟨v, hv⟩ : ∃ v, v = idxOf (fun s : Rul => s.name.toList == t.toList) xs := ⟨_, rfl⟩
  rw [← hv]
  have HV := Lib.hid hv
  have hrange := idxOf_range (fun s : Rul => s.name.toList == t.toList) xs
  rw [← hv] at hrange
  clear hv
  by_cases hg : goodRul xs = true
  · by_cases hi : v < 0
    · have Hr : Hid (r = (noRul, false)) := by
        show _ = _
        rw [hr, byNameR, if_pos hg, find_none (j := 0) (by have := HV.out; unfold idxOf at this; omega)]
      clear hr
      go_wp2_with fail
      refine (Hv.out w1 hb01).mono ?_
      rintro e w2 ⟨rfl, hb2⟩
      have hbE := btr hb01 hb2
      have hoE := own_below ho1 hb2
      obtain ⟨u0, f0⟩ := own_some hoE (0) (by decide)
      have z0 := hoE.frozenAt (0)
      obtain ⟨u1, f1⟩ := own_some hoE (1) (by decide)
      have z1 := hoE.frozenAt (1)
      obtain ⟨u2, f2⟩ := own_some hoE (2) (by decide)
      have z2 := hoE.frozenAt (2)
      obtain ⟨u3, f3⟩ := own_some hoE (3) (by decide)
      have z3 := hoE.frozenAt (3)
      obtain ⟨u4, f4⟩ := own_some hoE (4) (by decide)
      have z4 := hoE.frozenAt (4)
      obtain ⟨u5, f5⟩ := own_some hoE (5) (by decide)
      have z5 := hoE.frozenAt (5)
      obtain ⟨u6, f6⟩ := own_some hoE (6) (by decide)
      have z6 := hoE.frozenAt (6)
      go_wp2
      exact bodyPost_ret (v := .tuple #[.agg #[.int .i64 0, .string ⟨#[]⟩, .int .i64 0, .bool false, .bool false, .bool false, .int .i64 0], .bool false]) (by simp [results, Try.results19, go_sem, f0, f1, f2, f3, f4, f5, f6]) rfl ⟨by rw [Hr.out]; rfl, (((((((hbE).setCell (by simp) _).setCell (by simp) _).setCell (by simp) _).setCell (by simp) _).setCell (by simp) _).setCell (by simp) _).setCell (by simp) _⟩
    · obtain ⟨k, hk, e0, hp⟩ := idxOf_get (p := fun s : Rul => s.name.toList == t.toList) (xs := xs) (by have := HV.out; omega)
      have hvk : v = (k : Int) := HV.out.trans e0
      have Hr : Hid (r = (xs[k], true)) := by
        show _ = _
        rw [hr, byNameR, if_pos hg, find_idx (j := 0) hk (by unfold idxOf at e0; rw [e0]; simp)]
      clear hr HV e0 hp hrange
      subst hvk
      go_wp2_with fail
      refine (Hv.out w1 hb01).mono ?_
      rintro e w2 ⟨rfl, hb2⟩
      have hbE := btr hb01 hb2
      have hoE := own_below ho1 hb2
      obtain ⟨b, off, rfl, c0, c1, c2, c3, c4, c5, c6⟩ := Rd.rul (hx1.below hbE) hk
      generalize xs[k] = s at *
      have hkI : (k : Int) < (xs.length : Int) := by omega
      obtain ⟨u0, f0⟩ := own_some hoE (0) (by decide)
      have z0 := hoE.frozenAt (0)
      obtain ⟨u1, f1⟩ := own_some hoE (1) (by decide)
      have z1 := hoE.frozenAt (1)
      obtain ⟨u2, f2⟩ := own_some hoE (2) (by decide)
      have z2 := hoE.frozenAt (2)
      obtain ⟨u3, f3⟩ := own_some hoE (3) (by decide)
      have z3 := hoE.frozenAt (3)
      obtain ⟨u4, f4⟩ := own_some hoE (4) (by decide)
      have z4 := hoE.frozenAt (4)
      obtain ⟨u5, f5⟩ := own_some hoE (5) (by decide)
      have z5 := hoE.frozenAt (5)
      obtain ⟨u6, f6⟩ := own_some hoE (6) (by decide)
      have z6 := hoE.frozenAt (6)
      go_wp2
      exact bodyPost_ret (v := .tuple #[.agg #[.int .i64 s.id, .string s.name, .int .i64 s.rank, .bool s.sec, .bool s.deb, .bool s.am, .int .i64 s.need], .bool true]) (by simp [results, Try.results19, go_sem, f0, f1, f2, f3, f4, f5, f6]) rfl ⟨by rw [Hr.out], (((((((hbE).setCell (by simp) _).setCell (by simp) _).setCell (by simp) _).setCell (by simp) _).setCell (by simp) _).setCell (by simp) _).setCell (by simp) _⟩
  · have hg' : goodRul xs = false := by simpa using hg
    have Hr : Hid (r = (noRul, false)) := by
      show _ = _
      rw [hr, byNameR, if_neg hg]
    clear hr hg HV
    go_wp2_with fail
    refine (Hv.out w1 hb01).mono ?_
    rintro e w2 ⟨rfl, hb2⟩
    have hbE := btr hb01 hb2
    have hoE := own_below ho1 hb2
    obtain ⟨u0, f0⟩ := own_some hoE (0) (by decide)
    have z0 := hoE.frozenAt (0)
    obtain ⟨u1, f1⟩ := own_some hoE (1) (by decide)
    have z1 := hoE.frozenAt (1)
    obtain ⟨u2, f2⟩ := own_some hoE (2) (by decide)
    have z2 := hoE.frozenAt (2)
    obtain ⟨u3, f3⟩ := own_some hoE (3) (by decide)
    have z3 := hoE.frozenAt (3)
    obtain ⟨u4, f4⟩ := own_some hoE (4) (by decide)
    have z4 := hoE.frozenAt (4)
    obtain ⟨u5, f5⟩ := own_some hoE (5) (by decide)
    have z5 := hoE.frozenAt (5)
    obtain ⟨u6, f6⟩ := own_some hoE (6) (by decide)
    have z6 := hoE.frozenAt (6)
    go_wp2
    exact bodyPost_ret (v := .tuple #[.agg #[.int .i64 0, .string ⟨#[]⟩, .int .i64 0, .bool false, .bool false, .bool false, .int .i64 0], .bool false]) (by simp [results, Try.results19, go_sem, f0, f1, f2, f3, f4, f5, f6]) rfl ⟨by rw [Hr.out]; rfl, (((((((hbE).setCell (by simp) _).setCell (by simp) _).setCell (by simp) _).setCell (by simp) _).setCell (by simp) _).setCell (by simp) _).setCell (by simp) _⟩
theorem find_at {α : Type} {p : α → Bool} {xs : List α} {k : Nat} (hk : k < xs.length) : (xs.drop k).find? p = if p xs[k] = true then some xs[k] else (xs.drop (k + 1)).find? p := by
  rw [List.drop_eq_getElem_cons hk]
  by_cases h : p xs[k] = true
  · rw [if_pos h, List.find?_cons_of_pos h]
  · rw [if_neg h, List.find?_cons_of_neg h]
set_option maxHeartbeats 1000000 in
theorem specByName_any (A : Option Addr) (c : Nat) (xs : List Rul) (t : ByteArray) (w : World) (hn : xs.length ≤ maxLen) (hlc : xs.length ≤ c) (hx : Rd w A (rulCells xs)) (hs : ∀ s ∈ xs, s.name.size ≤ maxLen) (_ : t.size ≤ maxLen) :
    Calls Try.prog 18 #[.slice A xs.length c, .string t] w fun e w' => e = .returned (.tuple #[.agg #[.int .i64 (byNameR xs t).1.id, .string (byNameR xs t).1.name, .int .i64 (byNameR xs t).1.rank, .bool (byNameR xs t).1.sec, .bool (byNameR xs t).1.deb, .bool (byNameR xs t).1.am, .int .i64 (byNameR xs t).1.need], .bool (byNameR xs t).2]) ∧ Below w.heap.size w w' := by
  obtain ⟨r, hr⟩ : ∃ r, r = byNameR xs t := ⟨_, rfl⟩
  rw [← hr]
  have Hv : Hid (∀ w1, Below w.heap.size w w1 → Calls Try.prog 36 #[.slice A xs.length c] w1 fun e w' => e = .returned (.bool (goodRul xs)) ∧ Below w1.heap.size w1 w') :=
    fun w1 hb => l2Good_any A c xs w1 hn hlc (hx.below hb) hs
  have hb0 := bnew (Below.refl w.heap.size w) (.cells #[.int .i64 0, .string ⟨#[]⟩, .int .i64 0, .bool false, .bool false, .bool false, .int .i64 0] 26)
  have ho0 := own_lit (e := 26) (size := 7) (B := w.heap.size) (w := w) #[.int .i64 0, .string ⟨#[]⟩, .int .i64 0, .bool false, .bool false, .bool false, .int .i64 0] 1 (by simp) (by unfold maxLen; omega) rfl
  have hx1 := hx
  clear hs hx
  unfold maxLen at hn
  by_cases hg : goodRul xs = true
  · have Hr : Hid (r = match xs.find? (fun s => s.name.toList == t.toList) with | some s => (s, true) | none => (noRul, false)) := by
      show _ = _
      rw [hr, byNameR, if_pos hg]
    clear hr
    go_enter Try.func18, Try.ntmps18
    go_wp2_with fail
    generalize w.alloc (.cells #[.int .i64 0, .string ⟨#[]⟩, .int .i64 0, .bool false, .bool false, .bool false, .int .i64 0] 26) = w0 at *
    refine (Hv.out w0 hb0).mono ?_
    rintro e w1 ⟨rfl, hb1⟩
    have hbE := btr hb0 hb1
    have ho1 := own_below ho0 hb1
    clear ho0 hb0 hb1
    obtain ⟨u0, f0⟩ := own_some ho1 (0) (by decide)
    have z0 := ho1.frozenAt (0)
    obtain ⟨u1, f1⟩ := own_some ho1 (1) (by decide)
    have z1 := ho1.frozenAt (1)
    obtain ⟨u2, f2⟩ := own_some ho1 (2) (by decide)
    have z2 := ho1.frozenAt (2)
    obtain ⟨u3, f3⟩ := own_some ho1 (3) (by decide)
    have z3 := ho1.frozenAt (3)
    obtain ⟨u4, f4⟩ := own_some ho1 (4) (by decide)
    have z4 := ho1.frozenAt (4)
    obtain ⟨u5, f5⟩ := own_some ho1 (5) (by decide)
    have z5 := ho1.frozenAt (5)
    obtain ⟨u6, f6⟩ := own_some ho1 (6) (by decide)
    have z6 := ho1.frozenAt (6)
    have hxE := hx1.below hbE
    clear ho1 hx1 Hv
    go_wp2
    go_loopw [6] (fun i wr => ∃ k : Nat, k ≤ xs.length ∧ i = .int .i64 k ∧ wr = w1 ∧ Hid (xs.find? (fun s => s.name.toList == t.toList) = (xs.drop k).find? (fun s => s.name.toList == t.toList))) (fun i _ => xs.length - (intOf i).toNat)
    case atStart => exact ⟨0, by omega, rfl, rfl, rfl⟩
    case round =>
      obtain ⟨k, hk, rfl, rfl, H⟩ := hrel
      by_cases hlt : k < xs.length
      · obtain ⟨b, off, rfl, c0, c1, c2, c3, c4, c5, c6⟩ := Rd.rul hxE hlt
        have Hn := Lib.hid (H.out.trans (find_at hlt))
        clear H
        generalize xs[k] = s at *
        by_cases hp : (s.name.toList == t.toList) = true
        · replace Hr : Hid (r = (s, true)) := Hr.out.trans (by rw [Hn.out, if_pos hp])
          clear Hn
          go_wp2
          exact bodyPost_ret (v := .tuple #[.agg #[.int .i64 s.id, .string s.name, .int .i64 s.rank, .bool s.sec, .bool s.deb, .bool s.am, .int .i64 s.need], .bool true]) (by simp [results, Try.results18, go_sem, f0, f1, f2, f3, f4, f5, f6]) rfl ⟨by rw [Hr.out], (((((((hbE).setCell (by simp) _).setCell (by simp) _).setCell (by simp) _).setCell (by simp) _).setCell (by simp) _).setCell (by simp) _).setCell (by simp) _⟩
        · have hp' : (s.name.toList == t.toList) = false := by simpa using hp
          have Hm := Lib.hid (Hn.out.trans (if_neg hp))
          clear Hn hp
          go_wp2
          go_roundw
          case rel => exact ⟨k + 1, by omega, by go_num, trivial, Hm⟩
          case measure => simp [intOf]; omega
      · replace Hr : Hid (r = (noRul, false)) := Hr.out.trans (by rw [H.out, List.drop_eq_nil_of_le (by omega)]; rfl)
        clear H
        go_wp2
        exact bodyPost_ret (v := .tuple #[.agg #[.int .i64 0, .string ⟨#[]⟩, .int .i64 0, .bool false, .bool false, .bool false, .int .i64 0], .bool false]) (by simp [results, Try.results18, go_sem, f0, f1, f2, f3, f4, f5, f6]) rfl ⟨by rw [Hr.out]; rfl, (((((((hbE).setCell (by simp) _).setCell (by simp) _).setCell (by simp) _).setCell (by simp) _).setCell (by simp) _).setCell (by simp) _).setCell (by simp) _⟩
  · have hg' : goodRul xs = false := by simpa using hg
    have Hr : Hid (r = (noRul, false)) := by
      show _ = _
      rw [hr, byNameR, if_neg hg]
    clear hr hg
    go_enter Try.func18, Try.ntmps18
    go_wp2_with fail
    generalize w.alloc (.cells #[.int .i64 0, .string ⟨#[]⟩, .int .i64 0, .bool false, .bool false, .bool false, .int .i64 0] 26) = w0 at *
    refine (Hv.out w0 hb0).mono ?_
    rintro e w1 ⟨rfl, hb1⟩
    have hbE := btr hb0 hb1
    have ho1 := own_below ho0 hb1
    obtain ⟨u0, f0⟩ := own_some ho1 (0) (by decide)
    have z0 := ho1.frozenAt (0)
    obtain ⟨u1, f1⟩ := own_some ho1 (1) (by decide)
    have z1 := ho1.frozenAt (1)
    obtain ⟨u2, f2⟩ := own_some ho1 (2) (by decide)
    have z2 := ho1.frozenAt (2)
    obtain ⟨u3, f3⟩ := own_some ho1 (3) (by decide)
    have z3 := ho1.frozenAt (3)
    obtain ⟨u4, f4⟩ := own_some ho1 (4) (by decide)
    have z4 := ho1.frozenAt (4)
    obtain ⟨u5, f5⟩ := own_some ho1 (5) (by decide)
    have z5 := ho1.frozenAt (5)
    obtain ⟨u6, f6⟩ := own_some ho1 (6) (by decide)
    have z6 := ho1.frozenAt (6)
    go_wp2
    exact bodyPost_ret (v := .tuple #[.agg #[.int .i64 0, .string ⟨#[]⟩, .int .i64 0, .bool false, .bool false, .bool false, .int .i64 0], .bool false]) (by simp [results, Try.results18, go_sem, f0, f1, f2, f3, f4, f5, f6]) rfl ⟨by rw [Hr.out]; rfl, (((((((hbE).setCell (by simp) _).setCell (by simp) _).setCell (by simp) _).setCell (by simp) _).setCell (by simp) _).setCell (by simp) _).setCell (by simp) _⟩
end Go.Proofs.Ytfcpdiplmbagjaa
