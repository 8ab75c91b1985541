/-
  Contracts of ChangeRank. Conditions: lengths within Go's range.
-/
import Derived.Test.YtljbllinlhgklaaRul3
import Derived.Test.YtljbllinlhgklaaFindRul
namespace Go.My
open Go.RowKit
theorem flat_set {α : Type} (f : α → List Value) (m : Nat) (hf : ∀ x, (f x).length = m) (xs : List α) (k j : Nat) (v : Value) (hk : k < xs.length) (hj : j < m) (s : α) (h : (f xs[k]).set j v = f s) :
    (xs.flatMap f).set (k * m + j) v = (xs.set k s).flatMap f := by
  induction xs generalizing k with
  | nil => simp at hk
  | cons x r ih =>
    cases k with
    | zero =>
      simp only [List.flatMap_cons, List.set_cons_zero, Nat.zero_mul, Nat.zero_add, List.getElem_cons_zero] at h ⊢
      rw [List.set_append_left _ _ (by rw [hf]; exact hj), h]
    | succ k =>
      simp only [List.flatMap_cons, List.set_cons_succ, List.getElem_cons_succ] at h ⊢
      rw [List.set_append_right _ _ (by rw [hf, Nat.add_mul]; omega), hf, show (k + 1) * m + j - m = k * m + j by rw [Nat.add_mul]; omega, ih k (by simpa using hk) h]

theorem set_same {α : Type} {L : List α} {p : Nat} {v : α} (h : L[p]? = some v) : L.set p v = L := by
  obtain ⟨hl, rfl⟩ := List.getElem?_eq_some_iff.1 h
  exact List.set_getElem_self hl
def rankAt (s : Rul) (t : Int) : Rul := ⟨s.id, s.name, t, s.sec, s.deb, s.am, s.need⟩
def chL (xs : List Rul) (k : Nat) (t : Int) : List Rul := match xs[k]? with
  | some s => xs.set k (rankAt s t)
  | none => xs
theorem chL_eq {xs : List Rul} {k : Nat} (hk : k < xs.length) (t : Int) : chL xs k t = xs.set k (rankAt xs[k] t) := by simp [chL, List.getElem?_eq_getElem hk]
theorem chL_len (xs : List Rul) (k : Nat) (t : Int) : (chL xs k t).length = xs.length := by
  unfold chL; split <;> simp
theorem chL_name {xs : List Rul} {k : Nat} {t : Int} : ∀ y ∈ chL xs k t, ∃ s ∈ xs, y.name = s.name := by
  unfold chL
  split
  · rename_i s hs
    intro y hy
    rcases List.mem_or_eq_of_mem_set hy with hy | rfl
    · exact ⟨y, hy, rfl⟩
    · exact ⟨s, List.mem_of_getElem? hs, rfl⟩
  · exact fun y hy => ⟨y, hy, rfl⟩
def chR (xs : List Rul) (i t : Int) : List Rul × Bool :=
  if (goodRul xs && decide (0 ≤ idxOf (fun s : Rul => s.id == i) xs)) = true then (if goodRul (chL xs (idxOf (fun s : Rul => s.id == i) xs).toNat t) = true then (chL xs (idxOf (fun s : Rul => s.id == i) xs).toNat t, true) else ([], false)) else ([], false)
theorem rulCells_get (xs : List Rul) (k j : Nat) (hk : k < xs.length) (hj : j < 7) : (rulCells xs)[k * 7 + j]? = xs[k].cells[j]? := flat_get Rul.cells 7 (fun _ => rfl) xs k j hk hj
theorem rulCells_setrank (xs : List Rul) (k : Nat) (t : Int) (hk : k < xs.length) : (rulCells xs).set (k * 7 + 2) (.int .i64 t) = rulCells (xs.set k (rankAt xs[k] t)) :=
  flat_set Rul.cells 7 (fun _ => rfl) xs k 2 _ hk (by decide) _ rfl
theorem rulCells_setall (xs : List Rul) (k : Nat) (t : Int) (hk : k < xs.length) : ((((((((rulCells xs).set (k * 7) (.int .i64 xs[k].id)).set (k * 7 + 1) (.string xs[k].name)).set (k * 7 + 2) (.int .i64 t)).set (k * 7 + 3) (.bool xs[k].sec)).set (k * 7 + 4) (.bool xs[k].deb)).set (k * 7 + 5) (.bool xs[k].am)).set (k * 7 + 6) (.int .i64 xs[k].need)) = rulCells (xs.set k (rankAt xs[k] t)) := by
  have hk2 : k < (xs.set k (rankAt xs[k] t)).length := by simpa using hk
  have e : (xs.set k (rankAt xs[k] t))[k] = rankAt xs[k] t := by simp
  rw [set_same (p := k * 7) ((rulCells_get xs k 0 hk (by decide)).trans rfl), set_same (p := k * 7 + 1) ((rulCells_get xs k 1 hk (by decide)).trans rfl), rulCells_setrank xs k t hk]
  rw [set_same (p := k * 7 + 3) ((rulCells_get _ k 3 hk2 (by decide)).trans (by rw [e]; rfl)), set_same (p := k * 7 + 4) ((rulCells_get _ k 4 hk2 (by decide)).trans (by rw [e]; rfl)), set_same (p := k * 7 + 5) ((rulCells_get _ k 5 hk2 (by decide)).trans (by rw [e]; rfl)), set_same (p := k * 7 + 6) ((rulCells_get _ k 6 hk2 (by decide)).trans (by rw [e]; rfl))]
end Go.My
namespace Go.Proofs.Ytljbllinlhgklaa
open Go.RowKit Go.My
set_option maxHeartbeats 4000000 in
theorem change_any (A : Option Addr) (c : Nat) (xs : List Rul) (i t : Int) (w : World) (hn : xs.length ≤ maxLen) (hlc : xs.length ≤ c) (hx : Rd w A (rulCells xs)) (hs : ∀ y ∈ xs, y.name.size ≤ maxLen) :
    Calls Try.prog 9 #[.slice A xs.length c, .int .i64 i, .int .i64 t] w fun en w' => ∃ A' c', en = .returned (.tuple #[.slice A' (chR xs i t).1.length c', .bool (chR xs i t).2]) ∧ w'.ownsRow w.heap.size 35 7 (.slice A' (chR xs i t).1.length c') (chR xs i t).1.length (rulCells (chR xs i t).1) ∧ Below w.heap.size w w' := by
  obtain ⟨r, hr⟩ : ∃ r, r = chR xs i t := ⟨_, rfl⟩
  rw [← hr]
  have Hx := Lib.hid (ruleIndex_any A c xs i w hn hx)
  have Hv : Hid (∀ w1, Below w.heap.size w w1 → Calls Try.prog 25 #[.slice A xs.length c] w1 fun e w' => e = .returned (.bool (goodRul xs)) ∧ Below w1.heap.size w1 w') :=
    fun w1 hb => isRules_any A c xs w1 hn hlc (hx.below hb) hs
  obtain ⟨v, hv⟩ : ∃ v, v = idxOf (fun s : Rul => s.id == i) xs := ⟨_, rfl⟩
  unfold chR at hr
  rw [← hv] at hr Hx
  have HV := Lib.hid hv
  have HRE := Lib.hid hr
  clear hv hr
  by_cases hg : goodRul xs = true
  · have h12 := goodRul_len' hg
    by_cases hi : v < 0
    · have HR : Hid (r = ([], false)) := HRE.out.trans (if_neg (by simp; omega))
      have hid : decide (v < 0) = true := by simpa using hi
      clear HRE hx hn hs
      go_enter Try.func9, Try.ntmps9
      go_wp2_with (first | (go_at_call 24; refine Hx.out.mono ?_; rintro en w1 ⟨rfl, hb1⟩) | (go_at_call 25; refine (Hv.out w1 hb1).mono ?_; rintro en w2 ⟨rfl, hb2⟩; have hb02 := btr hb1 hb2))
      exact bodyPost_ret (v := .tuple #[.slice none 0 0, .bool false]) (by simp [results, Try.results9, go_sem]) rfl ⟨none, 0, by rw [HR.out]; rfl, by rw [HR.out]; exact own_nil, hb02⟩
    · obtain ⟨k, hk, e0, hp⟩ := idxOf_get (p := fun s : Rul => s.id == i) (xs := xs) (by have := HV.out; omega)
      have hvk : v = (k : Int) := HV.out.trans e0
      clear e0 hp HV hi
      subst hvk
      have HR0 : Hid (r = if goodRul (chL xs k t) = true then (chL xs k t, true) else ([], false)) := HRE.out.trans (by rw [if_pos (by simp [hg])]; rfl)
      have HYL := Lib.hid (chL_len xs k t)
      have Hsz : Hid (∀ y ∈ chL xs k t, y.name.size ≤ maxLen) := by
        intro y hy
        obtain ⟨s, hs', e⟩ := chL_name y hy
        rw [e]; exact hs s hs'
      have HC : Hid (rulCells (chL xs k t) = rulCells (xs.set k (rankAt xs[k] t))) := by show _ = _; rw [chL_eq hk]
      clear HRE hn hs
      generalize chL xs k t = ys at *
      have hl0 := rulCells_len xs
      have h10 := rulCells_one xs
      have hkI : (k : Int) < (xs.length : Int) := by omega
      go_enter Try.func9, Try.ntmps9
      go_wp2_with fail
      refine Hx.out.mono ?_
      rintro en w1 ⟨rfl, hb1⟩
      go_wp2_with fail
      refine (Hv.out w1 hb1).mono ?_
      rintro en w2 ⟨rfl, hb2⟩
      have hb02 := btr hb1 hb2
      go_wp2_with (
        at_builtin
        refine wpl_app rfl (.tmp 20) (.tmp 21) 24 rfl el_Rul (v := .slice (some ⟨w2.heap.size, 0, none⟩) 0 0) rfl (own_lit (e := 35) (size := 7) (B := w2.heap.size) (w := w2) #[] 0 (Nat.le_refl _) (by unfold maxLen; omega) rfl) rfl hl0 ((hx.below hb02).alloc (.cells #[] 35)) h10 (by unfold maxLen; omega) (by omega) (by simp) ?_
        intro A1 c1 w3 ho1 hg1 _
        have hb3 : Below w2.heap.size w2 w3 := ((bnew (Below.refl w2.heap.size w2) (.cells #[] 35)).grown hg1 (by simp) (fun q hq => by simp [Value.ownBlock] at hq; omega))
        simp only [Nat.zero_add, List.nil_append] at ho1
        obtain ⟨g, rfl, hgB, hgs⟩ := own_at ho1 (by omega)
        have HL := HYL.out
        have hy8 : ys.length ≤ 8 := by omega
        have f2 : w3.cell? ⟨g, k * 7 + 2, none⟩ = some (.int .i64 xs[k].rank) := by
          have hl : k * 7 + 2 < (rulCells xs).length := by omega
          rw [own_cell ho1 hl, ← List.getElem?_eq_getElem hl, rulCells_get xs k 2 hk (by decide)]; rfl
        have z2 := ho1.frozenAt (k * 7 + 2)
        have ho5 := own_set ho1 (k * 7 + 2) (.int .i64 t)
        rw [rulCells_setrank xs k t hk, ← HC.out, ← HL] at ho5
        have hb5 : Below w2.heap.size w2 (w3.setCell ⟨g, k * 7 + 2, none⟩ (.int .i64 t)) := hb3.setCell hgB _
        have hle := own_le ho5
        have hR := own_rd ho5
        clear HC ho1 hl0 h10)
      generalize w3.setCell ⟨g, k * 7 + 2, none⟩ (.int .i64 t) = w5 at *
      by_cases hgy : goodRul ys = true
      · have HR : Hid (r = (ys, true)) := HR0.out.trans (if_pos hgy)
        clear HR0
        rw [← HL]
        refine (asRules_yes (some ⟨g, 0, none⟩) c1 ys w5 (by unfold maxLen; omega) hle hR Hsz.out hgy).mono ?_
        rintro en w6 ⟨rfl, hb6⟩
        go_wp2
        exact bodyPost_ret (v := .tuple #[.slice (some ⟨g, 0, none⟩) ys.length c1, .bool true]) (by simp [results, Try.results9, go_sem] <;> omega) rfl ⟨some ⟨g, 0, none⟩, c1, by rw [HR.out], by rw [HR.out]; exact own_base (own_below ho5 hb6) hb02.size, btr hb02 (btr hb5 hb6)⟩
      · have HR : Hid (r = ([], false)) := HR0.out.trans (if_neg hgy)
        have hgy1 : goodRul ys = false := by simpa using hgy
        clear HR0 hgy
        rw [← HL]
        refine (asRules_no (some ⟨g, 0, none⟩) c1 ys w5 (by unfold maxLen; omega) hle hR Hsz.out hgy1).mono ?_
        rintro en w6 ⟨rfl, hb6⟩
        go_wp2
        exact bodyPost_ret (v := .tuple #[.slice none 0 0, .bool false]) (by simp [results, Try.results9, go_sem]) rfl ⟨none, 0, by rw [HR.out]; rfl, by rw [HR.out]; exact own_nil, btr hb02 (btr hb5 hb6)⟩
  · have HR : Hid (r = ([], false)) := HRE.out.trans (if_neg (by simp [hg]))
    have hg' : goodRul xs = false := by simpa using hg
    clear HRE hx hn hg hs
    go_enter Try.func9, Try.ntmps9
    go_wp2_with (first | (go_at_call 24; refine Hx.out.mono ?_; rintro en w1 ⟨rfl, hb1⟩) | (go_at_call 25; refine (Hv.out w1 hb1).mono ?_; rintro en w2 ⟨rfl, hb2⟩; have hb02 := btr hb1 hb2))
    exact bodyPost_ret (v := .tuple #[.slice none 0 0, .bool false]) (by simp [results, Try.results9, go_sem]) rfl ⟨none, 0, by rw [HR.out]; rfl, by rw [HR.out]; exact own_nil, hb02⟩
set_option maxHeartbeats 4000000 in
theorem specChange_any (A : Option Addr) (c : Nat) (xs : List Rul) (i t : Int) (w : World) (hn : xs.length ≤ maxLen) (hlc : xs.length ≤ c) (hx : Rd w A (rulCells xs)) (hs : ∀ y ∈ xs, y.name.size ≤ maxLen) :
    Calls Try.prog 7 #[.slice A xs.length c, .int .i64 i, .int .i64 t] w fun en w' => ∃ A' c', en = .returned (.tuple #[.slice A' (chR xs i t).1.length c', .bool (chR xs i t).2]) ∧ w'.ownsRow w.heap.size 35 7 (.slice A' (chR xs i t).1.length c') (chR xs i t).1.length (rulCells (chR xs i t).1) ∧ Below w.heap.size w w' := by
  obtain ⟨r, hr⟩ : ∃ r, r = chR xs i t := ⟨_, rfl⟩
  rw [← hr]
  have Hx := Lib.hid (findRul_any A c xs i w hn hx)
  have Hv : Hid (∀ w1, Below w.heap.size w w1 → Calls Try.prog 23 #[.slice A xs.length c] w1 fun e w' => e = .returned (.bool (goodRul xs)) ∧ Below w1.heap.size w1 w') :=
    fun w1 hb => l2Good_any A c xs w1 hn hlc (hx.below hb) hs
  obtain ⟨v, hv⟩ : ∃ v, v = idxOf (fun s : Rul => s.id == i) xs := ⟨_, rfl⟩
  unfold chR at hr
  rw [← hv] at hr Hx
  have HV := Lib.hid hv
  have HRE := Lib.hid hr
  clear hv hr
  by_cases hg : goodRul xs = true
  · have h12 := goodRul_len' hg
    by_cases hi : v < 0
    · have HR : Hid (r = ([], false)) := HRE.out.trans (if_neg (by simp; omega))
      have hid : decide (v < 0) = true := by simpa using hi
      clear HRE hx hn hs
      go_enter Try.func7, Try.ntmps7
      go_wp2_with (first | (go_at_call 22; refine Hx.out.mono ?_; rintro en w1 ⟨rfl, hb1⟩) | (go_at_call 23; refine (Hv.out w1 hb1).mono ?_; rintro en w2 ⟨rfl, hb2⟩; have hb02 := btr hb1 hb2))
      exact bodyPost_ret (v := .tuple #[.slice (some ⟨w2.heap.size, 0, none⟩) 0 0, .bool false]) (by simp [results, Try.results7, go_sem]) rfl ⟨some ⟨w2.heap.size, 0, none⟩, 0, by rw [HR.out]; rfl, by rw [HR.out]; exact own_lit (e := 35) (size := 7) (w := w2) #[] 0 hb02.size (by unfold maxLen; omega) rfl, bnew hb02 _⟩
    · obtain ⟨k, hk, e0, hp⟩ := idxOf_get (p := fun s : Rul => s.id == i) (xs := xs) (by have := HV.out; omega)
      have hvk : v = (k : Int) := HV.out.trans e0
      clear e0 hp HV hi
      subst hvk
      have HR0 : Hid (r = if goodRul (chL xs k t) = true then (chL xs k t, true) else ([], false)) := HRE.out.trans (by rw [if_pos (by simp [hg])]; rfl)
      have HYL := Lib.hid (chL_len xs k t)
      have Hsz : Hid (∀ y ∈ chL xs k t, y.name.size ≤ maxLen) := by
        intro y hy
        obtain ⟨s, hs', e⟩ := chL_name y hy
        rw [e]; exact hs s hs'
      have HC : Hid (rulCells (chL xs k t) = rulCells (xs.set k (rankAt xs[k] t))) := by show _ = _; rw [chL_eq hk]
      clear HRE hn hs
      generalize chL xs k t = ys at *
      have hl0 := rulCells_len xs
      have h10 := rulCells_one xs
      have hkI : (k : Int) < (xs.length : Int) := by omega
      go_enter Try.func7, Try.ntmps7
      go_wp2_with fail
      refine Hx.out.mono ?_
      rintro en w1 ⟨rfl, hb1⟩
      go_wp2_with fail
      refine (Hv.out w1 hb1).mono ?_
      rintro en w2 ⟨rfl, hb2⟩
      have hb02 := btr hb1 hb2
      go_wp2_with (
        at_builtin
        refine wpl_app rfl (.tmp 22) (.tmp 23) 24 rfl el_Rul (v := .slice (some ⟨w2.heap.size, 0, none⟩) 0 0) rfl (own_lit (e := 35) (size := 7) (B := w2.heap.size) (w := w2) #[] 0 (Nat.le_refl _) (by unfold maxLen; omega) rfl) rfl hl0 ((hx.below hb02).alloc (.cells #[] 35)) h10 (by unfold maxLen; omega) (by omega) (by simp) ?_
        intro A1 c1 w3 ho1 hg1 _
        have hb3 : Below w2.heap.size w2 w3 := ((bnew (Below.refl w2.heap.size w2) (.cells #[] 35)).grown hg1 (by simp) (fun q hq => by simp [Value.ownBlock] at hq; omega))
        simp only [Nat.zero_add, List.nil_append] at ho1
        obtain ⟨g, rfl, hgB, hgs⟩ := own_at ho1 (by omega)
        have HL := HYL.out
        have hy8 : ys.length ≤ 8 := by omega
        obtain ⟨s, hse⟩ : ∃ s, s = xs[k] := ⟨_, rfl⟩
        have Hget : Hid (∀ j, j < 7 → (rulCells xs)[k * 7 + j]? = s.cells[j]?) := fun j hj => by rw [hse]; exact rulCells_get xs k j hk hj
        have Hset := Lib.hid (rulCells_setall xs k t hk)
        rw [← hse] at HC Hset
        clear hse
        have f0 : w3.cell? ⟨g, k * 7, none⟩ = some (.int .i64 s.id) := by
          have hl : k * 7 < (rulCells xs).length := by omega
          rw [own_cell ho1 hl, ← List.getElem?_eq_getElem hl]; exact (Hget.out 0 (by decide)).trans rfl
        have f1 : w3.cell? ⟨g, k * 7 + 1, none⟩ = some (.string s.name) := by
          have hl : k * 7 + 1 < (rulCells xs).length := by omega
          rw [own_cell ho1 hl, ← List.getElem?_eq_getElem hl]; exact (Hget.out 1 (by decide)).trans rfl
        have f2 : w3.cell? ⟨g, k * 7 + 2, none⟩ = some (.int .i64 s.rank) := by
          have hl : k * 7 + 2 < (rulCells xs).length := by omega
          rw [own_cell ho1 hl, ← List.getElem?_eq_getElem hl]; exact (Hget.out 2 (by decide)).trans rfl
        have f3 : w3.cell? ⟨g, k * 7 + 3, none⟩ = some (.bool s.sec) := by
          have hl : k * 7 + 3 < (rulCells xs).length := by omega
          rw [own_cell ho1 hl, ← List.getElem?_eq_getElem hl]; exact (Hget.out 3 (by decide)).trans rfl
        have f4 : w3.cell? ⟨g, k * 7 + 4, none⟩ = some (.bool s.deb) := by
          have hl : k * 7 + 4 < (rulCells xs).length := by omega
          rw [own_cell ho1 hl, ← List.getElem?_eq_getElem hl]; exact (Hget.out 4 (by decide)).trans rfl
        have f5 : w3.cell? ⟨g, k * 7 + 5, none⟩ = some (.bool s.am) := by
          have hl : k * 7 + 5 < (rulCells xs).length := by omega
          rw [own_cell ho1 hl, ← List.getElem?_eq_getElem hl]; exact (Hget.out 5 (by decide)).trans rfl
        have f6 : w3.cell? ⟨g, k * 7 + 6, none⟩ = some (.int .i64 s.need) := by
          have hl : k * 7 + 6 < (rulCells xs).length := by omega
          rw [own_cell ho1 hl, ← List.getElem?_eq_getElem hl]; exact (Hget.out 6 (by decide)).trans rfl
        have z0 := ho1.frozenAt (k * 7)
        have z1 := ho1.frozenAt (k * 7 + 1)
        have z2 := ho1.frozenAt (k * 7 + 2)
        have z3 := ho1.frozenAt (k * 7 + 3)
        have z4 := ho1.frozenAt (k * 7 + 4)
        have z5 := ho1.frozenAt (k * 7 + 5)
        have z6 := ho1.frozenAt (k * 7 + 6)
        have ho5 := own_below (own_set (own_set (own_set (own_set (own_set (own_set (own_set ho1 (k * 7) (.int .i64 s.id)) (k * 7 + 1) (.string s.name)) (k * 7 + 2) (.int .i64 t)) (k * 7 + 3) (.bool s.sec)) (k * 7 + 4) (.bool s.deb)) (k * 7 + 5) (.bool s.am)) (k * 7 + 6) (.int .i64 s.need)) (bnew (Below.refl _ _) (.cells #[.int .i64 s.id, .string s.name, .int .i64 t, .bool s.sec, .bool s.deb, .bool s.am, .int .i64 s.need] 35))
        rw [Hset.out, ← HC.out, ← HL] at ho5
        have hb5 : Below w2.heap.size w2 ((((((((w3.setCell ⟨g, k * 7, none⟩ (.int .i64 s.id)).setCell ⟨g, k * 7 + 1, none⟩ (.string s.name)).setCell ⟨g, k * 7 + 2, none⟩ (.int .i64 t)).setCell ⟨g, k * 7 + 3, none⟩ (.bool s.sec)).setCell ⟨g, k * 7 + 4, none⟩ (.bool s.deb)).setCell ⟨g, k * 7 + 5, none⟩ (.bool s.am)).setCell ⟨g, k * 7 + 6, none⟩ (.int .i64 s.need)).alloc (.cells #[.int .i64 s.id, .string s.name, .int .i64 t, .bool s.sec, .bool s.deb, .bool s.am, .int .i64 s.need] 35)) := bnew (Below.setCell (p := ⟨g, k * 7 + 6, none⟩) (Below.setCell (p := ⟨g, k * 7 + 5, none⟩) (Below.setCell (p := ⟨g, k * 7 + 4, none⟩) (Below.setCell (p := ⟨g, k * 7 + 3, none⟩) (Below.setCell (p := ⟨g, k * 7 + 2, none⟩) (Below.setCell (p := ⟨g, k * 7 + 1, none⟩) (Below.setCell (p := ⟨g, k * 7, none⟩) hb3 hgB _) hgB _) hgB _) hgB _) hgB _) hgB _) hgB _) (.cells #[.int .i64 s.id, .string s.name, .int .i64 t, .bool s.sec, .bool s.deb, .bool s.am, .int .i64 s.need] 35)
        have hle := own_le ho5
        have hR := own_rd ho5
        clear HC ho1 hl0 h10 Hset Hget)
      generalize ((((((((w3.setCell ⟨g, k * 7, none⟩ (.int .i64 s.id)).setCell ⟨g, k * 7 + 1, none⟩ (.string s.name)).setCell ⟨g, k * 7 + 2, none⟩ (.int .i64 t)).setCell ⟨g, k * 7 + 3, none⟩ (.bool s.sec)).setCell ⟨g, k * 7 + 4, none⟩ (.bool s.deb)).setCell ⟨g, k * 7 + 5, none⟩ (.bool s.am)).setCell ⟨g, k * 7 + 6, none⟩ (.int .i64 s.need)).alloc (.cells #[.int .i64 s.id, .string s.name, .int .i64 t, .bool s.sec, .bool s.deb, .bool s.am, .int .i64 s.need] 35)) = w5 at *
      by_cases hgy : goodRul ys = true
      · have HR : Hid (r = (ys, true)) := HR0.out.trans (if_pos hgy)
        clear HR0
        rw [← HL]
        refine (l2Good_any (some ⟨g, 0, none⟩) c1 ys w5 (by unfold maxLen; omega) hle hR Hsz.out).mono ?_
        rintro en w6 ⟨rfl, hb6⟩
        go_wp2
        exact bodyPost_ret (v := .tuple #[.slice (some ⟨g, 0, none⟩) ys.length c1, .bool true]) (by simp [results, Try.results7, go_sem] <;> omega) rfl ⟨some ⟨g, 0, none⟩, c1, by rw [HR.out], by rw [HR.out]; exact own_base (own_below ho5 hb6) hb02.size, btr hb02 (btr hb5 hb6)⟩
      · have HR : Hid (r = ([], false)) := HR0.out.trans (if_neg hgy)
        have hgy1 : goodRul ys = false := by simpa using hgy
        clear HR0 hgy
        rw [← HL]
        refine (l2Good_any (some ⟨g, 0, none⟩) c1 ys w5 (by unfold maxLen; omega) hle hR Hsz.out).mono ?_
        rintro en w6 ⟨rfl, hb6⟩
        have hb16 := btr hb02 (btr hb5 hb6)
        go_wp2
        exact bodyPost_ret (v := .tuple #[.slice (some ⟨w6.heap.size, 0, none⟩) 0 0, .bool false]) (by simp [results, Try.results7, go_sem]) rfl ⟨some ⟨w6.heap.size, 0, none⟩, 0, by rw [HR.out]; rfl, by rw [HR.out]; exact own_lit (e := 35) (size := 7) (w := w6) #[] 0 hb16.size (by unfold maxLen; omega) rfl, bnew hb16 _⟩
  · have HR : Hid (r = ([], false)) := HRE.out.trans (if_neg (by simp [hg]))
    have hg' : goodRul xs = false := by simpa using hg
    clear HRE hx hn hg hs
    go_enter Try.func7, Try.ntmps7
    go_wp2_with (first | (go_at_call 22; refine Hx.out.mono ?_; rintro en w1 ⟨rfl, hb1⟩) | (go_at_call 23; refine (Hv.out w1 hb1).mono ?_; rintro en w2 ⟨rfl, hb2⟩; have hb02 := btr hb1 hb2))
    exact bodyPost_ret (v := .tuple #[.slice (some ⟨w2.heap.size, 0, none⟩) 0 0, .bool false]) (by simp [results, Try.results7, go_sem]) rfl ⟨some ⟨w2.heap.size, 0, none⟩, 0, by rw [HR.out]; rfl, by rw [HR.out]; exact own_lit (e := 35) (size := 7) (w := w2) #[] 0 hb02.size (by unfold maxLen; omega) rfl, bnew hb02 _⟩
end Go.Proofs.Ytljbllinlhgklaa
