/-
  Contracts of GiveOffice. Conditions: lengths within Go's range.
-/
import Derived.Test.YtidmdppcamgaoaaMemb4
import Derived.Test.YtidmdppcamgaoaaFindMem
namespace Go.My
open Go.RowKit
theorem flat_set {α : Type} (f : α → List Value) (m : Nat) (hf : ∀ x, (f x).length = m) (xs : List α) (k j : Nat) (v : Value) (hk : k < xs.length) (hj : j < m) (s : α) (h : (f xs[k]).set j v = f s) :
    (xs.flatMap f).set (k * m + j) v = (xs.set k s).flatMap f := by
  induction xs generalizing k with
  | nil => simp at hk
  | cons x r ih =>
    cases k with
    | zero =>
      simp only [List.flatMap_cons, List.set_cons_zero, Nat.zero_mul, Nat.zero_add, List.getElem_cons_zero] at h ⊢
      rw [List.set_append_left _ _ (by rw [hf]; exact hj), h]
    | succ k =>
      simp only [List.flatMap_cons, List.set_cons_succ, List.getElem_cons_succ] at h ⊢
      rw [List.set_append_right _ _ (by rw [hf, Nat.add_mul]; omega), hf, show (k + 1) * m + j - m = k * m + j by rw [Nat.add_mul]; omega, ih k (by simpa using hk) h]

def clrM (o : Int) (m : Mem) : Mem := ⟨m.num, m.name, if m.off = o then 0 else m.off⟩
def givM (n o : Int) (m : Mem) : Mem := ⟨m.num, m.name, if m.num = n then o else if m.off = o then 0 else m.off⟩
def clrTo (xs : List Mem) (o : Int) (k : Nat) : List Mem := (xs.take k).map (clrM o) ++ xs.drop k
def giveR (xs : List Mem) (n o : Int) : List Mem × Bool :=
  if (goodMem xs && inB o 0 3 && decide (0 ≤ idxOf (fun s : Mem => s.num == n) xs)) = true then (xs.map (givM n o), true) else ([], false)
theorem clrTo_len (xs : List Mem) (o : Int) (k : Nat) (hk : k ≤ xs.length) : (clrTo xs o k).length = xs.length := by
  simp [clrTo]; omega
theorem clrTo_get {xs : List Mem} {o : Int} {k : Nat} (hk : k < xs.length) (h : k < (clrTo xs o k).length) : (clrTo xs o k)[k] = xs[k] := by
  simp only [clrTo]
  rw [List.getElem_append_right (by simp; omega)]
  simp [Nat.min_eq_left (Nat.le_of_lt hk)]
theorem clrTo_next {xs : List Mem} {o : Int} {k : Nat} (hk : k < xs.length) : clrTo xs o (k + 1) = (clrTo xs o k).set k (clrM o xs[k]) := by
  simp only [clrTo]
  rw [List.take_succ_eq_append_getElem hk, List.drop_eq_getElem_cons hk, List.map_append, List.set_append_right _ _ (by simp; omega), List.append_assoc]
  simp [Nat.min_eq_left (Nat.le_of_lt hk)]
  rw [List.drop_eq_getElem_cons hk]
  rfl
theorem clrTo_same {xs : List Mem} {o : Int} {k : Nat} (hk : k < xs.length) (h : ¬ xs[k].off = o) : clrTo xs o (k + 1) = clrTo xs o k := by
  have e : clrM o xs[k] = xs[k] := by simp [clrM, h]
  rw [clrTo_next hk, e]
  have hl : k < (clrTo xs o k).length := by rw [clrTo_len _ _ _ (by omega)]; exact hk
  have := clrTo_get hk hl
  conv => lhs; rw [← this]
  exact List.set_getElem_self hl
/-- In a valid list the numbers rise. -/
theorem goodPre_asc {α : Type} (key : α → Int) {q : List α → α → Bool} (hq : ∀ pre x, q pre x = true → lastLt key pre x = true) : ∀ (xs pre : List α), pre.Pairwise (fun a b => key a < key b) → goodPre q pre xs = true → (pre ++ xs).Pairwise (fun a b => key a < key b)
  | [], pre, h, _ => by simpa using h
  | x :: r, pre, h, hg => by
    simp only [goodPre, Bool.and_eq_true] at hg
    have h1 : (pre ++ [x]).Pairwise (fun a b => key a < key b) := by
      rw [List.pairwise_append]
      refine ⟨h, by simp, fun a ha b hb => ?_⟩
      simp only [List.mem_singleton] at hb
      subst hb
      have hl := hq pre b hg.1
      unfold lastLt at hl
      cases hp : pre.getLast? with
      | none =>
        have : pre = [] := List.getLast?_eq_none_iff.1 hp
        subst this; simp at ha
      | some y =>
        rw [hp] at hl
        have hy : key y < key b := by simpa using hl
        obtain ⟨ys, rfl⟩ := List.getLast?_eq_some_iff.1 hp
        rcases List.mem_append.1 ha with ha | ha
        · rw [List.pairwise_append] at h
          have := h.2.2 a ha y (by simp)
          omega
        · simp only [List.mem_singleton] at ha
          subst ha; exact hy
    have := goodPre_asc key hq r (pre ++ [x]) h1 hg.2
    simpa using this
theorem goodMem_asc {xs : List Mem} (h : goodMem xs = true) : xs.Pairwise (fun a b => a.num < b.num) := by
  simp only [goodMem, Bool.and_eq_true] at h
  have := goodPre_asc Mem.num (q := memFits) (fun pre x hq => by simp only [memFits, Bool.and_eq_true] at hq; exact hq.1.2) xs [] (by simp) h.1
  simpa using this
theorem giv_eq {xs : List Mem} {n o : Int} {k : Nat} (h : xs.Pairwise (fun a b => a.num < b.num)) (hk : k < xs.length) (hn : xs[k].num = n) :
    (clrTo xs o xs.length).set k ⟨xs[k].num, xs[k].name, o⟩ = xs.map (givM n o) := by
  simp only [clrTo, List.take_length, List.drop_length, List.append_nil]
  apply List.ext_getElem (by simp)
  intro j h1 h2
  have hj : j < xs.length := by simpa using h2
  rw [List.getElem_set]
  by_cases e : k = j
  · subst e
    simp [givM, hn]
  · rw [if_neg e]
    have hne : ¬ xs[j].num = n := by
      rw [List.pairwise_iff_getElem] at h
      rcases Nat.lt_or_ge k j with hlt | hge
      · have := h k j hk hj hlt; omega
      · have := h j k hj hk (by omega); omega
    simp [givM, clrM, hne]
theorem memCells_setoff (xs : List Mem) (k : Nat) (v : Int) (hk : k < xs.length) : (memCells xs).set (k * 3 + 2) (.int .i64 v) = memCells (xs.set k ⟨xs[k].num, xs[k].name, v⟩) :=
  flat_set Mem.cells 3 (fun _ => rfl) xs k 2 _ hk (by decide) _ rfl
end Go.My
namespace Go.Proofs.Ytidmdppcamgaoaa
open Go.RowKit Go.My
set_option maxHeartbeats 4000000 in
theorem give_any (A : Option Addr) (c : Nat) (xs : List Mem) (n t : Int) (w : World) (hn : xs.length ≤ maxLen) (hlc : xs.length ≤ c) (hx : Rd w A (memCells xs)) (hs : ∀ y ∈ xs, y.name.size ≤ maxLen) :
    Calls Try.prog 17 #[.slice A xs.length c, .int .i64 n, .int .i64 t] w fun en w' => ∃ A' c', en = .returned (.tuple #[.slice A' (giveR xs n t).1.length c', .bool (giveR xs n t).2]) ∧ w'.ownsRow w.heap.size 60 3 (.slice A' (giveR xs n t).1.length c') (giveR xs n t).1.length (memCells (giveR xs n t).1) ∧ Below w.heap.size w w' := by
  obtain ⟨r, hr⟩ : ∃ r, r = giveR xs n t := ⟨_, rfl⟩
  rw [← hr]
  have Hx := Lib.hid (memberIndex_any A c xs n w hn hx)
  have Hv : Hid (∀ w1, Below w.heap.size w w1 → Calls Try.prog 31 #[.slice A xs.length c] w1 fun e w' => e = .returned (.bool (goodMem xs)) ∧ Below w1.heap.size w1 w') :=
    fun w1 hb => isMembers_any A c xs w1 hn hlc (hx.below hb) hs
  obtain ⟨v, hv⟩ : ∃ v, v = idxOf (fun s : Mem => s.num == n) xs := ⟨_, rfl⟩
  unfold giveR at hr
  rw [← hv] at hr Hx
  have HV := Lib.hid hv
  have HRE := Lib.hid hr
  clear hv hr hs
  by_cases hg : goodMem xs = true
  · have h12 := goodMem_len' hg
    by_cases hi : v < 0
    · have HR : Hid (r = ([], false)) := HRE.out.trans (if_neg (by simp; omega))
      have hid : decide (v < 0) = true := by simpa using hi
      clear HRE hx hn
      go_enter Try.func17, Try.ntmps17
      go_wp2_with (first | (go_at_call 41; refine Hx.out.mono ?_; rintro en w1 ⟨rfl, hb1⟩) | (go_at_call 31; refine (Hv.out w1 hb1).mono ?_; rintro en w2 ⟨rfl, hb2⟩; have hb02 := btr hb1 hb2) | (go_at_call 46; refine (isOffice_any _ _).mono ?_; rintro en w9 ⟨rfl, rfl⟩))
      exact bodyPost_ret (v := .tuple #[.slice none 0 0, .bool false]) (by simp [results, Try.results17, go_sem]) rfl ⟨none, 0, by rw [HR.out]; rfl, by rw [HR.out]; exact own_nil, hb02⟩
    · obtain ⟨k, hk, e0, hp⟩ := idxOf_get (p := fun s : Mem => s.num == n) (xs := xs) (by have := HV.out; omega)
      have hvk : v = (k : Int) := HV.out.trans e0
      have hpn : xs[k].num = n := by simpa using hp
      clear e0 hp HV hi
      subst hvk
      by_cases hq : inB t 0 3 = true
      · have HR : Hid (r = (xs.map (givM n t), true)) := HRE.out.trans (if_pos (by simp [hg, hq]))
        have HG := Lib.hid (giv_eq (o := t) (goodMem_asc hg) hk hpn)
        clear HRE hn hpn
        have HYL : Hid ((xs.map (givM n t)).length = xs.length) := by show _ = _; simp
        generalize xs.map (givM n t) = ys at *
        have hl0 := memCells_len xs
        have h10 := memCells_one xs
        go_enter Try.func17, Try.ntmps17
        go_wp2_with (first | (go_at_call 41; refine Hx.out.mono ?_; rintro en w1 ⟨rfl, hb1⟩) | (go_at_call 31; refine (Hv.out w1 hb1).mono ?_; rintro en w2 ⟨rfl, hb2⟩; have hb02 := btr hb1 hb2) | (go_at_call 46; refine (isOffice_any _ _).mono ?_; rintro en w9 ⟨rfl, rfl⟩) | (at_builtin; refine wpl_app rfl (.tmp 26) (.tmp 27) 24 rfl el_Mem (v := .slice (some ⟨w2.heap.size, 0, none⟩) 0 0) rfl (own_lit (e := 60) (size := 3) (B := w2.heap.size) (w := w2) #[] 0 (Nat.le_refl _) (by unfold maxLen; omega) rfl) rfl hl0 ((hx.below hb02).alloc (.cells #[] 60)) h10 (by unfold maxLen; omega) (by omega) (by simp) ?_; intro A1 c1 w3 ho1 hg1 _; have hb3 : Below w2.heap.size w2 w3 := ((bnew (Below.refl w2.heap.size w2) (.cells #[] 60)).grown hg1 (by simp) (fun q hq => by simp [Value.ownBlock] at hq; omega)); simp only [Nat.zero_add, List.nil_append] at ho1))
        obtain ⟨g, rfl, hgB, hgs⟩ := own_at ho1 (by omega)
        go_loopw [31] (fun q wr => ∃ j : Nat, j ≤ xs.length ∧ q = .int .i64 (j : Int) ∧ wr.ownsRow w2.heap.size 60 3 (.slice (some ⟨g, 0, none⟩) xs.length c1) xs.length (memCells (clrTo xs t j)) ∧ Below w2.heap.size w2 wr) (fun q _ => xs.length - (intOf q).toNat)
        case atStart => exact ⟨0, by omega, rfl, by simpa [clrTo] using ho1, hb3⟩
        case round =>
          obtain ⟨j, hj, rfl, ho, hb⟩ := hrel
          clear ho1 hb3
          by_cases hlt : j < xs.length
          · have hjI : (j : Int) < (xs.length : Int) := by omega
            have hl2 : j < (clrTo xs t j).length := by rw [clrTo_len _ _ _ hj]; exact hlt
            have hl3 : j * 3 + 2 < (memCells (clrTo xs t j)).length := by rw [memCells_len]; omega
            have Hc : Hid ((memCells (clrTo xs t j))[j * 3 + 2]? = some (.int .i64 xs[j].off)) := (flat_get Mem.cells 3 (fun _ => rfl) (clrTo xs t j) j 2 hl2 (by decide)).trans (by rw [clrTo_get hlt hl2]; rfl)
            have f0 : wr.cell? ⟨g, j * 3 + 2, none⟩ = some (.int .i64 xs[j].off) := by
              rw [own_cell ho hl3]
              have := Hc.out
              rw [List.getElem?_eq_getElem hl3] at this
              exact this
            have z0 := ho.frozenAt (j * 3 + 2)
            by_cases hof : xs[j].off = t
            · have hofb : (xs[j].off == t) = true := by simpa using hof
              have Hn : Hid ((memCells (clrTo xs t j)).set (j * 3 + 2) (.int .i64 0) = memCells (clrTo xs t (j + 1))) := by
                show _ = _
                rw [memCells_setoff _ _ _ hl2, clrTo_next hlt, clrTo_get hlt hl2]
                congr 2
                simp [clrM, hof]
              clear Hc hl3
              generalize xs[j].off = of at *
              clear hof
              go_wp2
              go_roundw
              case rel => exact ⟨j + 1, by omega, by go_num, by have := own_set ho (j * 3 + 2) (.int .i64 0); rwa [Hn.out] at this, hb.setCell hgB _⟩
              case measure => simp [intOf]; omega
            · have hofb : (xs[j].off == t) = false := by simpa using hof
              have Hn := Lib.hid (clrTo_same hlt hof)
              clear Hc hl3
              generalize xs[j].off = of at *
              clear hof
              go_wp2
              go_roundw
              case rel => exact ⟨j + 1, by omega, by go_num, by rw [Hn.out]; exact ho, hb⟩
              case measure => simp [intOf]; omega
          · have hjn : j = xs.length := by omega
            subst hjn
            have hl2 : k < (clrTo xs t xs.length).length := by rw [clrTo_len _ _ _ (Nat.le_refl _)]; exact hk
            have Hn : Hid ((memCells (clrTo xs t xs.length)).set (k * 3 + 2) (.int .i64 t) = memCells ys) := by
              show _ = _
              rw [memCells_setoff _ _ _ hl2, ← HG.out]
              congr 2
              simp [clrTo, clrM]
            have hkI : (k : Int) < (xs.length : Int) := by omega
            obtain ⟨u0, f0⟩ := own_some ho (k * 3 + 2) (by omega)
            have z0 := ho.frozenAt (k * 3 + 2)
            have ho5 := own_set ho (k * 3 + 2) (.int .i64 t)
            rw [Hn.out] at ho5
            have hb5 : Below w2.heap.size w2 (wr.setCell ⟨g, k * 3 + 2, none⟩ (.int .i64 t)) := hb.setCell hgB _
            have HL := HYL.out
            rw [← HL] at ho5
            clear HG Hn
            go_wp2
            exact bodyPost_ret (v := .tuple #[.slice (some ⟨g, 0, none⟩) ys.length c1, .bool true]) (by simp [results, Try.results17, go_sem] <;> omega) rfl ⟨some ⟨g, 0, none⟩, c1, by rw [HR.out], by rw [HR.out]; exact own_base ho5 hb02.size, btr hb02 hb5⟩
      · have HR : Hid (r = ([], false)) := HRE.out.trans (if_neg (by simp [hq]))
        have hq' : inB t 0 3 = false := by simpa using hq
        clear HRE hx hn hq hpn
        go_enter Try.func17, Try.ntmps17
        go_wp2_with (first | (go_at_call 41; refine Hx.out.mono ?_; rintro en w1 ⟨rfl, hb1⟩) | (go_at_call 31; refine (Hv.out w1 hb1).mono ?_; rintro en w2 ⟨rfl, hb2⟩; have hb02 := btr hb1 hb2) | (go_at_call 46; refine (isOffice_any _ _).mono ?_; rintro en w9 ⟨rfl, rfl⟩))
        exact bodyPost_ret (v := .tuple #[.slice none 0 0, .bool false]) (by simp [results, Try.results17, go_sem]) rfl ⟨none, 0, by rw [HR.out]; rfl, by rw [HR.out]; exact own_nil, hb02⟩
  · have HR : Hid (r = ([], false)) := HRE.out.trans (if_neg (by simp [hg]))
    have hg' : goodMem xs = false := by simpa using hg
    clear HRE hx hn hg
    go_enter Try.func17, Try.ntmps17
    go_wp2_with (first | (go_at_call 41; refine Hx.out.mono ?_; rintro en w1 ⟨rfl, hb1⟩) | (go_at_call 31; refine (Hv.out w1 hb1).mono ?_; rintro en w2 ⟨rfl, hb2⟩; have hb02 := btr hb1 hb2) | (go_at_call 46; refine (isOffice_any _ _).mono ?_; rintro en w9 ⟨rfl, rfl⟩))
    exact bodyPost_ret (v := .tuple #[.slice none 0 0, .bool false]) (by simp [results, Try.results17, go_sem]) rfl ⟨none, 0, by rw [HR.out]; rfl, by rw [HR.out]; exact own_nil, hb02⟩
set_option maxHeartbeats 4000000 in
theorem specGive_any (A : Option Addr) (c : Nat) (xs : List Mem) (n t : Int) (w : World) (hn : xs.length ≤ maxLen) (hlc : xs.length ≤ c) (hx : Rd w A (memCells xs)) (hs : ∀ y ∈ xs, y.name.size ≤ maxLen) :
    Calls Try.prog 16 #[.slice A xs.length c, .int .i64 n, .int .i64 t] w fun en w' => ∃ A' c', en = .returned (.tuple #[.slice A' (giveR xs n t).1.length c', .bool (giveR xs n t).2]) ∧ w'.ownsRow w.heap.size 60 3 (.slice A' (giveR xs n t).1.length c') (giveR xs n t).1.length (memCells (giveR xs n t).1) ∧ Below w.heap.size w w' := by
  obtain ⟨r, hr⟩ : ∃ r, r = giveR xs n t := ⟨_, rfl⟩
  rw [← hr]
  have Hx := Lib.hid (fun (w1 : World) (hb : Below w.heap.size w w1) => findMem_any A c xs n w1 hn (hx.below hb))
  have Hv := Lib.hid (l3Good_any A c xs w hn hlc hx hs)
  obtain ⟨v, hv⟩ : ∃ v, v = idxOf (fun s : Mem => s.num == n) xs := ⟨_, rfl⟩
  unfold giveR at hr
  rw [← hv] at hr Hx
  have HV := Lib.hid hv
  have HRE := Lib.hid hr
  clear hv hr hs
  by_cases hg : goodMem xs = true
  · have h12 := goodMem_len' hg
    by_cases hq : inB t 0 3 = true
    · by_cases hi : v < 0
      · have HR : Hid (r = ([], false)) := HRE.out.trans (if_neg (by simp; omega))
        have hid : decide (v < 0) = true := by simpa using hi
        clear HRE hx hn
        go_enter Try.func16, Try.ntmps16
        go_wp2_with (first | (go_at_call 39; refine Hv.out.mono ?_; rintro en w1 ⟨rfl, hb1⟩) | (go_at_call 45; refine (l3Office_any _ _).mono ?_; rintro en w9 ⟨rfl, rfl⟩) | (go_at_call 38; refine (Hx.out w1 hb1).mono ?_; rintro en w2 ⟨rfl, hb2⟩; have hb02 := btr hb1 hb2))
        exact bodyPost_ret (v := .tuple #[.slice (some ⟨w2.heap.size, 0, none⟩) 0 0, .bool false]) (by simp [results, Try.results16, go_sem]) rfl ⟨some ⟨w2.heap.size, 0, none⟩, 0, by rw [HR.out]; rfl, by rw [HR.out]; exact own_lit (e := 60) (size := 3) (w := w2) #[] 0 hb02.size (by unfold maxLen; omega) rfl, bnew hb02 _⟩
      · obtain ⟨k, hk, e0, hp⟩ := idxOf_get (p := fun s : Mem => s.num == n) (xs := xs) (by have := HV.out; omega)
        have hvk : v = (k : Int) := HV.out.trans e0
        clear e0 hp HV hi
        subst hvk
        have HR : Hid (r = (xs.map (givM n t), true)) := HRE.out.trans (if_pos (by simp [hg, hq]))
        have HYE : Hid (xs.map (givM n t) = (xs.take xs.length).map (givM n t)) := by show _ = _; rw [List.take_length]
        have HYL : Hid ((xs.map (givM n t)).length = xs.length) := by show _ = _; simp
        clear HRE hn
        generalize xs.map (givM n t) = ys at *
        go_enter Try.func16, Try.ntmps16
        go_wp2_with (first | (go_at_call 39; refine Hv.out.mono ?_; rintro en w1 ⟨rfl, hb1⟩) | (go_at_call 45; refine (l3Office_any _ _).mono ?_; rintro en w9 ⟨rfl, rfl⟩) | (go_at_call 38; refine (Hx.out w1 hb1).mono ?_; rintro en w2 ⟨rfl, hb2⟩; have hb02 := btr hb1 hb2))
        go_loopw [8, 9] (fun u q wr => ∃ j : Nat, ∃ (A1 : Option Addr) (c1 : Nat), j ≤ xs.length ∧ q = .int .i64 (j : Int) ∧ u = .slice A1 j c1 ∧ wr.ownsRow w2.heap.size 60 3 (.slice A1 j c1) j (memCells ((xs.take j).map (givM n t))) ∧ Below w2.heap.size w2 wr) (fun _ q _ => xs.length - (intOf q).toNat)
        case atStart => exact ⟨0, some ⟨w2.heap.size, 0, none⟩, 0, by omega, rfl, rfl, own_lit (e := 60) (size := 3) (w := w2) #[] 0 (Nat.le_refl _) (by unfold maxLen; omega) rfl, bnew (Below.refl _ _) _⟩
        case round =>
          obtain ⟨j, A1, c1, hj, rfl, rfl, ho, hb⟩ := hrel
          by_cases hlt : j < xs.length
          · have hjI : (j : Int) < (xs.length : Int) := by omega
            obtain ⟨b, off, rfl, c0, d0, e0⟩ := Rd.mem (hx.below (btr hb02 hb)) hlt
            have Hn : Hid (memCells ((xs.take (j + 1)).map (givM n t)) = memCells ((xs.take j).map (givM n t)) ++ (givM n t xs[j]).cells) := by
              show _ = _
              rw [List.take_succ_eq_append_getElem hlt, List.map_append]
              simp [memCells]
            generalize xs[j] = s at *
            by_cases hs1 : s.off = t
            · have hb1o : (s.off == t) = true := by simpa using hs1
              by_cases hs2 : s.num = n
              · have hb2o : (s.num == n) = true := by simpa using hs2
                have Hm : Hid (givM n t s = ⟨s.num, s.name, t⟩) := by show _ = _; simp [givM, hs2]
                clear hs1 hs2
                have hcells : Hid (memCells ((xs.take (j + 1)).map (givM n t)) = memCells ((xs.take j).map (givM n t)) ++ [.int .i64 s.num, .string s.name, .int .i64 t]) := Hn.out.trans (by rw [Hm.out]; rfl)
                clear Hn Hm
                have hoW := own_below ho (bnew (bnew (Below.refl wr.heap.size wr) (.cells #[.int .i64 s.num, .string s.name, .int .i64 t] 60)) (.cells #[.int .i64 s.num, .string s.name, .int .i64 t] 60))
                have hbW := bnew (bnew hb (.cells #[.int .i64 s.num, .string s.name, .int .i64 t] 60)) (.cells #[.int .i64 s.num, .string s.name, .int .i64 t] 60)
                have hrd : Rd ((wr.alloc (.cells #[.int .i64 s.num, .string s.name, .int .i64 t] 60)).alloc (.cells #[.int .i64 s.num, .string s.name, .int .i64 t] 60)) (some ⟨wr.heap.size + 1, 0, none⟩) [.int .i64 s.num, .string s.name, .int .i64 t] := by
                  have := rd_new' (wr.alloc (.cells #[.int .i64 s.num, .string s.name, .int .i64 t] 60)) #[.int .i64 s.num, .string s.name, .int .i64 t] 60
                  simpa using this
                go_wp2_with (at_builtin; refine wpl_app rfl (.tmp 48) (.tmp 50) 24 rfl el_Mem (v := .slice A1 j c1) rfl hoW rfl rfl hrd (by simp [Value.oneCell']) (by unfold maxLen; omega) (by omega) hbW.size ?_; intro A3 c3 w3 ho3 hg3 _)
                have hb3 : Below w2.heap.size w2 w3 := hbW.grown hg3 hbW.size (fun k hk => (hoW.lt k hk).1)
                clear hoW hbW hrd hg3
                go_roundw
                case rel => exact ⟨j + 1, A3, c3, by omega, by go_num, rfl, by rw [hcells.out]; exact ho3, hb3⟩
                case measure => simp [intOf]; omega
              · have hb2o : (s.num == n) = false := by simpa using hs2
                have Hm : Hid (givM n t s = ⟨s.num, s.name, 0⟩) := by show _ = _; simp [givM, hs2, hs1]
                clear hs1 hs2
                have hcells : Hid (memCells ((xs.take (j + 1)).map (givM n t)) = memCells ((xs.take j).map (givM n t)) ++ [.int .i64 s.num, .string s.name, .int .i64 0]) := Hn.out.trans (by rw [Hm.out]; rfl)
                clear Hn Hm
                have hoW := own_below ho (bnew (bnew (Below.refl wr.heap.size wr) (.cells #[.int .i64 s.num, .string s.name, .int .i64 0] 60)) (.cells #[.int .i64 s.num, .string s.name, .int .i64 0] 60))
                have hbW := bnew (bnew hb (.cells #[.int .i64 s.num, .string s.name, .int .i64 0] 60)) (.cells #[.int .i64 s.num, .string s.name, .int .i64 0] 60)
                have hrd : Rd ((wr.alloc (.cells #[.int .i64 s.num, .string s.name, .int .i64 0] 60)).alloc (.cells #[.int .i64 s.num, .string s.name, .int .i64 0] 60)) (some ⟨wr.heap.size + 1, 0, none⟩) [.int .i64 s.num, .string s.name, .int .i64 0] := by
                  have := rd_new' (wr.alloc (.cells #[.int .i64 s.num, .string s.name, .int .i64 0] 60)) #[.int .i64 s.num, .string s.name, .int .i64 0] 60
                  simpa using this
                go_wp2_with (at_builtin; refine wpl_app rfl (.tmp 48) (.tmp 50) 24 rfl el_Mem (v := .slice A1 j c1) rfl hoW rfl rfl hrd (by simp [Value.oneCell']) (by unfold maxLen; omega) (by omega) hbW.size ?_; intro A3 c3 w3 ho3 hg3 _)
                have hb3 : Below w2.heap.size w2 w3 := hbW.grown hg3 hbW.size (fun k hk => (hoW.lt k hk).1)
                clear hoW hbW hrd hg3
                go_roundw
                case rel => exact ⟨j + 1, A3, c3, by omega, by go_num, rfl, by rw [hcells.out]; exact ho3, hb3⟩
                case measure => simp [intOf]; omega
            · have hb1o : (s.off == t) = false := by simpa using hs1
              by_cases hs2 : s.num = n
              · have hb2o : (s.num == n) = true := by simpa using hs2
                have Hm : Hid (givM n t s = ⟨s.num, s.name, t⟩) := by show _ = _; simp [givM, hs2]
                clear hs1 hs2
                have hcells : Hid (memCells ((xs.take (j + 1)).map (givM n t)) = memCells ((xs.take j).map (givM n t)) ++ [.int .i64 s.num, .string s.name, .int .i64 t]) := Hn.out.trans (by rw [Hm.out]; rfl)
                clear Hn Hm
                have hoW := own_below ho (bnew (bnew (Below.refl wr.heap.size wr) (.cells #[.int .i64 s.num, .string s.name, .int .i64 t] 60)) (.cells #[.int .i64 s.num, .string s.name, .int .i64 t] 60))
                have hbW := bnew (bnew hb (.cells #[.int .i64 s.num, .string s.name, .int .i64 t] 60)) (.cells #[.int .i64 s.num, .string s.name, .int .i64 t] 60)
                have hrd : Rd ((wr.alloc (.cells #[.int .i64 s.num, .string s.name, .int .i64 t] 60)).alloc (.cells #[.int .i64 s.num, .string s.name, .int .i64 t] 60)) (some ⟨wr.heap.size + 1, 0, none⟩) [.int .i64 s.num, .string s.name, .int .i64 t] := by
                  have := rd_new' (wr.alloc (.cells #[.int .i64 s.num, .string s.name, .int .i64 t] 60)) #[.int .i64 s.num, .string s.name, .int .i64 t] 60
                  simpa using this
                go_wp2_with (at_builtin; refine wpl_app rfl (.tmp 48) (.tmp 50) 24 rfl el_Mem (v := .slice A1 j c1) rfl hoW rfl rfl hrd (by simp [Value.oneCell']) (by unfold maxLen; omega) (by omega) hbW.size ?_; intro A3 c3 w3 ho3 hg3 _)
                have hb3 : Below w2.heap.size w2 w3 := hbW.grown hg3 hbW.size (fun k hk => (hoW.lt k hk).1)
                clear hoW hbW hrd hg3
                go_roundw
                case rel => exact ⟨j + 1, A3, c3, by omega, by go_num, rfl, by rw [hcells.out]; exact ho3, hb3⟩
                case measure => simp [intOf]; omega
              · have hb2o : (s.num == n) = false := by simpa using hs2
                have Hm : Hid (givM n t s = ⟨s.num, s.name, s.off⟩) := by show _ = _; simp [givM, hs2, hs1]
                clear hs1 hs2
                have hcells : Hid (memCells ((xs.take (j + 1)).map (givM n t)) = memCells ((xs.take j).map (givM n t)) ++ [.int .i64 s.num, .string s.name, .int .i64 s.off]) := Hn.out.trans (by rw [Hm.out]; rfl)
                clear Hn Hm
                have hoW := own_below ho (bnew (bnew (Below.refl wr.heap.size wr) (.cells #[.int .i64 s.num, .string s.name, .int .i64 s.off] 60)) (.cells #[.int .i64 s.num, .string s.name, .int .i64 s.off] 60))
                have hbW := bnew (bnew hb (.cells #[.int .i64 s.num, .string s.name, .int .i64 s.off] 60)) (.cells #[.int .i64 s.num, .string s.name, .int .i64 s.off] 60)
                have hrd : Rd ((wr.alloc (.cells #[.int .i64 s.num, .string s.name, .int .i64 s.off] 60)).alloc (.cells #[.int .i64 s.num, .string s.name, .int .i64 s.off] 60)) (some ⟨wr.heap.size + 1, 0, none⟩) [.int .i64 s.num, .string s.name, .int .i64 s.off] := by
                  have := rd_new' (wr.alloc (.cells #[.int .i64 s.num, .string s.name, .int .i64 s.off] 60)) #[.int .i64 s.num, .string s.name, .int .i64 s.off] 60
                  simpa using this
                go_wp2_with (at_builtin; refine wpl_app rfl (.tmp 48) (.tmp 50) 24 rfl el_Mem (v := .slice A1 j c1) rfl hoW rfl rfl hrd (by simp [Value.oneCell']) (by unfold maxLen; omega) (by omega) hbW.size ?_; intro A3 c3 w3 ho3 hg3 _)
                have hb3 : Below w2.heap.size w2 w3 := hbW.grown hg3 hbW.size (fun k hk => (hoW.lt k hk).1)
                clear hoW hbW hrd hg3
                go_roundw
                case rel => exact ⟨j + 1, A3, c3, by omega, by go_num, rfl, by rw [hcells.out]; exact ho3, hb3⟩
                case measure => simp [intOf]; omega
          · have hjn : j = xs.length := by omega
            subst hjn
            rw [← HYE.out] at ho
            have HL := HYL.out
            rw [← HL] at ho
            go_wp2
            exact bodyPost_ret (v := .tuple #[.slice A1 ys.length c1, .bool true]) (by simp [results, Try.results16, go_sem] <;> omega) rfl ⟨A1, c1, by rw [HR.out], by rw [HR.out]; exact own_base ho hb02.size, btr hb02 hb⟩
    · have HR : Hid (r = ([], false)) := HRE.out.trans (if_neg (by simp [hq]))
      have hq' : inB t 0 3 = false := by simpa using hq
      clear HRE hx hn hq
      go_enter Try.func16, Try.ntmps16
      go_wp2_with (first | (go_at_call 39; refine Hv.out.mono ?_; rintro en w1 ⟨rfl, hb1⟩) | (go_at_call 45; refine (l3Office_any _ _).mono ?_; rintro en w9 ⟨rfl, rfl⟩))
      exact bodyPost_ret (v := .tuple #[.slice (some ⟨w1.heap.size, 0, none⟩) 0 0, .bool false]) (by simp [results, Try.results16, go_sem]) rfl ⟨some ⟨w1.heap.size, 0, none⟩, 0, by rw [HR.out]; rfl, by rw [HR.out]; exact own_lit (e := 60) (size := 3) (w := w1) #[] 0 hb1.size (by unfold maxLen; omega) rfl, bnew hb1 _⟩
  · have HR : Hid (r = ([], false)) := HRE.out.trans (if_neg (by simp [hg]))
    have hg' : goodMem xs = false := by simpa using hg
    clear HRE hx hn hg
    go_enter Try.func16, Try.ntmps16
    go_wp2_with (first | (go_at_call 39; refine Hv.out.mono ?_; rintro en w1 ⟨rfl, hb1⟩) | (go_at_call 45; refine (l3Office_any _ _).mono ?_; rintro en w9 ⟨rfl, rfl⟩))
    exact bodyPost_ret (v := .tuple #[.slice (some ⟨w1.heap.size, 0, none⟩) 0 0, .bool false]) (by simp [results, Try.results16, go_sem]) rfl ⟨some ⟨w1.heap.size, 0, none⟩, 0, by rw [HR.out]; rfl, by rw [HR.out]; exact own_lit (e := 60) (size := 3) (w := w1) #[] 0 hb1.size (by unfold maxLen; omega) rfl, bnew hb1 _⟩
end Go.Proofs.Ytidmdppcamgaoaa
