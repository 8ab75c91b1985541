/-
  Contracts of RulesAbove. Conditions: lengths within Go's range.
-/
import Derived.Test.YtljbllinlhgklaaRul3
import Derived.Test.YtljbllinlhgklaaSlRul
import Derived.Test.YtljbllinlhgklaaIntS
import Derived.Test.YtljbllinlhgklaaSrtRul
import Derived.Lib.SliceRun
namespace Go.My
open Go.RowKit
section
variable {α : Type}
theorem posR_split {lt : α → α → Bool} {x : α} {p q : List α} (hp : ∀ y ∈ p, lt x y = false) (hq : ∀ y ∈ q, lt x y = true) : ∀ k, k ≤ q.length → posR lt x (p ++ q) (p.length + k) = p.length
  | 0, _ => by
    rcases Nat.eq_zero_or_pos p.length with h | h
    · rw [h]; rfl
    · obtain ⟨n, hn⟩ : ∃ n, p.length = n + 1 := ⟨p.length - 1, by omega⟩
      rw [Nat.add_zero, hn, posR]
      have hn' : n < p.length := by omega
      rw [List.getElem?_append_left hn', List.getElem?_eq_getElem hn']
      simp only
      rw [if_neg (by rw [hp _ (List.getElem_mem hn')]; decide)]
  | k + 1, hk => by
    have hkl : k < q.length := by omega
    rw [← Nat.add_assoc, posR, List.getElem?_append_right (by omega), Nat.add_sub_cancel_left, List.getElem?_eq_getElem hkl]
    simp only
    rw [if_pos (hq _ (List.getElem_mem hkl))]
    exact posR_split hp hq k (by omega)
theorem insS_split {lt : α → α → Bool} {x : α} {p q : List α} (hp : ∀ y ∈ p, lt x y = false) (hq : ∀ y ∈ q, lt x y = true) : insS lt x (p ++ q) = p ++ x :: q := by
  unfold insS
  rw [List.length_append, posR_split hp hq q.length (Nat.le_refl _)]
  simp
/-- The first n bands of a list, by a key that falls from top. -/
def bands (key : α → Int) (top : Int) (xs : List α) : Nat → List α
  | 0 => []
  | n + 1 => bands key top xs n ++ xs.filter fun x => key x == top - n
theorem bands_nil (key : α → Int) (top : Int) (n : Nat) : bands key top [] n = [] := by
  induction n with
  | zero => rfl
  | succ n ih => simp [bands, ih]
theorem bands_key {key : α → Int} {top : Int} {xs : List α} {n : Nat} {y : α} (h : y ∈ bands key top xs n) : top - n < key y := by
  induction n with
  | zero => simp [bands] at h
  | succ n ih =>
    rcases List.mem_append.1 h with h | h
    · have := ih h; omega
    · have := (List.mem_filter.1 h).2
      simp only [beq_iff_eq] at this; omega
theorem bands_low {key : α → Int} {top : Int} {xs : List α} {x : α} {n : Nat} (h : key x ≤ top - n) : bands key top (xs ++ [x]) n = bands key top xs n := by
  induction n with
  | zero => rfl
  | succ n ih =>
    simp only [bands]
    rw [ih (by omega), List.filter_append]
    have : (key x == top - (n : Int)) = false := by simp; omega
    simp [this]
theorem bands_snoc {key : α → Int} {top : Int} {xs : List α} {x : α} {j : Nat} (hj : key x = top - j) : ∀ n, ∃ q, bands key top xs (j + 1 + n) = bands key top xs (j + 1) ++ q ∧ bands key top (xs ++ [x]) (j + 1 + n) = bands key top xs (j + 1) ++ x :: q ∧ ∀ y ∈ q, key y < key x
  | 0 => ⟨[], by simp, by
      simp only [bands]
      rw [bands_low (by omega), List.filter_append]
      simp [hj], by simp⟩
  | n + 1 => by
    obtain ⟨q, h1, h2, h3⟩ := bands_snoc (key := key) (top := top) (xs := xs) hj n
    refine ⟨q ++ xs.filter (fun x => key x == top - ((j + 1 + n : Nat) : Int)), ?_, ?_, ?_⟩
    · rw [← Nat.add_assoc, bands, h1, List.append_assoc]
    · have : (key x == top - ((j + 1 + n : Nat) : Int)) = false := by simp only [beq_eq_false_iff_ne, ne_eq]; omega
      rw [← Nat.add_assoc, bands, h2, List.filter_append, List.filter_cons_of_neg (by rw [this]; decide)]
      simp only [List.append_assoc, List.cons_append, List.filter_nil, List.append_nil]
    · intro y hy
      rcases List.mem_append.1 hy with hy | hy
      · exact h3 y hy
      · have := (List.mem_filter.1 hy).2
        simp only [beq_iff_eq] at this; omega
theorem insS_bands {lt : α → α → Bool} {key : α → Int} (hlt : ∀ x y, lt x y = decide (key y < key x)) {top : Int} {xs : List α} {x : α} {n : Nat} (h1 : key x ≤ top) (h2 : top - n < key x) : insS lt x (bands key top xs n) = bands key top (xs ++ [x]) n := by
  obtain ⟨j, hj⟩ : ∃ j : Nat, key x = top - j := ⟨(top - key x).toNat, by omega⟩
  obtain ⟨m, rfl⟩ : ∃ m, n = j + 1 + m := ⟨n - (j + 1), by omega⟩
  obtain ⟨q, e1, e2, e3⟩ := bands_snoc (key := key) (top := top) (xs := xs) hj m
  rw [e1, e2]
  refine insS_split (fun y hy => ?_) (fun y hy => ?_)
  · have := bands_key hy
    rw [hlt]; simp only [decide_eq_false_iff_not]; omega
  · rw [hlt]; simp only [decide_eq_true_eq]; exact e3 y hy
theorem foldS_bands {lt : α → α → Bool} {key : α → Int} (hlt : ∀ x y, lt x y = decide (key y < key x)) {top : Int} {n : Nat} : ∀ (xs pre : List α), (∀ x ∈ xs, key x ≤ top ∧ top - n < key x) → xs.foldl (fun o x => insS lt x o) (bands key top pre n) = bands key top (pre ++ xs) n
  | [], pre, _ => by simp
  | x :: xs, pre, h => by
    rw [List.foldl_cons, insS_bands hlt (h x (by simp)).1 (h x (by simp)).2, foldS_bands hlt xs (pre ++ [x]) (fun y hy => h y (by simp [hy]))]
    simp
theorem sortS_bands {lt : α → α → Bool} {key : α → Int} (hlt : ∀ x y, lt x y = decide (key y < key x)) {top : Int} {n : Nat} {xs : List α} (h : ∀ x ∈ xs, key x ≤ top ∧ top - n < key x) : sortS lt xs = bands key top xs n := by
  have := foldS_bands hlt xs [] h
  rw [bands_nil] at this
  simpa [sortS] using this
theorem bands_filter {key : α → Int} {top lo : Int} {xs : List α} {n : Nat} (h : lo ≤ top - n) : bands key top (xs.filter fun x => !decide (key x ≤ lo)) n = bands key top xs n := by
  induction n with
  | zero => rfl
  | succ n ih =>
    simp only [bands]
    rw [ih (by omega), List.filter_filter]
    congr 1
    apply List.filter_congr
    intro x _
    by_cases hx : key x = top - (n : Int)
    · have : ¬ key x ≤ lo := by omega
      simp [hx]; omega
    · simp [hx]
end

theorem idxFrom_before {α : Type} {p : α → Bool} : ∀ {xs : List α} {j0 i j : Nat}, idxFrom p j0 xs = ((j0 + i : Nat) : Int) → j < i → ∀ (h : j < xs.length), p xs[j] = false
  | x :: r, j0, i, j, e, hj, h => by
    simp only [idxFrom] at e
    by_cases hx : p x = true
    · rw [if_pos hx] at e; omega
    · rw [if_neg hx] at e
      cases j with
      | zero => simpa using hx
      | succ j =>
        have := idxFrom_before (xs := r) (j0 := j0 + 1) (i := i - 1) (j := j) (by rw [e]; omega) (by omega) (by simpa using h)
        simpa using this
theorem idxOf_before {α : Type} {p : α → Bool} {xs : List α} {i j : Nat} (e : idxOf p xs = (i : Int)) (hj : j < i) {h : j < xs.length} : p xs[j] = false :=
  idxFrom_before (j0 := 0) (i := i) (by unfold idxOf at e; rw [e]; simp) hj h
theorem rul_setsd (L : List Value) (p : Nat) (v0 v1 v2 v3 v4 v5 v6 : Value) : (((((((L.set (p) v0).set (p + 1) v1).set (p + 2) v2).set (p + 3) v3).set (p + 4) v4).set (p + 5) v5).set (p + 6) v6).drop (p + 7) = L.drop (p + 7) := by
  rw [List.drop_set_of_lt (by omega), List.drop_set_of_lt (by omega), List.drop_set_of_lt (by omega), List.drop_set_of_lt (by omega), List.drop_set_of_lt (by omega), List.drop_set_of_lt (by omega), List.drop_set_of_lt (by omega)]
theorem rulCells_setall (xs : List Rul) (k : Nat) (s : Rul) (hk : k < xs.length) : ((((((((rulCells xs).set (k * 7) (.int .i64 s.id)).set (k * 7 + 1) (.string s.name)).set (k * 7 + 2) (.int .i64 s.rank)).set (k * 7 + 3) (.bool s.sec)).set (k * 7 + 4) (.bool s.deb)).set (k * 7 + 5) (.bool s.am)).set (k * 7 + 6) (.int .i64 s.need)) = rulCells (xs.set k s) := by
  have hl : k * 7 + 7 ≤ (rulCells xs).length := by rw [rulCells_len]; omega
  have e1 := rul_sets (rulCells xs) (k * 7) (.int .i64 s.id) (.string s.name) (.int .i64 s.rank) (.bool s.sec) (.bool s.deb) (.bool s.am) (.int .i64 s.need) hl
  have e2 := rul_setsd (rulCells xs) (k * 7) (.int .i64 s.id) (.string s.name) (.int .i64 s.rank) (.bool s.sec) (.bool s.deb) (.bool s.am) (.int .i64 s.need)
  generalize hM : ((((((((rulCells xs).set (k * 7) (.int .i64 s.id)).set (k * 7 + 1) (.string s.name)).set (k * 7 + 2) (.int .i64 s.rank)).set (k * 7 + 3) (.bool s.sec)).set (k * 7 + 4) (.bool s.deb)).set (k * 7 + 5) (.bool s.am)).set (k * 7 + 6) (.int .i64 s.need)) = M at *
  rw [← List.take_append_drop (k * 7 + 7) M, e1, e2]
  have t1 : (rulCells xs).take (k * 7) = rulCells (xs.take k) := flat_take _ 7 (fun _ => rfl) xs k (by omega)
  have t2 : (rulCells xs).drop (k * 7 + 7) = rulCells (xs.drop (k + 1)) := by
    have := flat_drop Rul.cells 7 (fun _ => rfl) xs (k + 1) (by omega)
    rwa [Nat.add_mul, Nat.one_mul] at this
  rw [t1, t2, List.set_eq_take_append_cons_drop, if_pos hk]
  simp [rulCells, Rul.cells]
theorem filter_at {α : Type} (p : α → Bool) (xs : List α) (k : Nat) (hk : k < xs.length) : (xs.take (k + 1)).filter p = (xs.take k).filter p ++ (bif p xs[k] then [xs[k]] else []) := by
  rw [List.take_succ_eq_append_getElem hk, List.filter_append]
  cases h : p xs[k] <;> simp [h]

def aboveL (xs : List Rul) (t : Int) : List Int := (bands (fun s : Rul => s.rank) 9 xs (9 - t).toNat).map (fun s : Rul => s.id)
def aboveR (xs : List Rul) (t : Int) : List Int × Bool := if (goodRul xs && inB t (-1) 9) = true then (aboveL xs t, true) else ([], false)
theorem bands_len {α : Type} (key : α → Int) (top : Int) : ∀ (xs : List α) (n : Nat), (bands key top xs n).length ≤ xs.length := by
  intro xs
  suffices h : ∀ n, (bands key top xs n).length ≤ (xs.filter fun x => decide (top - n < key x)).length from
    fun n => Nat.le_trans (h n) (List.length_filter_le _ _)
  intro n
  induction n with
  | zero => simp [bands]
  | succ n ih =>
    simp only [bands, List.length_append]
    have e : (xs.filter fun x => decide (top - ((n + 1 : Nat) : Int) < key x)).length = (xs.filter fun x => decide (top - (n : Int) < key x)).length + (xs.filter fun x => key x == top - n).length := by
      clear ih
      induction xs with
      | nil => rfl
      | cons x r ih =>
        simp only [List.filter_cons]
        by_cases h1 : top - (n : Int) < key x
        · rw [if_pos (by simp; omega), if_pos (by simpa using h1), if_neg (by simp; omega)]
          simp only [List.length_cons]; omega
        · by_cases h2 : key x = top - n
          · rw [if_pos (by simp; omega), if_neg (by simpa using h1), if_pos (by simpa using h2)]
            simp only [List.length_cons]; omega
          · rw [if_neg (by simp; omega), if_neg (by simpa using h1), if_neg (by simpa using h2)]
            exact ih
    omega
theorem aboveL_len (xs : List Rul) (t : Int) : (aboveL xs t).length ≤ xs.length := by
  unfold aboveL
  rw [List.length_map]
  exact bands_len _ _ _ _
theorem goodRul_rank {xs : List Rul} (h : goodRul xs = true) : ∀ s ∈ xs, 0 ≤ s.rank ∧ s.rank ≤ 9 := by
  simp only [goodRul, Bool.and_eq_true, decide_eq_true_eq] at h
  intro s hs
  obtain ⟨ys, hy⟩ := goodPre_all h.1 s hs
  simp only [rulFits, rulOk, Bool.and_eq_true, inB, decide_eq_true_eq] at hy
  omega
theorem bands_step (xs : List Rul) (n : Nat) : (bands (fun s : Rul => s.rank) 9 xs (n + 1)).map (fun s : Rul => s.id) = (bands (fun s : Rul => s.rank) 9 xs n).map (fun s : Rul => s.id) ++ (xs.filter fun s => s.rank == 9 - (n : Int)).map (fun s : Rul => s.id) := by
  rw [bands, List.map_append]
end Go.My
namespace Go.Proofs.Ytljbllinlhgklaa
open Go.RowKit Go.My
set_option maxHeartbeats 400000 in
theorem closA_any (s : Rul) (q : Nat) (t : Int) (w : World) (hq : w.cell? ⟨q, 0, none⟩ = some (.int .i64 t)) :
    Calls Try.prog 34 #[.agg #[.int .i64 s.id, .string s.name, .int .i64 s.rank, .bool s.sec, .bool s.deb, .bool s.am, .int .i64 s.need], .pointer (some ⟨q, 0, none⟩)] w fun e w' => e = .returned (.bool (decide (s.rank ≤ t))) ∧ Below w.heap.size w w' := by
  have hbx := bnew (Below.refl w.heap.size w) (.cells #[.int .i64 s.id, .string s.name, .int .i64 s.rank, .bool s.sec, .bool s.deb, .bool s.am, .int .i64 s.need] 35)
  have hq2 := cell_below' hq hbx
  by_cases h : s.rank ≤ t
  · rw [decide_eq_true h]
    go_enter Try.func34, Try.ntmps34
    go_wp2
    go_ret
    exact ⟨rfl, hbx⟩
  · rw [decide_eq_false h]
    go_enter Try.func34, Try.ntmps34
    go_wp2
    go_ret
    exact ⟨rfl, hbx⟩
/-- A closure that captures one cell answers the property, in every later world. -/
def TellsRulA (w : World) (q : Addr) (p : Rul → Bool) (xs : List Rul) : Prop := ∀ w1 : World, Below w.heap.size w w1 → ∀ s ∈ xs, Calls Try.prog 34 #[.agg #[.int .i64 s.id, .string s.name, .int .i64 s.rank, .bool s.sec, .bool s.deb, .bool s.am, .int .i64 s.need], .pointer (some q)] w1 fun e w' => e = .returned (.bool (p s)) ∧ Below w1.heap.size w1 w'
set_option maxHeartbeats 400000 in
theorem indexRulA_any (q : Addr) (p : Rul → Bool) (A : Option Addr) (c : Nat) (xs : List Rul) (w : World) (hn : xs.length ≤ maxLen) (hx : Rd w A (rulCells xs)) (hp : Hid (TellsRulA w q p xs)) :
    Calls Try.prog 39 #[.slice A xs.length c, .func (.func 34) #[] #[.pointer (some q)]] w fun e w' => e = .returned (.int .i64 (idxOf p xs)) ∧ Below w.heap.size w w' := by
  unfold maxLen at hn
  go_enter Try.func39, Try.ntmps39
  go_wp2
  go_loopw [8] (fun i wr => ∃ k : Nat, k ≤ xs.length ∧ i = .int .i64 k ∧ Hid (idxOf p xs = idxFrom p k (xs.drop k)) ∧ Below w.heap.size w wr) (fun i _ => xs.length - (intOf i).toNat)
  case atStart => exact ⟨0, by omega, rfl, rfl, Below.refl _ _⟩
  case round =>
    obtain ⟨k, hk, rfl, H, hb⟩ := hrel
    by_cases hlt : k < xs.length
    · obtain ⟨b, off, rfl, c0, c1, c2, c3, c4, c5, c6⟩ := Rd.rul (hx.below hb) hlt
      have hcall := hp.out _ hb xs[k] (List.getElem_mem _)
      have Hn := Lib.hid (H.out.trans (idxFrom_at hlt))
      clear H
      generalize xs[k] = s at *
      have Hc := Lib.hid hcall
      clear hcall
      by_cases hps : p s = true
      · have Hf := Lib.hid (Hn.out.trans (if_pos hps))
        clear Hn
        rw [hps] at Hc
        go_wp2_with (go_at_call 34; refine Hc.out.mono ?_; rintro e w1 ⟨rfl, hb1⟩)
        go_ret
        exact ⟨by rw [Hf.out]; rfl, btr hb hb1⟩
      · have Hf := Lib.hid (Hn.out.trans (if_neg hps))
        clear Hn
        have hps' : p s = false := by simpa using hps
        rw [hps'] at Hc
        go_wp2_with (go_at_call 34; refine Hc.out.mono ?_; rintro e w1 ⟨rfl, hb1⟩)
        go_roundw
        case rel => exact ⟨k + 1, by omega, by go_num, Hf, btr hb hb1⟩
        case measure => simp [intOf]; omega
    · have Hf := Lib.hid (H.out.trans (by rw [List.drop_eq_nil_of_le (by omega)]))
      clear H
      go_wp2
      go_ret
      exact ⟨by rw [Hf.out]; rfl, hb⟩
set_option maxHeartbeats 400000 in
theorem containsRulA_any (q : Addr) (p : Rul → Bool) (A : Option Addr) (c : Nat) (xs : List Rul) (w : World) (hn : xs.length ≤ maxLen) (hx : Rd w A (rulCells xs)) (hp : Hid (TellsRulA w q p xs)) :
    Calls Try.prog 42 #[.slice A xs.length c, .func (.func 34) #[] #[.pointer (some q)]] w fun e w' => e = .returned (.bool (xs.any p)) ∧ Below w.heap.size w w' := by
  have hc := Lib.hid (indexRulA_any q p A c xs w hn hx hp)
  have HE := Lib.hid (idxOf_any p xs)
  clear hn hx hp
  generalize idxOf p xs = v at *
  generalize xs.any p = u at *
  go_enter Try.func42, Try.ntmps42
  go_wp2_with fail
  refine hc.out.mono ?_
  rintro e w1 ⟨rfl, hb1⟩
  go_wp2
  go_ret
  exact ⟨by rw [← HE.out]; rfl, hb1⟩
set_option maxHeartbeats 1000000 in
theorem clone_Rul (A : Option Addr) (c : Nat) (xs : List Rul) (w : World) (hn : xs.length ≤ 2097152) (hx : Rd w A (rulCells xs)) :
    Calls Try.prog 33 #[.slice A xs.length c] w (RowRetE w w.heap.size 35 7 xs.length (rulCells xs) none) := by
  cases A with
  | none =>
    have h0 : xs = [] := by
      rcases hx with h | ⟨b, off, e, _⟩
      · exact List.eq_nil_of_length_eq_zero (by have := rulCells_len xs; rw [h] at this; simp at this; omega)
      · cases e
    subst h0
    have hnil : ∀ w, (binOp .eql 24 (.slice none 0 c) (.slice none 0 0)).run Try.prog w = .ok (.bool true) w := fun w => Lib.run_eql_slice_nil w _ _ none 0 c 0 0 Try.underlying24
    go_enter Try.func33, Try.ntmps33
    go_wp2
    exact bodyPost_ret (v := .slice none 0 0) (by simp [results, Try.results33, go_sem]) rfl ⟨none, 0, rfl, own_nil, World.grownBy.refl _ _⟩
  | some ad =>
    have hl0 := rulCells_len xs
    have h10 := rulCells_one xs
    have hnil : ∀ w, (binOp .eql 24 (.slice (some ad) xs.length c) (.slice none 0 0)).run Try.prog w = .ok (.bool false) w := fun w => Lib.run_eql_slice_nil w _ _ (some ad) _ c 0 0 Try.underlying24
    go_enter Try.func33, Try.ntmps33
    go_wp2_with (at_builtin; refine wpl_app rfl (.tmp 5) (.tmp 6) 24 rfl el_Rul (v := .slice (some ⟨w.heap.size, 0, none⟩) 0 0) rfl (own_lit (e := 35) (size := 7) (B := w.heap.size) (w := w) #[] 0 (Nat.le_refl _) (by unfold maxLen; omega) rfl) rfl hl0 (hx.alloc (.cells #[] 35)) h10 (by unfold maxLen; omega) (by omega) (by simp) ?_; intro A1 c1 w3 ho1 hg1 _; simp only [Nat.zero_add, List.nil_append] at ho1)
    exact bodyPost_ret (v := .slice A1 xs.length c1) (by simp [results, Try.results33, go_sem]) rfl ⟨A1, c1, rfl, ho1, grown_new (w1 := w.alloc (.cells #[] 35)) (row := none) (g := w.heap.size) (by exact ⟨rfl, rfl, rfl, by simp, fun k hk _ => Below.heap_alloc w _ k hk⟩) (by simpa [Value.ownBlock] using hg1) (Nat.le_refl _)⟩
set_option maxHeartbeats 4000000 in
set_option maxRecDepth 100000 in
theorem deleteFunc_Rul (q : Nat) (v : Value) (p : Rul → Bool) (A : Option Addr) (c B : Nat) (xs ys : List Rul) (w : World) (hn : xs.length ≤ 2097152) (ho : w.ownsRow B 35 7 (.slice A xs.length c) xs.length (rulCells xs))
    (hq : w.cell? ⟨q, 0, none⟩ = some v) (hqB : some q ≠ (Value.slice A xs.length c).ownBlock) (hys : Hid (ys = xs.filter (fun s => !p s)))
    (hp : Hid (∀ (w1 : World) (s : Rul), w1.cell? ⟨q, 0, none⟩ = some v → Calls Try.prog 34 #[.agg #[.int .i64 s.id, .string s.name, .int .i64 s.rank, .bool s.sec, .bool s.deb, .bool s.am, .int .i64 s.need], .pointer (some ⟨q, 0, none⟩)] w1 fun e w' => e = .returned (.bool (p s)) ∧ Below w1.heap.size w1 w')) :
    Calls Try.prog 32 #[.slice A xs.length c, .func (.func 34) #[] #[.pointer (some ⟨q, 0, none⟩)]] w (RowRet w B 35 7 A c ys.length (rulCells ys) (Value.slice A xs.length c).ownBlock) := by
  obtain ⟨A0, c0', e0, hnc⟩ := own_form ho
  simp only [Value.slice.injEq, true_and] at e0
  obtain ⟨rfl, rfl⟩ := e0
  have Hx := Lib.hid (indexRulA_any ⟨q, 0, none⟩ p A c xs w (by unfold maxLen; omega) (own_rd ho) (fun w1 hb1 s _ => hp.out w1 s (cell_below' hq hb1)))
  by_cases hi : idxOf p xs < 0
  · have e1 : idxOf p xs = -1 := by have := idxOf_range p xs; omega
    have hall : xs.any p = false := by rw [← idxOf_any p xs]; simpa using hi
    have e2 : ys = xs := by
      rw [hys.out, List.filter_eq_self]
      intro s hs
      have := List.any_eq_false.1 hall s hs
      simpa using this
    subst e2
    rw [e1] at Hx
    clear hall hi hys
    go_enter Try.func32, Try.ntmps32
    go_wp2_with fail
    refine Hx.out.mono ?_
    rintro e w1 ⟨rfl, hb1⟩
    go_wp2
    exact bodyPost_ret (v := .slice A ys.length c) (by simp [results, Try.results32, go_sem]) rfl ⟨rfl, own_below ho hb1, grown_below (World.grownBy.refl w _) hb1⟩
  · obtain ⟨i, hil, e1, hpi⟩ := idxOf_get (p := p) (xs := xs) (by omega)
    obtain ⟨g, rfl, hB, hg⟩ := own_at ho (by omega)
    have hqg : q ≠ g := fun e => hqB (by simp [Value.ownBlock, e])
    have HF0 : Hid ((xs.take (i + 1)).filter (fun s => !p s) = xs.take i) := by
      show _ = _
      rw [filter_at _ xs i hil, hpi]
      simp only [Bool.not_true, cond_false, List.append_nil]
      rw [List.filter_eq_self]
      intro s hs
      obtain ⟨j, hj, rfl⟩ := List.getElem_of_mem hs
      have hj' : j < i := by simp at hj; omega
      rw [List.getElem_take]
      have := idxOf_before (p := p) (xs := xs) (i := i) (j := j) (h := by omega) e1 hj'
      simpa using this
    have hiI : ((i : Int) == -1) = false := by rw [beq_eq_false_iff_ne]; omega
    rw [e1] at Hx
    clear hi e1 hpi hqB
    go_enter Try.func32, Try.ntmps32
    go_wp2_with fail
    refine Hx.out.mono ?_
    rintro e w1 ⟨rfl, hb1⟩
    go_wp2_with fail
    go_loopw [5, 6] (fun a b wr => ∃ i j : Nat, ∃ zs : List Rul, i < j ∧ j ≤ xs.length ∧ a = .int .i64 i ∧ b = .int .i64 j ∧ zs.length = xs.length ∧ Hid (zs.take i = (xs.take j).filter (fun s => !p s)) ∧ Hid (zs.drop j = xs.drop j) ∧ wr.ownsRow B 35 7 (.slice (some ⟨g, 0, none⟩) xs.length c) xs.length (rulCells zs) ∧ w.grownBy wr (some g)) (fun _ b _ => xs.length - (intOf b).toNat)
    case atStart => exact ⟨i, i + 1, xs, by omega, by omega, rfl, by go_num, rfl, HF0.out.symm, rfl, own_below ho hb1, grown_below (World.grownBy.refl w _) hb1⟩
    case round =>
      clear hb1
      obtain ⟨i, j, zs, hij, hj, rfl, rfl, hzl, HT, HD, ho2, hg2⟩ := hrel
      have hq2 : wr.cell? ⟨q, 0, none⟩ = some v := hg2.cell hq (by simpa using hqg)
      by_cases hlt : j < xs.length
      · have hjz : j < zs.length := by omega
        obtain ⟨b, off, eA, c0, c1, c2, c3, c4, c5, c6⟩ := Rd.rul (own_rd ho2) hjz
        have hs : zs[j] = xs[j] := by
          have := HD.out
          rw [List.drop_eq_getElem_cons hjz, List.drop_eq_getElem_cons hlt] at this
          exact (List.cons.inj this).1
        have HN := Lib.hid (filter_at (fun s => !p s) xs j hlt)
        have HD2 : Hid (zs.drop (j + 1) = xs.drop (j + 1)) := by
          have := HD.out
          rw [List.drop_eq_getElem_cons hjz, List.drop_eq_getElem_cons hlt] at this
          exact (List.cons.inj this).2
        have hjI : (j : Int) < (xs.length : Int) := by omega
        have hiI2 : (i : Int) < (xs.length : Int) := by omega
        simp only [Option.some.injEq, Addr.mk.injEq, and_true] at eA
        obtain ⟨rfl, rfl⟩ := eA
        simp only [Nat.zero_add] at c0 c1 c2 c3 c4 c5 c6
        rw [hs] at c0 c1 c2 c3 c4 c5 c6
        clear hs HD hjz
        generalize xs[j] = s at *
        have Hcl : Hid (∀ w1, w1.cell? ⟨q, 0, none⟩ = some v → Calls Try.prog 34 #[.agg #[.int .i64 s.id, .string s.name, .int .i64 s.rank, .bool s.sec, .bool s.deb, .bool s.am, .int .i64 s.need], .pointer (some ⟨q, 0, none⟩)] w1 fun e w' => e = .returned (.bool (p s)) ∧ Below w1.heap.size w1 w') := fun w1 h => hp.out w1 s h
        have hbx := bnew (Below.refl wr.heap.size wr) (.cells #[.int .i64 s.id, .string s.name, .int .i64 s.rank, .bool s.sec, .bool s.deb, .bool s.am, .int .i64 s.need] 35)
        have hq3 := cell_below' hq2 hbx
        have ho2' := own_below ho2 hbx
        have hg2' := grown_below hg2 hbx
        have k0 : (wr.alloc (.cells #[.int .i64 s.id, .string s.name, .int .i64 s.rank, .bool s.sec, .bool s.deb, .bool s.am, .int .i64 s.need] 35)).cell? ⟨wr.heap.size, 0, none⟩ = some (.int .i64 s.id) := (World.cell?_alloc_at _ _ _ _ rfl).trans rfl
        have k1 : (wr.alloc (.cells #[.int .i64 s.id, .string s.name, .int .i64 s.rank, .bool s.sec, .bool s.deb, .bool s.am, .int .i64 s.need] 35)).cell? ⟨wr.heap.size, 1, none⟩ = some (.string s.name) := (World.cell?_alloc_at _ _ _ _ rfl).trans rfl
        have k2 : (wr.alloc (.cells #[.int .i64 s.id, .string s.name, .int .i64 s.rank, .bool s.sec, .bool s.deb, .bool s.am, .int .i64 s.need] 35)).cell? ⟨wr.heap.size, 2, none⟩ = some (.int .i64 s.rank) := (World.cell?_alloc_at _ _ _ _ rfl).trans rfl
        have k3 : (wr.alloc (.cells #[.int .i64 s.id, .string s.name, .int .i64 s.rank, .bool s.sec, .bool s.deb, .bool s.am, .int .i64 s.need] 35)).cell? ⟨wr.heap.size, 3, none⟩ = some (.bool s.sec) := (World.cell?_alloc_at _ _ _ _ rfl).trans rfl
        have k4 : (wr.alloc (.cells #[.int .i64 s.id, .string s.name, .int .i64 s.rank, .bool s.sec, .bool s.deb, .bool s.am, .int .i64 s.need] 35)).cell? ⟨wr.heap.size, 4, none⟩ = some (.bool s.deb) := (World.cell?_alloc_at _ _ _ _ rfl).trans rfl
        have k5 : (wr.alloc (.cells #[.int .i64 s.id, .string s.name, .int .i64 s.rank, .bool s.sec, .bool s.deb, .bool s.am, .int .i64 s.need] 35)).cell? ⟨wr.heap.size, 5, none⟩ = some (.bool s.am) := (World.cell?_alloc_at _ _ _ _ rfl).trans rfl
        have k6 : (wr.alloc (.cells #[.int .i64 s.id, .string s.name, .int .i64 s.rank, .bool s.sec, .bool s.deb, .bool s.am, .int .i64 s.need] 35)).cell? ⟨wr.heap.size, 6, none⟩ = some (.int .i64 s.need) := (World.cell?_alloc_at _ _ _ _ rfl).trans rfl
        obtain ⟨u, hu⟩ : ∃ u, u = p s := ⟨_, rfl⟩
        rw [← hu] at Hcl HN
        clear hu
        go_wp2_with fail
        generalize wr.alloc (.cells #[.int .i64 s.id, .string s.name, .int .i64 s.rank, .bool s.sec, .bool s.deb, .bool s.am, .int .i64 s.need] 35) = w2 at *
        refine (Hcl.out w2 hq3).mono ?_
        rintro e w3 ⟨rfl, hb3⟩
        have ho3 := own_below ho2' hb3
        have hg3 := grown_below hg2' hb3
        have f0 := cell_below' k0 hb3
        have f1 := cell_below' k1 hb3
        have f2 := cell_below' k2 hb3
        have f3 := cell_below' k3 hb3
        have f4 := cell_below' k4 hb3
        have f5 := cell_below' k5 hb3
        have f6 := cell_below' k6 hb3
        clear k0 k1 k2 k3 k4 k5 k6 c0 c1 c2 c3 c4 c5 c6 ho2 hg2 ho2' hg2' hq2 hq3 hbx
        cases u with
        | true =>
          have HT2 : Hid (zs.take i = (xs.take (j + 1)).filter (fun s => !p s)) := by show _ = _; rw [HN.out, HT.out]; simp
          clear HN HT
          go_wp2
          go_roundw
          case rel => exact ⟨i, j + 1, zs, by omega, by omega, rfl, by go_num, hzl, HT2, HD2, ho3, hg3⟩
          case measure => simp [intOf]; omega
        | false =>
          have hiz : i < zs.length := by omega
          have HT2 : Hid ((zs.set i s).take (i + 1) = (xs.take (j + 1)).filter (fun s => !p s)) := by
            show _ = _
            rw [HN.out, ← HT.out, take_set_next _ _ _ hiz]
            rfl
          have HD3 : Hid ((zs.set i s).drop (j + 1) = xs.drop (j + 1)) := by show _ = _; rw [List.drop_set_of_lt (by omega)]; exact HD2.out
          have hzl2 : (zs.set i s).length = xs.length := by rw [List.length_set]; exact hzl
          have hcl := rulCells_len zs
          obtain ⟨u0, d0⟩ := own_some ho3 (i * 7) (by omega)
          have z0 := ho3.frozenAt (i * 7)
          obtain ⟨u1, d1⟩ := own_some ho3 (i * 7 + 1) (by omega)
          have z1 := ho3.frozenAt (i * 7 + 1)
          obtain ⟨u2, d2⟩ := own_some ho3 (i * 7 + 2) (by omega)
          have z2 := ho3.frozenAt (i * 7 + 2)
          obtain ⟨u3, d3⟩ := own_some ho3 (i * 7 + 3) (by omega)
          have z3 := ho3.frozenAt (i * 7 + 3)
          obtain ⟨u4, d4⟩ := own_some ho3 (i * 7 + 4) (by omega)
          have z4 := ho3.frozenAt (i * 7 + 4)
          obtain ⟨u5, d5⟩ := own_some ho3 (i * 7 + 5) (by omega)
          have z5 := ho3.frozenAt (i * 7 + 5)
          obtain ⟨u6, d6⟩ := own_some ho3 (i * 7 + 6) (by omega)
          have z6 := ho3.frozenAt (i * 7 + 6)
          have ho4 := (own_set (own_set (own_set (own_set (own_set (own_set (own_set ho3 (i * 7) (.int .i64 s.id)) (i * 7 + 1) (.string s.name)) (i * 7 + 2) (.int .i64 s.rank)) (i * 7 + 3) (.bool s.sec)) (i * 7 + 4) (.bool s.deb)) (i * 7 + 5) (.bool s.am)) (i * 7 + 6) (.int .i64 s.need))
          rw [rulCells_setall zs i s hiz] at ho4
          have hg4 : w.grownBy (((((((w3.setCell ⟨g, i * 7, none⟩ (.int .i64 s.id)).setCell ⟨g, i * 7 + 1, none⟩ (.string s.name)).setCell ⟨g, i * 7 + 2, none⟩ (.int .i64 s.rank)).setCell ⟨g, i * 7 + 3, none⟩ (.bool s.sec)).setCell ⟨g, i * 7 + 4, none⟩ (.bool s.deb)).setCell ⟨g, i * 7 + 5, none⟩ (.bool s.am)).setCell ⟨g, i * 7 + 6, none⟩ (.int .i64 s.need)) (some g) := (grown_set (grown_set (grown_set (grown_set (grown_set (grown_set (grown_set hg3 (i * 7) (.int .i64 s.id)) (i * 7 + 1) (.string s.name)) (i * 7 + 2) (.int .i64 s.rank)) (i * 7 + 3) (.bool s.sec)) (i * 7 + 4) (.bool s.deb)) (i * 7 + 5) (.bool s.am)) (i * 7 + 6) (.int .i64 s.need))
          clear HN HT HD2 ho3 hg3 hcl
          go_wp2_with fail
          generalize (((((((w3.setCell ⟨g, i * 7, none⟩ (.int .i64 s.id)).setCell ⟨g, i * 7 + 1, none⟩ (.string s.name)).setCell ⟨g, i * 7 + 2, none⟩ (.int .i64 s.rank)).setCell ⟨g, i * 7 + 3, none⟩ (.bool s.sec)).setCell ⟨g, i * 7 + 4, none⟩ (.bool s.deb)).setCell ⟨g, i * 7 + 5, none⟩ (.bool s.am)).setCell ⟨g, i * 7 + 6, none⟩ (.int .i64 s.need)) = w4 at *
          go_wp2
          go_roundw
          case rel => exact ⟨i + 1, j + 1, zs.set i s, by omega, by omega, by go_num, by go_num, hzl2, HT2, HD3, ho4, hg4⟩
          case measure => simp [intOf]; omega
      · have hje : j = xs.length := by omega
        have HY : Hid (zs.take i = ys) := by show _ = _; rw [HT.out, hys.out, hje, List.take_length]
        have hyl : ys.length = i := by rw [← HY.out, List.length_take]; omega
        have hpre := own_take ho2 (k := i) (by omega) (by simp)
        have HC : Hid ((rulCells zs).take (i * 7) = rulCells ys) := by show _ = _; rw [← HY.out]; exact flat_take _ 7 (fun _ => rfl) zs i (by omega)
        rw [HC.out] at hpre
        have hne : ¬ c = i := by omega
        have hro : i + (xs.length - i) ≤ c := by omega
        have hz1 : ∀ c ∈ (Value.agg #[.int .i64 0, .string ⟨#[]⟩, .int .i64 0, .bool false, .bool false, .bool false, .int .i64 0]).cells.toList, c.oneCell' = true := by simp [Value.cells, Value.oneCell']
        have hiI2 : (i : Int) ≤ (xs.length : Int) := by omega
        have hiI3 : i ≤ xs.length := by omega
        have hiI4 : i ≤ c := by omega
        clear HT HD HY HC ho2
        go_wp2_with (refine wpl_clear rfl (.tmp 38) 24 rfl el_Rul zv_Rul hz1 rfl rfl rfl hpre hro ?_; intro w4 ho4 hg4)
        exact bodyPost_ret (v := .slice (some ⟨g, 0, none⟩) i c) (by simp [results, Try.results32, go_sem]) rfl ⟨by rw [hyl], by rw [hyl]; exact ho4, grown_trans hg2 hg4⟩
theorem rankLt_eq (x y : Rul) : rankLt x y = decide (y.rank < x.rank) := by
  refine decide_eq_decide.2 ?_
  unfold rankCf cmpI
  split
  · omega
  · split <;> omega
theorem above_sorted {xs : List Rul} {t : Int} (hg : goodRul xs = true) (ht : -1 ≤ t ∧ t ≤ 9) : (sortS rankLt (xs.filter fun s => !decide (s.rank ≤ t))).map (fun s : Rul => s.id) = aboveL xs t := by
  have hr := goodRul_rank hg
  unfold aboveL
  rw [sortS_bands (key := fun s : Rul => s.rank) rankLt_eq (top := 9) (n := (9 - t).toNat) (fun x hx => by
    have h1 := hr x (List.mem_filter.1 hx).1
    have h2 := (List.mem_filter.1 hx).2
    simp only [Bool.not_eq_true', decide_eq_false_iff_not] at h2
    omega), bands_filter (key := fun s : Rul => s.rank) (by omega)]
set_option maxHeartbeats 8000000 in
set_option maxRecDepth 100000 in
theorem above_any (A : Option Addr) (c : Nat) (xs : List Rul) (t : Int) (w : World) (hn : xs.length ≤ maxLen) (hlc : xs.length ≤ c) (hx : Rd w A (rulCells xs)) (hs : ∀ y ∈ xs, y.name.size ≤ maxLen) :
    Calls Try.prog 18 #[.slice A xs.length c, .int .i64 t] w fun en w' => ∃ A' c', en = .returned (.tuple #[.slice A' (aboveR xs t).1.length c', .bool (aboveR xs t).2]) ∧ w'.ownsRow w.heap.size 3 1 (.slice A' (aboveR xs t).1.length c') (aboveR xs t).1.length (intCells (aboveR xs t).1) ∧ Below w.heap.size w w' := by
  obtain ⟨r, hr⟩ : ∃ r, r = aboveR xs t := ⟨_, rfl⟩
  rw [← hr]
  have Hv : Hid (∀ w1, Below w.heap.size w w1 → Calls Try.prog 25 #[.slice A xs.length c] w1 fun e w' => e = .returned (.bool (goodRul xs)) ∧ Below w1.heap.size w1 w') :=
    fun w1 hb => isRules_any A c xs w1 hn hlc (hx.below hb) hs
  unfold aboveR at hr
  have HRE := Lib.hid hr
  clear hr hs
  have hb0 := bnew (Below.refl w.heap.size w) (.cells #[.int .i64 t] 3)
  have hq0 : (w.alloc (.cells #[.int .i64 t] 3)).cell? ⟨w.heap.size, 0, none⟩ = some (.int .i64 t) := (World.cell?_alloc_at _ _ _ _ rfl).trans rfl
  have hq00 := hq0
  by_cases hm : (goodRul xs && inB t (-1) 9) = true
  · have HR : Hid (r = (aboveL xs t, true)) := HRE.out.trans (if_pos hm)
    simp only [Bool.and_eq_true] at hm
    obtain ⟨hg, ht⟩ := hm
    have ht' : -1 ≤ t ∧ t ≤ 9 := by simpa [inB] using ht
    have h8 := goodRul_len' hg
    have HSO := Lib.hid (above_sorted hg ht')
    obtain ⟨ys, hys⟩ : ∃ ys, ys = xs.filter (fun s => !decide (s.rank ≤ t)) := ⟨_, rfl⟩
    have hyl : ys.length ≤ 8 := Nat.le_trans (by rw [hys]; exact List.length_filter_le _ _) h8
    rw [← hys] at HSO
    have HYS := Lib.hid hys
    have Hd : Hid (∀ (A1 : Option Addr) (c1 : Nat) (w1 : World), w1.ownsRow w.heap.size 35 7 (.slice A1 xs.length c1) xs.length (rulCells xs) → w1.cell? ⟨w.heap.size, 0, none⟩ = some (.int .i64 t) → some w.heap.size ≠ (Value.slice A1 xs.length c1).ownBlock →
        Calls Try.prog 32 #[.slice A1 xs.length c1, .func (.func 34) #[] #[.pointer (some ⟨w.heap.size, 0, none⟩)]] w1 (RowRet w1 w.heap.size 35 7 A1 c1 ys.length (rulCells ys) (Value.slice A1 xs.length c1).ownBlock)) :=
      fun A1 c1 w1 ho hq hqb => deleteFunc_Rul w.heap.size _ (fun s => decide (s.rank ≤ t)) A1 c1 w.heap.size xs ys w1 (by omega) ho hq hqb HYS (fun w2 s h => closA_any s w.heap.size t w2 h)
    have Hc : Hid (∀ w1, Below w.heap.size w w1 → Calls Try.prog 33 #[.slice A xs.length c] w1 (RowRetE w1 w1.heap.size 35 7 xs.length (rulCells xs) none)) := fun w1 hb => clone_Rul A c xs w1 (by omega) (hx.below hb)
    have Hs : Hid (∀ (A1 : Option Addr) (c1 : Nat) (w1 : World), w1.ownsRow w.heap.size 35 7 (.slice A1 ys.length c1) ys.length (rulCells ys) → Calls Try.prog 35 #[.slice A1 ys.length c1, .func (.func 36) #[] #[]] w1 fun e w' => e = .returned (.tuple #[]) ∧ w'.ownsRow w.heap.size 35 7 (.slice A1 ys.length c1) ys.length (rulCells (sortS rankLt ys)) ∧ w1.grownBy w' (Value.slice A1 ys.length c1).ownBlock) :=
      fun A1 c1 w1 ho => rankSort_any A1 c1 w.heap.size ys w1 hyl ho
    have hZL : (sortS rankLt ys).length = ys.length := sortS_len rankLt ys
    clear HRE hx hn hys HYS
    generalize sortS rankLt ys = zs at *
    generalize hnn : xs.length = nn at *
    go_enter Try.func18, Try.ntmps18
    go_wp2_with (first | (go_at_call 25; refine (Hv.out _ hb0).mono ?_; rintro en w1 ⟨rfl, hb1⟩; replace hq0 := cell_below' hq0 hb1) | (go_at_call 31; refine (inside_yes _ _ _ _ ht').mono ?_; rintro en w9 ⟨rfl, rfl⟩) | (go_at_call 33; refine (Hc.out _ (btr hb0 hb1)).mono ?_; rintro en w2 ⟨A2, c2, rfl, ho2, hg2⟩; have hb2 := below_grown (B := w1.heap.size) hg2 (Nat.le_refl _) (fun k h => by cases h)) | (go_at_call 32; refine (Hd.out _ _ _ (own_base ho2 (btr hb0 hb1).size) (cell_below' hq0 hb2) (fun e => by have h1 := ho2.lt _ e.symm; have h2 := hb0.size; have h3 := hb1.size; simp at h3; omega)).mono ?_; rintro en w3 ⟨rfl, ho3, hg3⟩))
    have hb03 : Below w.heap.size w w3 := btr (btr hb0 hb1) (hb2.grown hg3 hb2.size (fun k hk => (ho2.lt k hk).1))
    go_wp2_with (go_at_call 35; refine (Hs.out _ _ _ ho3).mono ?_; rintro en w4 ⟨rfl, ho4, hg4⟩; have hb4 : Below w.heap.size w w4 := hb03.grown hg4 hb03.size (fun k hk => (ho3.lt k hk).1))
    have hbE := bnew hb4 (.cells #[] 3)
    have ho0 := own_lit (e := 3) (size := 1) (B := w.heap.size) (w := w4) #[] 0 hb4.size (by unfold maxLen; omega) rfl
    rw [← hZL] at ho4
    have hRT := (own_rd ho4).alloc (.cells #[] 3)
    have HTb : Hid (∀ ad, A2 = some ad → ad.block < w4.heap.size) := fun ad e => (ho4.lt ad.block (by rw [e]; rfl)).2
    have HT0 : Hid (∀ ad, A2 = some ad → some ad.block ≠ (Value.slice (some ⟨w4.heap.size, 0, none⟩) 0 0).ownBlock) := fun ad e h => by
      have := HTb.out ad e
      simp [Value.ownBlock] at h; omega
    have hbs := bnew (Below.refl w4.heap.size w4) (.cells #[] 3)
    generalize w4.alloc (.cells #[] 3) = wE at *
    have hz8 : zs.length ≤ 8 := by omega
    rw [← hZL]
    clear hZL
    clear ho2 ho3 ho4 hb1 hb2 hg2 hg3 hg4 hb03 hb4 Hv Hd Hc Hs hb0 hq0 hq00
    go_loopw [7, 27] (fun out i wr => ∃ k : Nat, ∃ (A' : Option Addr) (c' : Nat) (L : List Int), k ≤ zs.length ∧ i = .int .i64 k ∧ out = .slice A' L.length c' ∧ Hid ((zs.take k).map (fun s : Rul => s.id) = L) ∧ L.length = k ∧ wr.ownsRow w.heap.size 3 1 (.slice A' L.length c') L.length (intCells L) ∧ Rd wr A2 (rulCells zs) ∧ Hid (∀ ad, A2 = some ad → some ad.block ≠ (Value.slice A' L.length c').ownBlock) ∧ w4.heap.size ≤ wr.heap.size ∧ Below w.heap.size w wr) (fun _ i _ => zs.length - (intOf i).toNat)
    case atStart => exact ⟨0, some ⟨w4.heap.size, 0, none⟩, 0, [], by omega, rfl, rfl, rfl, rfl, ho0, hRT, HT0, hbs.size, hbE⟩
    case round =>
      obtain ⟨k, A', c', L, hk, rfl, rfl, HP, hLk, ho, hT, HTn, hsz2, hb⟩ := hrel
      clear ho0 hRT HT0 hbs hbE
      by_cases hlt : k < zs.length
      · obtain ⟨b, off, rfl, d0, d1, d2, d3, d4, d5, d6⟩ := Rd.rul hT hlt
        have HN : Hid ((zs.take (k + 1)).map (fun s : Rul => s.id) = L ++ [zs[k].id]) := by show _ = _; rw [List.take_succ_eq_append_getElem hlt, List.map_append, HP.out]; rfl
        have hkI : (k : Int) < (zs.length : Int) := by omega
        generalize zs[k] = s at *
        clear HP
        have hbw := bnew (Below.refl wr.heap.size wr) (.cells #[.int .i64 s.id, .string s.name, .int .i64 s.rank, .bool s.sec, .bool s.deb, .bool s.am, .int .i64 s.need] 35)
        have n0 : (wr.alloc (.cells #[.int .i64 s.id, .string s.name, .int .i64 s.rank, .bool s.sec, .bool s.deb, .bool s.am, .int .i64 s.need] 35)).cell? ⟨wr.heap.size, 0, none⟩ = some (.int .i64 s.id) := (World.cell?_alloc_at _ _ _ _ rfl).trans rfl
        have hoq := own_below ho hbw
        have hTq := hT.below hbw
        have hszq : w4.heap.size ≤ (wr.alloc (.cells #[.int .i64 s.id, .string s.name, .int .i64 s.rank, .bool s.sec, .bool s.deb, .bool s.am, .int .i64 s.need] 35)).heap.size := Nat.le_trans hsz2 hbw.size
        have hbq := btr hb hbw
        clear ho hT hb hbw
        have hTW := hTq.alloc (.cells #[.int .i64 s.id] 3)
        have hszW : w4.heap.size ≤ ((wr.alloc (.cells #[.int .i64 s.id, .string s.name, .int .i64 s.rank, .bool s.sec, .bool s.deb, .bool s.am, .int .i64 s.need] 35)).alloc (.cells #[.int .i64 s.id] 3)).heap.size := by simp; simp at hszq; omega
        have hbW := bnew hbq (.cells #[.int .i64 s.id] 3)
        have hoW := own_below hoq (bnew (Below.refl (wr.alloc (.cells #[.int .i64 s.id, .string s.name, .int .i64 s.rank, .bool s.sec, .bool s.deb, .bool s.am, .int .i64 s.need] 35)).heap.size (wr.alloc (.cells #[.int .i64 s.id, .string s.name, .int .i64 s.rank, .bool s.sec, .bool s.deb, .bool s.am, .int .i64 s.need] 35))) (.cells #[.int .i64 s.id] 3))
        have hrd : Rd ((wr.alloc (.cells #[.int .i64 s.id, .string s.name, .int .i64 s.rank, .bool s.sec, .bool s.deb, .bool s.am, .int .i64 s.need] 35)).alloc (.cells #[.int .i64 s.id] 3)) (some ⟨wr.heap.size + 1, 0, none⟩) [.int .i64 s.id] := by
          have := Rd.made (w := (wr.alloc (.cells #[.int .i64 s.id, .string s.name, .int .i64 s.rank, .bool s.sec, .bool s.deb, .bool s.am, .int .i64 s.need] 35))) (cs := #[.int .i64 s.id]) (t := 3)
          simpa using this
        go_wp2_with (at_builtin; refine wpl_app rfl (.tmp 31) (.tmp 34) 38 rfl el_Int (v := .slice A' L.length c') rfl hoW rfl rfl hrd (by simp [Value.oneCell']) (by unfold maxLen; omega) (by omega) hbW.size ?_; intro A1 c1 w5 ho1 hg1 hor; have hb3 : Below w.heap.size w w5 := hbW.grown hg1 hbW.size (fun k hk => (hoW.lt k hk).1); have hT3 := hTW.grown hg1 HTn.out; have hsz3 := Nat.le_trans hszW hg1.size; have HOR := Lib.hid hor; clear hor hg1)
        have HT3 : Hid (∀ ad, some (⟨b, off, none⟩ : Addr) = some ad → some ad.block ≠ (Value.slice A1 (L ++ [s.id]).length c1).ownBlock) := fun ad e => by
          have e2 : (Value.slice A1 (L ++ [s.id]).length c1).ownBlock = (Value.slice A1 (L.length + 1) c1).ownBlock := by simp
          rw [e2]
          rcases HOR.out with h | h
          · rw [h]; exact HTn.out ad e
          · rw [h]; intro h2
            have := HTb.out ad e
            simp at h2; omega
        clear HOR hoW hTW hrd hbW hoq hTq hszq hszW
        go_roundw
        case rel => exact ⟨k + 1, A1, c1, L ++ [s.id], by omega, by go_num, by simp [hLk], HN, by simp; omega, by (rw [intCells_append]; simpa [intCells] using ho1), hT3, HT3, hsz3, hb3⟩
        case measure => simp [intOf]; omega
      · have HF : Hid (L = aboveL xs t) := by have := HP.out; rw [List.take_of_length_le (by omega), HSO.out] at this; exact this.symm
        clear HP
        go_wp2
        exact bodyPost_ret (v := .tuple #[.slice A' L.length c', .bool true]) (by simp [results, Try.results18, go_sem] <;> omega) rfl ⟨A', c', by rw [HR.out, HF.out], by rw [HR.out, ← HF.out]; exact ho, hb⟩
  · have HR : Hid (r = ([], false)) := HRE.out.trans (if_neg hm)
    clear HRE hx hn
    by_cases hg : goodRul xs = true
    · have ht : ¬ (-1 ≤ t ∧ t ≤ 9) := fun h => hm (by rw [hg, inB_yes h]; rfl)
      clear hm
      go_enter Try.func18, Try.ntmps18
      go_wp2_with (first | (go_at_call 25; refine (Hv.out _ hb0).mono ?_; rintro en w1 ⟨rfl, hb1⟩; replace hq0 := cell_below' hq0 hb1) | (go_at_call 31; refine (inside_no _ _ _ _ ht).mono ?_; rintro en w9 ⟨rfl, rfl⟩))
      exact bodyPost_ret (v := .tuple #[.slice none 0 0, .bool false]) (by simp [results, Try.results18, go_sem]) rfl ⟨none, 0, by rw [HR.out]; rfl, by rw [HR.out]; exact own_nil, btr hb0 hb1⟩
    · have hg' : goodRul xs = false := by simpa using hg
      clear hm hg
      go_enter Try.func18, Try.ntmps18
      go_wp2_with (go_at_call 25; refine (Hv.out _ hb0).mono ?_; rintro en w1 ⟨rfl, hb1⟩)
      exact bodyPost_ret (v := .tuple #[.slice none 0 0, .bool false]) (by simp [results, Try.results18, go_sem]) rfl ⟨none, 0, by rw [HR.out]; rfl, by rw [HR.out]; exact own_nil, btr hb0 hb1⟩
set_option maxHeartbeats 8000000 in
set_option maxRecDepth 100000 in
theorem specAbove_any (A : Option Addr) (c : Nat) (xs : List Rul) (t : Int) (w : World) (hn : xs.length ≤ maxLen) (hlc : xs.length ≤ c) (hx : Rd w A (rulCells xs)) (hs : ∀ y ∈ xs, y.name.size ≤ maxLen) :
    Calls Try.prog 17 #[.slice A xs.length c, .int .i64 t] w fun en w' => ∃ A' c', en = .returned (.tuple #[.slice A' (aboveR xs t).1.length c', .bool (aboveR xs t).2]) ∧ w'.ownsRow w.heap.size 3 1 (.slice A' (aboveR xs t).1.length c') (aboveR xs t).1.length (intCells (aboveR xs t).1) ∧ Below w.heap.size w w' := by
  obtain ⟨r, hr⟩ : ∃ r, r = aboveR xs t := ⟨_, rfl⟩
  rw [← hr]
  have Hv : Hid (∀ w1, Below w.heap.size w w1 → Calls Try.prog 23 #[.slice A xs.length c] w1 fun e w' => e = .returned (.bool (goodRul xs)) ∧ Below w1.heap.size w1 w') :=
    fun w1 hb => l2Good_any A c xs w1 hn hlc (hx.below hb) hs
  unfold aboveR at hr
  have HRE := Lib.hid hr
  clear hr hs
  have hb0 := bnew (Below.refl w.heap.size w) (.cells #[] 3)
  have ho00 := own_lit (e := 3) (size := 1) (B := w.heap.size) (w := w) #[] 0 (Nat.le_refl _) (by unfold maxLen; omega) rfl
  by_cases hm : (goodRul xs && inB t (-1) 9) = true
  · have HR : Hid (r = (aboveL xs t, true)) := HRE.out.trans (if_pos hm)
    simp only [Bool.and_eq_true] at hm
    obtain ⟨hg, ht⟩ := hm
    have ht' : -1 ≤ t ∧ t ≤ 9 := by simpa [inB] using ht
    have h8 := goodRul_len' hg
    have HBL : Hid (∀ n, (bands (fun s : Rul => s.rank) 9 xs n).length ≤ xs.length) := fun n => bands_len _ _ _ n
    clear HRE hn
    go_enter Try.func17, Try.ntmps17
    go_wp2_with (first | (go_at_call 23; refine (Hv.out _ hb0).mono ?_; rintro en w1 ⟨rfl, hb1⟩) | (go_at_call 30; refine (l1In_yes _ _ _ _ ht').mono ?_; rintro en w9 ⟨rfl, rfl⟩))
    have ho0 := own_below ho00 hb1
    have hb01 := btr hb0 hb1
    clear ho00 hb0 hb1 Hv hg ht
    obtain ⟨ht1, ht2⟩ := ht'
    go_loopw [6, 7] (fun out a wr => ∃ n : Nat, ∃ (A' : Option Addr) (c' : Nat) (L : List Int), (n : Int) ≤ 9 - t ∧ a = .int .i64 (9 - n) ∧ out = .slice A' L.length c' ∧ Hid ((bands (fun s : Rul => s.rank) 9 xs n).map (fun s : Rul => s.id) = L) ∧ wr.ownsRow w.heap.size 3 1 (.slice A' L.length c') L.length (intCells L) ∧ Below w.heap.size w wr) (fun _ a _ => (intOf a + 1).toNat)
    case atStart => exact ⟨0, some ⟨w.heap.size, 0, none⟩, 0, [], by omega, rfl, rfl, rfl, ho0, hb01⟩
    case round =>
      obtain ⟨n, A', c', L, hn, rfl, rfl, HP, ho, hb⟩ := hrel
      clear ho0 hb01
      by_cases hlt : t < 9 - (n : Int)
      · have HL8 : Hid (∀ k, k ≤ xs.length → (L ++ ((xs.take k).filter fun s : Rul => s.rank == 9 - (n : Int)).map (fun s : Rul => s.id)).length ≤ 16) := fun k hk => by
          have h1 := HBL.out n
          have h2 : L.length = (bands (fun s : Rul => s.rank) 9 xs n).length := by rw [← HP.out, List.length_map]
          have h3 := List.length_filter_le (fun s : Rul => s.rank == 9 - (n : Int)) (xs.take k)
          rw [List.length_take] at h3
          rw [List.length_append, List.length_map]
          omega
        have HN : Hid ((bands (fun s : Rul => s.rank) 9 xs (n + 1)).map (fun s : Rul => s.id) = L ++ (xs.filter fun s : Rul => s.rank == 9 - (n : Int)).map (fun s : Rul => s.id)) := by show _ = _; rw [bands_step, HP.out]
        clear HP
        obtain ⟨a, ha⟩ : ∃ a : Int, a = 9 - (n : Int) := ⟨_, rfl⟩
        rw [← ha] at HL8 HN hlt ⊢
        have ha2 : a ≤ 9 := by omega
        have hna : (n : Int) + 1 ≤ 9 - t := by omega
        have HA := Lib.hid ha
        clear ha hn
        go_wp2_with fail
        obtain ⟨wo, hwo⟩ : ∃ q, q = wr := ⟨_, rfl⟩
        subst hwo
        go_loopw [6, 8] (fun out i wr => ∃ k : Nat, ∃ (A' : Option Addr) (c' : Nat) (L' : List Int), k ≤ xs.length ∧ i = .int .i64 k ∧ out = .slice A' L'.length c' ∧ Hid (L ++ ((xs.take k).filter fun s : Rul => s.rank == a).map (fun s : Rul => s.id) = L') ∧ wr.ownsRow w.heap.size 3 1 (.slice A' L'.length c') L'.length (intCells L') ∧ Below w.heap.size w wr) (fun _ i _ => xs.length - (intOf i).toNat)
        case atStart => exact ⟨0, A', c', L, by omega, rfl, rfl, by show _ = _; simp, ho, hb⟩
        case round =>
          obtain ⟨k, A2, c2, L2, hk, rfl, rfl, HQ, ho2, hb2⟩ := hrel
          clear ho hb
          by_cases hkl : k < xs.length
          · obtain ⟨b, off, rfl, d0, d1, d2, d3, d4, d5, d6⟩ := Rd.rul (hx.below hb2) hkl
            have hL2 : L2.length ≤ 16 := by have := HL8.out k hk; rwa [HQ.out] at this
            have HF := Lib.hid (filter_at (fun s : Rul => s.rank == a) xs k hkl)
            have hkI : (k : Int) < (xs.length : Int) := by omega
            generalize xs[k] = s at *
            clear d1 d3 d4 d5 d6
            by_cases hq : s.rank = a
            · have HQ2 : Hid (L ++ ((xs.take (k + 1)).filter fun s : Rul => s.rank == a).map (fun s : Rul => s.id) = L2 ++ [s.id]) := by
                show _ = _
                rw [HF.out, hq, beq_self_eq_true, cond_true, List.map_append, ← List.append_assoc, HQ.out]; rfl
              clear HF HQ HL8
              have hbW := bnew hb2 (.cells #[.int .i64 s.id] 3)
              have hoW := own_below ho2 (bnew (Below.refl wr.heap.size wr) (.cells #[.int .i64 s.id] 3))
              have hrd : Rd (wr.alloc (.cells #[.int .i64 s.id] 3)) (some ⟨wr.heap.size, 0, none⟩) [.int .i64 s.id] := Rd.made
              go_wp2_with (at_builtin; go_must (refine wpl_app rfl (.tmp 37) (.tmp 43) 38 rfl el_Int (v := .slice A2 L2.length c2) rfl hoW rfl rfl hrd (by simp [Value.oneCell']) (by unfold maxLen; omega) (by omega) hbW.size ?_); intro A1 c1 w5 ho1 hg1 hor; have hb3 : Below w.heap.size w w5 := hbW.grown hg1 hbW.size (fun k hk => (hoW.lt k hk).1))
              clear hoW hbW hrd
              go_roundw
              case rel => exact ⟨k + 1, A1, c1, L2 ++ [s.id], by omega, by go_num, by simp, HQ2, by (rw [intCells_append]; simpa [intCells] using ho1), hb3⟩
              case measure => simp [intOf]; omega
            · have HQ2 : Hid (L ++ ((xs.take (k + 1)).filter fun s : Rul => s.rank == a).map (fun s : Rul => s.id) = L2) := by
                show _ = _
                rw [HF.out, beq_eq_false_iff_ne.2 hq, cond_false, List.append_nil, HQ.out]
              clear HF HQ
              go_wp2
              go_roundw
              case rel => exact ⟨k + 1, A2, c2, L2, by omega, by go_num, rfl, HQ2, ho2, hb2⟩
              case measure => simp [intOf]; omega
          · have HF : Hid ((bands (fun s : Rul => s.rank) 9 xs (n + 1)).map (fun s : Rul => s.id) = L2) := by show _ = _; rw [HN.out, ← HQ.out, List.take_of_length_le (by omega)]
            clear HQ HN
            go_wp2
            go_roundw
            case rel => exact ⟨n + 1, A2, c2, L2, by omega, by rw [HA.out]; go_num, rfl, HF, ho2, hb2⟩
            case measure => have := HA.out; simp [intOf]; omega
      · have hF : n = (9 - t).toNat := by omega
        have HF : Hid (L = aboveL xs t) := by show _ = _; rw [← HP.out, hF]; rfl
        clear HP hF
        go_wp2
        exact bodyPost_ret (v := .tuple #[.slice A' L.length c', .bool true]) (by simp [results, Try.results17, go_sem]) rfl ⟨A', c', by rw [HR.out, HF.out], by rw [HR.out, ← HF.out]; exact ho, hb⟩
  · have HR : Hid (r = ([], false)) := HRE.out.trans (if_neg hm)
    clear HRE hx hn
    by_cases hg : goodRul xs = true
    · have ht : ¬ (-1 ≤ t ∧ t ≤ 9) := fun h => hm (by rw [hg, inB_yes h]; rfl)
      clear hm
      go_enter Try.func17, Try.ntmps17
      go_wp2_with (first | (go_at_call 23; refine (Hv.out _ hb0).mono ?_; rintro en w1 ⟨rfl, hb1⟩) | (go_at_call 30; refine (l1In_no _ _ _ _ ht).mono ?_; rintro en w9 ⟨rfl, rfl⟩))
      exact bodyPost_ret (v := .tuple #[.slice (some ⟨w.heap.size, 0, none⟩) 0 0, .bool false]) (by simp [results, Try.results17, go_sem]) rfl ⟨some ⟨w.heap.size, 0, none⟩, 0, by rw [HR.out]; rfl, by rw [HR.out]; exact own_below ho00 hb1, btr hb0 hb1⟩
    · have hg' : goodRul xs = false := by simpa using hg
      clear hm hg
      go_enter Try.func17, Try.ntmps17
      go_wp2_with (go_at_call 23; refine (Hv.out _ hb0).mono ?_; rintro en w1 ⟨rfl, hb1⟩)
      exact bodyPost_ret (v := .tuple #[.slice (some ⟨w.heap.size, 0, none⟩) 0 0, .bool false]) (by simp [results, Try.results17, go_sem]) rfl ⟨some ⟨w.heap.size, 0, none⟩, 0, by rw [HR.out]; rfl, by rw [HR.out]; exact own_below ho00 hb1, btr hb0 hb1⟩
end Go.Proofs.Ytljbllinlhgklaa
