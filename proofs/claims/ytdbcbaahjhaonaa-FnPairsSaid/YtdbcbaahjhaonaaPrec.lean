/-
  Contracts of the functions on precedences: the order of pairs, whether a precedence is valid. Conditions: lengths within Go's range.
-/
import Derived.Test.YtdbcbaahjhaonaaStrPr
import Derived.Test.YtdbcbaahjhaonaaIntS
import Derived.Test.YtdbcbaahjhaonaaRow
namespace Go.My
open Go.RowKit
def cmpI (a b : Int) : Int := if a < b then -1 else if b < a then 1 else 0
def lexB (x y : Pr) : Bool := decide (x.a < y.a) || (x.a == y.a && decide (x.b < y.b))
def cmpP (x y : Pr) : Int := if cmpI x.a y.a ≠ 0 then cmpI x.a y.a else cmpI x.b y.b
theorem cmpP_lex (x y : Pr) : decide (cmpP x y < 0) = lexB x y := by
  unfold cmpP cmpI lexB
  by_cases h1 : x.a < y.a
  · simp [h1]
  · by_cases h2 : y.a < x.a
    · have : ¬ x.a = y.a := by omega
      simp [h1, h2, this]
    · have e : x.a = y.a := by omega
      by_cases h3 : x.b < y.b
      · simp [e, h3]
      · by_cases h4 : y.b < x.b <;> simp [e, h3, h4]
theorem cmpP_yes {x y : Pr} (h : lexB x y = true) : cmpP x y < 0 := by rw [← cmpP_lex] at h; simpa using h
theorem cmpP_no {x y : Pr} (h : ¬ lexB x y = true) : 0 ≤ cmpP x y := by rw [← cmpP_lex] at h; simpa using h
def lastLex (pre : List Pr) (x : Pr) : Bool := match pre.getLast? with
  | none => true
  | some y => lexB y x
theorem lastLex_zero (xs : List Pr) (x : Pr) : lastLex (xs.take 0) x = true := rfl
theorem lastLex_succ (xs : List Pr) (k : Nat) (hk : k < xs.length) (x : Pr) : lastLex (xs.take (k + 1)) x = lexB xs[k] x := by
  rw [List.take_succ_eq_append_getElem hk]; unfold lastLex; rw [List.getLast?_concat]
/-- The index of the first element with a property, counted from k, or -1. -/
def idxFrom {α : Type} (p : α → Bool) : Nat → List α → Int
  | _, [] => -1
  | k, x :: r => if p x = true then (k : Int) else idxFrom p (k + 1) r
theorem idxFrom_at {α : Type} {p : α → Bool} {j k : Nat} {xs : List α} (hk : k < xs.length) : idxFrom p j (xs.drop k) = if p xs[k] = true then (j : Int) else idxFrom p (j + 1) (xs.drop (k + 1)) := by
  rw [List.drop_eq_getElem_cons hk]; rfl
theorem idxFrom_range {α : Type} (p : α → Bool) (k : Nat) (xs : List α) : -1 ≤ idxFrom p k xs ∧ idxFrom p k xs < k + xs.length ∧ (0 ≤ idxFrom p k xs → (k : Int) ≤ idxFrom p k xs) := by
  induction xs generalizing k with
  | nil => simp [idxFrom]; omega
  | cons x r ih =>
    simp only [idxFrom]
    split
    · simp; omega
    · have := ih (k + 1); simp only [List.length_cons]; omega
theorem idxFrom_any {α : Type} (p : α → Bool) (k : Nat) (xs : List α) : decide (0 ≤ idxFrom p k xs) = xs.any p := by
  induction xs generalizing k with
  | nil => simp [idxFrom]
  | cons x r ih =>
    by_cases h : p x = true
    · rw [show idxFrom p k (x :: r) = (k : Int) from if_pos h, List.any_cons, h]; simp
    · rw [show idxFrom p k (x :: r) = idxFrom p (k + 1) r from if_neg h, ih, List.any_cons]; simp at h; simp [h]
def idxOf {α : Type} (p : α → Bool) (xs : List α) : Int := idxFrom p 0 xs
theorem idxOf_range {α : Type} (p : α → Bool) (xs : List α) : -1 ≤ idxOf p xs ∧ idxOf p xs < xs.length := by
  have := idxFrom_range p 0 xs; unfold idxOf; omega
theorem idxOf_any {α : Type} (p : α → Bool) (xs : List α) : decide (0 ≤ idxOf p xs) = xs.any p := idxFrom_any p 0 xs
theorem idxFrom_get {α : Type} {p : α → Bool} {j : Nat} {xs : List α} (h : 0 ≤ idxFrom p j xs) : ∃ i : Nat, ∃ hi : i < xs.length, idxFrom p j xs = ((j + i : Nat) : Int) ∧ p xs[i] = true := by
  induction xs generalizing j with
  | nil => simp [idxFrom] at h
  | cons x r ih =>
    simp only [idxFrom] at h ⊢
    by_cases hx : p x = true
    · rw [if_pos hx]; exact ⟨0, by simp, by simp, hx⟩
    · rw [if_neg hx] at h ⊢
      obtain ⟨i, hi, e, hp⟩ := ih h
      exact ⟨i + 1, by simpa using hi, by rw [e]; omega, hp⟩
theorem idxOf_get {α : Type} {p : α → Bool} {xs : List α} (h : 0 ≤ idxOf p xs) : ∃ i : Nat, ∃ hi : i < xs.length, idxOf p xs = (i : Int) ∧ p xs[i] = true := by
  obtain ⟨i, hi, e, hp⟩ := idxFrom_get h
  exact ⟨i, hi, by unfold idxOf; rw [e]; simp, hp⟩
/-- Each element stands well behind those ahead of it. -/
def goodPre {α : Type} (q : List α → α → Bool) : List α → List α → Bool
  | _, [] => true
  | pre, x :: r => q pre x && goodPre q (pre ++ [x]) r
theorem goodPre_at {α : Type} {q : List α → α → Bool} {xs : List α} {k : Nat} (hk : k < xs.length) : goodPre q (xs.take k) (xs.drop k) = (q (xs.take k) xs[k] && goodPre q (xs.take (k + 1)) (xs.drop (k + 1))) := by
  rw [List.drop_eq_getElem_cons hk, List.take_succ_eq_append_getElem hk]; rfl
theorem goodPre_all {α : Type} {q : List α → α → Bool} {pre xs : List α} (h : goodPre q pre xs = true) : ∀ x ∈ xs, ∃ ys, q ys x = true := by
  induction xs generalizing pre with
  | nil => simp
  | cons x r ih =>
    simp only [goodPre, Bool.and_eq_true] at h
    intro y hy
    rcases List.mem_cons.1 hy with rfl | hy
    · exact ⟨_, h.1⟩
    · exact ih h.2 y hy
/-- The element ahead stands lower. -/
def lastLt {α : Type} (key : α → Int) (pre : List α) (x : α) : Bool := match pre.getLast? with
  | none => true
  | some y => decide (key y < key x)
theorem lastLt_zero {α : Type} (key : α → Int) (xs : List α) (x : α) : lastLt key (xs.take 0) x = true := rfl
theorem lastLt_succ {α : Type} (key : α → Int) (xs : List α) (k : Nat) (hk : k < xs.length) (x : α) : lastLt key (xs.take (k + 1)) x = decide (key xs[k] < key x) := by
  rw [List.take_succ_eq_append_getElem hk]; unfold lastLt; rw [List.getLast?_concat]
theorem any_take_succ {α : Type} (p : α → Bool) (xs : List α) (k : Nat) (hk : k < xs.length) : (xs.take (k + 1)).any p = ((xs.take k).any p || p xs[k]) := by
  rw [List.take_succ_eq_append_getElem hk, List.any_append]; simp only [List.any_cons, List.any_nil, Bool.or_false]
theorem any_take_mono {α : Type} {p : α → Bool} {xs : List α} {j k : Nat} (hjk : j ≤ k) (h : (xs.take j).any p = true) : (xs.take k).any p = true := by
  obtain ⟨x, hx, hp⟩ := List.any_eq_true.1 h
  have e : xs.take j = (xs.take k).take j := by rw [List.take_take, Nat.min_eq_left hjk]
  exact List.any_eq_true.2 ⟨x, List.mem_of_mem_take (by rw [← e]; exact hx), hp⟩
def prOk (K : Int) (x : Pr) : Bool := inB x.a 0 (K - 1) && inB x.b 0 (K - 1) && !(x.a == x.b)
def prFits (K : Int) (pre : List Pr) (x : Pr) : Bool := prOk K x && lastLex pre x
def goodPc (p : Prec) : Bool := inB p.kinds 1 8 && decide (p.over.length ≤ 16) && goodPre (prFits p.kinds) [] p.over
theorem goodPc_in {p : Prec} (h : goodPc p = true) : 1 ≤ p.kinds ∧ p.kinds ≤ 8 ∧ p.over.length ≤ 16 ∧ InK p.over p.kinds.toNat ∧ ∀ x ∈ p.over, x.a ≠ x.b := by
  simp only [goodPc, Bool.and_eq_true, inB, decide_eq_true_eq] at h
  obtain ⟨⟨h1, h2⟩, h3⟩ := h
  have hx : ∀ x ∈ p.over, prOk p.kinds x = true := fun x hx => by
    obtain ⟨ys, hy⟩ := goodPre_all h3 x hx
    simp only [prFits, Bool.and_eq_true] at hy
    exact hy.1
  refine ⟨h1.1, h1.2, h2, fun x hm => ?_, fun x hm => ?_⟩
  · have := hx x hm
    simp only [prOk, Bool.and_eq_true, inB, decide_eq_true_eq] at this
    omega
  · have := hx x hm
    simp only [prOk, Bool.and_eq_true, Bool.not_eq_true', beq_eq_false_iff_ne] at this
    exact this.2
end Go.My
namespace Go.Proofs.Ytdbcbaahjhaonaa
open Go.RowKit Go.My
theorem isNaNI_any (x : Int) (w : World) : Calls Try.prog 88 #[.int .i64 x] w fun e w' => e = .returned (.bool false) ∧ w = w' := by
  go_enter Try.func88, Try.ntmps88
  go_wp2
  go_ret
  exact ⟨rfl, rfl⟩
set_option maxHeartbeats 1000000 in
theorem cmpI_any (a b : Int) (w : World) : Calls Try.prog 69 #[.int .i64 a, .int .i64 b] w fun e w' => e = .returned (.int .i64 (cmpI a b)) ∧ w = w' := by
  by_cases h1 : a < b
  · have HE : Hid (cmpI a b = -1) := if_pos h1
    go_enter Try.func69, Try.ntmps69
    go_wp2_with (go_at_call 88; refine (isNaNI_any _ _).mono ?_; rintro e w1 ⟨rfl, rfl⟩)
    go_ret
    exact ⟨by rw [HE.out]; rfl, rfl⟩
  · by_cases h2 : b < a
    · have HE : Hid (cmpI a b = 1) := (if_neg h1).trans (if_pos h2)
      go_enter Try.func69, Try.ntmps69
      go_wp2_with (go_at_call 88; refine (isNaNI_any _ _).mono ?_; rintro e w1 ⟨rfl, rfl⟩)
      go_ret
      exact ⟨by rw [HE.out]; rfl, rfl⟩
    · have HE : Hid (cmpI a b = 0) := (if_neg h1).trans (if_neg h2)
      go_enter Try.func69, Try.ntmps69
      go_wp2_with (go_at_call 88; refine (isNaNI_any _ _).mono ?_; rintro e w1 ⟨rfl, rfl⟩)
      go_ret
      exact ⟨by rw [HE.out]; rfl, rfl⟩
theorem or2_any (A : Option Addr) (c : Nat) (x y : Int) (w : World) (hx : Rd w A [.int .i64 x, .int .i64 y]) :
    Calls Try.prog 68 #[.slice A 2 c] w fun e w' => e = .returned (.int .i64 (if x ≠ 0 then x else y)) ∧ w = w' := by
  rcases hx with h | ⟨b, off, rfl, hc⟩
  · cases h
  · have c0 : w.cell? ⟨b, off, none⟩ = some (.int .i64 x) := hc 0 (by simp)
    have c1 : w.cell? ⟨b, off + 1, none⟩ = some (.int .i64 y) := hc 1 (by simp)
    clear hc
    by_cases h1 : x = 0
    · rw [if_neg (by simp [h1])]
      have h1' : (x != 0) = false := by simp [h1]
      by_cases h2 : y = 0
      · have h2' : (y != 0) = false := by simp [h2]
        have H2 := Lib.hid h2
        clear h1 h2
        go_enter Try.func68, Try.ntmps68
        go_wp2
        refine wp_loop_rounds 3 ?_
        rw [rounds_succ]
        go_wp2
        rw [rounds_succ]
        go_wp2
        rw [rounds_succ]
        go_wp2
        go_ret
        exact ⟨by rw [H2.out]; rfl, rfl⟩
      · have h2' : (y != 0) = true := by simp [h2]
        clear h1 h2
        go_enter Try.func68, Try.ntmps68
        go_wp2
        refine wp_loop_rounds 3 ?_
        rw [rounds_succ]
        go_wp2
        rw [rounds_succ]
        go_wp2
        go_ret
        exact ⟨rfl, rfl⟩
    · rw [if_pos h1]
      have h1' : (x != 0) = true := by simp [h1]
      clear h1
      go_enter Try.func68, Try.ntmps68
      go_wp2
      refine wp_loop_rounds 3 ?_
      rw [rounds_succ]
      go_wp2
      go_ret
      exact ⟨rfl, rfl⟩
set_option maxHeartbeats 2000000 in
set_option maxRecDepth 100000 in
theorem comparePairs_any (x y : Pr) (w : World) : Calls Try.prog 56 #[.agg #[.int .i64 x.a, .int .i64 x.b], .agg #[.int .i64 y.a, .int .i64 y.b]] w fun e w' => e = .returned (.int .i64 (cmpP x y)) ∧ Below w.heap.size w w' := by
  have HB : Hid (Below w.heap.size w ((w.alloc (.cells #[.int .i64 x.a, .int .i64 x.b] 52)).alloc (.cells #[.int .i64 y.a, .int .i64 y.b] 52))) := bnew (bnew (Below.refl _ _) _) _
  have B1 : Blk ((w.alloc (.cells #[.int .i64 x.a, .int .i64 x.b] 52)).alloc (.cells #[.int .i64 y.a, .int .i64 y.b] 52)) w.heap.size 52 [.int .i64 x.a, .int .i64 x.b] := (Blk.made #[.int .i64 x.a, .int .i64 x.b] rfl).below (bnew (Below.refl _ _) _)
  have B2 : Blk ((w.alloc (.cells #[.int .i64 x.a, .int .i64 x.b] 52)).alloc (.cells #[.int .i64 y.a, .int .i64 y.b] 52)) (w.heap.size + 1) 52 [.int .i64 y.a, .int .i64 y.b] := Blk.made #[.int .i64 y.a, .int .i64 y.b] (by simp)
  have HC : Hid (cmpP x y = if cmpI x.a y.a ≠ 0 then cmpI x.a y.a else cmpI x.b y.b) := rfl
  generalize cmpP x y = v at *
  have C1 : Hid (∀ w1, Calls Try.prog 69 #[.int .i64 x.a, .int .i64 y.a] w1 fun e w' => e = .returned (.int .i64 (cmpI x.a y.a)) ∧ w' = w1) := fun w1 => (cmpI_any _ _ w1).mono fun _ _ h => ⟨h.1, h.2.symm⟩
  have C2 : Hid (∀ w1, Calls Try.prog 69 #[.int .i64 x.b, .int .i64 y.b] w1 fun e w' => e = .returned (.int .i64 (cmpI x.b y.b)) ∧ w' = w1) := fun w1 => (cmpI_any _ _ w1).mono fun _ _ h => ⟨h.1, h.2.symm⟩
  generalize cmpI x.a y.a = u1 at *
  generalize cmpI x.b y.b = u2 at *
  have HO : Hid (∀ w1 A c, Rd w1 A [.int .i64 u1, .int .i64 u2] → Calls Try.prog 68 #[.slice A 2 c] w1 fun e w' => e = .returned (.int .i64 v) ∧ w1 = w') := fun w1 A c h => by rw [HC.out]; exact or2_any A c u1 u2 w1 h
  clear HC
  go_enter Try.func56, Try.ntmps56
  go_wp2_with fail
  generalize (w.alloc (.cells #[.int .i64 x.a, .int .i64 x.b] 52)).alloc (.cells #[.int .i64 y.a, .int .i64 y.b] 52) = W at *
  have k0 : W.drew.cell? ⟨w.heap.size, 0, none⟩ = some (.int .i64 x.a) := B1.cell (j := 0) rfl
  have k1 : W.drew.cell? ⟨w.heap.size, 1, none⟩ = some (.int .i64 x.b) := B1.cell (j := 1) rfl
  have q0 : W.drew.cell? ⟨w.heap.size + 1, 0, none⟩ = some (.int .i64 y.a) := B2.cell (j := 0) rfl
  have q1 : W.drew.cell? ⟨w.heap.size + 1, 1, none⟩ = some (.int .i64 y.b) := B2.cell (j := 1) rfl
  refine wp_region_tail 10 (by kernel_rfl) (by kernel_rfl) ?_
  simp only [List.take_succ_cons, List.take_zero, List.drop_succ_cons, List.drop_zero]
  repeat (go_big_quiet_step (fail))
  go_big_quiet_want
  go_big_quiet_op
  apply Exists.intro
  refine ⟨?_, ?_⟩
  · exact C1.out _
  go_big_quiet_on
  repeat (go_big_quiet_step (fail))
  go_big_quiet_want
  go_big_quiet_op
  apply Exists.intro
  refine ⟨?_, ?_⟩
  · exact C2.out _
  go_big_quiet_on
  repeat (go_big_quiet_step (fail))
  refine wpQuiet_nil ?_
  have hrd : Rd (W.drew.alloc (.cells #[.int .i64 u1, .int .i64 u2] 3)) (some ⟨W.heap.size, 0, none⟩) [.int .i64 u1, .int .i64 u2] := Rd.made
  have HW : Hid (Below w.heap.size w (W.drew.alloc (.cells #[.int .i64 u1, .int .i64 u2] 3))) := bnew HB.out.drew _
  go_wp2_with (go_at_call 68; refine (HO.out _ _ _ hrd).mono ?_; rintro e w1 ⟨rfl, rfl⟩)
  go_ret
  exact ⟨rfl, HW.out⟩
set_option maxHeartbeats 2000000 in
theorem l4Before_any (x y : Pr) (w : World) : Calls Try.prog 78 #[.agg #[.int .i64 x.a, .int .i64 x.b], .agg #[.int .i64 y.a, .int .i64 y.b]] w fun e w' => e = .returned (.bool (lexB x y)) ∧ Below w.heap.size w w' := by
  have HB : Hid (Below w.heap.size w ((w.alloc (.cells #[.int .i64 x.a, .int .i64 x.b] 52)).alloc (.cells #[.int .i64 y.a, .int .i64 y.b] 52))) := bnew (bnew (Below.refl _ _) _) _
  by_cases h1 : x.a < y.a
  · have HE : Hid (lexB x y = true) := by show _ = _; simp [lexB, h1]
    go_enter Try.func78, Try.ntmps78
    go_wp2
    go_ret
    exact ⟨by rw [HE.out]; rfl, HB.out⟩
  · by_cases h2 : x.a = y.a
    · have HE : Hid (lexB x y = decide (x.b < y.b)) := by show _ = _; simp [lexB, h2]
      have h3 : (x.a == y.a) = true := by simp [h2]
      clear h2
      go_enter Try.func78, Try.ntmps78
      go_wp2
      go_ret
      exact ⟨by rw [HE.out]; rfl, HB.out⟩
    · have HE : Hid (lexB x y = false) := by show _ = _; simp [lexB, h1, h2]
      have h3 : (x.a == y.a) = false := by simp [h2]
      clear h2
      go_enter Try.func78, Try.ntmps78
      go_wp2
      go_ret
      exact ⟨by rw [HE.out]; rfl, HB.out⟩
theorem hasKind_any (A : Option Addr) (c : Nat) (p : Prec) (k : Int) (w : World) (hk : 1 ≤ p.kinds ∧ p.kinds ≤ 8) : Calls Try.prog 55 #[.agg #[.int .i64 p.kinds, .slice A p.over.length c], .int .i64 k] w fun e w' => e = .returned (.bool (inB k 0 (p.kinds - 1))) ∧ Below w.heap.size w w' := by
  have hw : IntKind.i64.wrap (p.kinds - 1) = p.kinds - 1 := by rw [IntKind.wrap_i64]; omega
  obtain ⟨h1, h2⟩ := hk
  go_enter Try.func55, Try.ntmps55
  go_wp2_with (go_at_call 54; refine (inside_any _ _ _ _).mono ?_; rintro e w1 ⟨rfl, rfl⟩)
  go_ret
  exact ⟨rfl, bnew (Below.refl _ _) _⟩
set_option maxHeartbeats 8000000 in
set_option maxRecDepth 100000 in
theorem isPrec_any (A : Option Addr) (c : Nat) (p : Prec) (w : World) (hn : p.over.length ≤ maxLen) (hx : Rd w A (prCells p.over)) :
    Calls Try.prog 17 #[.agg #[.int .i64 p.kinds, .slice A p.over.length c]] w fun e w' => e = .returned (.bool (goodPc p)) ∧ Below w.heap.size w w' := by
  unfold maxLen at hn
  obtain ⟨K, xs⟩ := p
  simp only at hn hx ⊢
  have hb0 : Below w.heap.size w (w.alloc (.cells #[.int .i64 K, .slice A xs.length c] 27)) := bnew (Below.refl _ _) _
  have HG : Hid (goodPc ⟨K, xs⟩ = (inB K 1 8 && decide (xs.length ≤ 16) && goodPre (prFits K) [] xs)) := rfl
  by_cases hK : 1 ≤ K ∧ K ≤ 8
  rotate_left
  · have HF : Hid (goodPc ⟨K, xs⟩ = false) := HG.out.trans (by rw [inB_no hK]; rfl)
    clear HG hx
    generalize goodPc ⟨K, xs⟩ = r at *
    go_enter Try.func17, Try.ntmps17
    go_wp2_with (go_at_call 54; refine (inside_no _ _ _ _ hK).mono ?_; rintro e w1 ⟨rfl, rfl⟩)
    go_ret
    exact ⟨by rw [HF.out]; rfl, hb0⟩
  by_cases hl : xs.length ≤ 16
  rotate_left
  · have HF : Hid (goodPc ⟨K, xs⟩ = false) := HG.out.trans (by rw [decide_eq_false hl]; simp)
    have hlI : (16 : Int) < (xs.length : Int) := by omega
    clear HG hx
    generalize goodPc ⟨K, xs⟩ = r at *
    go_enter Try.func17, Try.ntmps17
    go_wp2_with (go_at_call 54; refine (inside_yes _ _ _ _ hK).mono ?_; rintro e w1 ⟨rfl, rfl⟩)
    go_ret
    exact ⟨by rw [HF.out]; rfl, hb0⟩
  have HGE : Hid (goodPc ⟨K, xs⟩ = goodPre (prFits K) [] xs) := HG.out.trans (by rw [inB_yes hK, decide_eq_true hl]; rfl)
  clear HG
  have hlI : ¬ (16 : Int) < (xs.length : Int) := by omega
  have hKw : IntKind.i64.wrap (K - 1) = K - 1 := by rw [IntKind.wrap_i64]; omega
  have hx0 := hx.alloc (.cells #[.int .i64 K, .slice A xs.length c] 27)
  have m0 : (w.alloc (.cells #[.int .i64 K, .slice A xs.length c] 27)).cell? ⟨w.heap.size, 0, none⟩ = some (.int .i64 K) := (World.cell?_alloc_at _ _ _ _ rfl).trans rfl
  have m1 : (w.alloc (.cells #[.int .i64 K, .slice A xs.length c] 27)).cell? ⟨w.heap.size, 1, none⟩ = some (.slice A xs.length c) := (World.cell?_alloc_at _ _ _ _ rfl).trans rfl
  generalize goodPc ⟨K, xs⟩ = r at *
  go_enter Try.func17, Try.ntmps17
  go_wp2_with (go_at_call 54; refine (inside_yes _ _ _ _ hK).mono ?_; rintro e w1 ⟨rfl, rfl⟩)
  generalize w.alloc (.cells #[.int .i64 K, .slice A xs.length c] 27) = W0 at *
  go_loopw [18] (fun i wr => ∃ k : Nat, k ≤ xs.length ∧ i = .int .i64 k ∧ Hid (goodPre (prFits K) [] xs = goodPre (prFits K) (xs.take k) (xs.drop k)) ∧ Below W0.heap.size W0 wr) (fun i _ => xs.length - (intOf i).toNat)
  case atStart => exact ⟨0, by omega, rfl, rfl, Below.refl _ _⟩
  case round =>
    obtain ⟨k, hk, rfl, H, hb⟩ := hrel
    replace m0 := cell_below' m0 hb
    replace m1 := cell_below' m1 hb
    have hx1 := hx0.below hb
    clear hx hx0
    by_cases hlt : k < xs.length
    · obtain ⟨b, off, rfl, c0, c1⟩ := Rd.pr hx1 hlt
      have Hn := Lib.hid (H.out.trans (goodPre_at hlt))
      clear H
      generalize xs[k] = s at *
      have Hf : Hid (prFits K (xs.take k) s = false → goodPre (prFits K) [] xs = false) := by
        intro h
        rw [Hn.out, h]; rfl
      have Hf := Lib.hid (fun h => HGE.out.trans (Hf.out h))
      have HT : Hid (prFits K (xs.take k) s = (prOk K s && lastLex (xs.take k) s)) := rfl
      have HO : Hid (prOk K s = (inB s.a 0 (K - 1) && inB s.b 0 (K - 1) && !(s.a == s.b))) := rfl
      have hbw := bnew (Below.refl wr.heap.size wr) (.cells #[.int .i64 s.a, .int .i64 s.b] 52)
      have hx2 := hx1.below hbw
      have n0 : (wr.alloc (.cells #[.int .i64 s.a, .int .i64 s.b] 52)).cell? ⟨wr.heap.size, 0, none⟩ = some (.int .i64 s.a) := (World.cell?_alloc_at _ _ _ _ rfl).trans rfl
      have n1 : (wr.alloc (.cells #[.int .i64 s.a, .int .i64 s.b] 52)).cell? ⟨wr.heap.size, 1, none⟩ = some (.int .i64 s.b) := (World.cell?_alloc_at _ _ _ _ rfl).trans rfl
      have m0' := cell_below' m0 hbw
      have m1' := cell_below' m1 hbw
      have hkI : (k : Int) < (xs.length : Int) := by omega
      go_wp2_with fail
      generalize wr.alloc (.cells #[.int .i64 s.a, .int .i64 s.b] 52) = w2 at *
      clear m0 m1 c0 c1 hx1
      have g0 := cell_after n0
      have g1 := cell_after n1
      have gm0 := cell_after m0'
      have gm1 := cell_after m1'
      clear n0 n1 m0' m1'
      by_cases h1 : inB s.a 0 (K - 1) = true
      · by_cases h2 : inB s.b 0 (K - 1) = true
        · by_cases h3 : (s.a == s.b) = true
          · have Hr := Lib.hid (Hf.out (by rw [HT.out, HO.out, h3]; simp))
            clear Hf HT HO Hn
            refine wp_region_after (by kernel_rfl) (by kernel_rfl) ?_
            repeat (go_big_quiet_step ((first | (go_at_call 55; exact Calls.after (hasKind_any _ c ⟨K, xs⟩ _ _ hK)) | (go_at_call 56; exact Calls.after (HCP.out _)))))
            refine wpQuiet_nil ?_
            intro nq
            go_wp2
            go_ret
            exact ⟨by rw [Hr.out]; rfl, btr hb0 (btr hb (btr hbw nq.bel))⟩
          · have h3 : (s.a == s.b) = false := by simpa using h3
            by_cases hk0 : k = 0
            · have HLL : Hid (lastLex (xs.take k) s = true) := by show _ = _; rw [hk0]; rfl
              have hk0N : ¬ 0 < k := by omega
              have hk0I : ¬ (0 : Int) < (k : Int) := by omega
              have hd1 : decide ((0 : Int) < (k : Int)) = false := by simp; omega
              have hd2 : decide (0 < k) = false := by simp; omega
              clear hk0
              refine wp_region_after (by kernel_rfl) (by kernel_rfl) ?_
              repeat (go_big_quiet_step ((first | (go_at_call 55; exact Calls.after (hasKind_any _ c ⟨K, xs⟩ _ _ hK)) | (go_at_call 56; exact Calls.after (HCP.out _)))))
              refine wpQuiet_nil ?_
              intro nq
              have Hr : Hid (goodPre (prFits K) [] xs = goodPre (prFits K) (xs.take (k + 1)) (xs.drop (k + 1))) := Hn.out.trans (by rw [HT.out, HO.out, h1, h2, h3, HLL.out]; rfl)
              clear Hf HT HO Hn HLL
              go_wp2
              go_roundw
              case rel => exact ⟨k + 1, by omega, by go_num, Hr, btr hb (btr hbw nq.bel)⟩
              case measure => simp [intOf]; omega
            · obtain ⟨k1, hke⟩ : ∃ k1, k = k1 + 1 := ⟨k - 1, by omega⟩
              have hk1l : k1 < xs.length := by omega
              obtain ⟨b', off', e', p0, p1⟩ := Rd.pr hx2 hk1l
              have k2 : b' = b ∧ off' = off := by simpa using e'.symm
              obtain ⟨rfl, rfl⟩ := k2
              clear e'
              have HL : Hid (lastLex (xs.take k) s = lexB xs[k1] s) := by show _ = _; subst hke; exact lastLex_succ xs k1 hk1l s
              generalize xs[k1] = y at *
              have gp0 := cell_after p0
              have gp1 := cell_after p1
              have hk1 : (k : Int) - 1 = (k1 : Int) := by omega
              have hk0I : (0 : Int) < (k : Int) := by omega
              have hk0N : 0 < k := by omega
              have hd1 : decide ((0 : Int) < (k : Int)) = true := by simp; omega
              have hd2 : decide (0 < k) = true := by simp; omega
              clear hke p0 p1
              have HCP : Hid (∀ w1, Calls Try.prog 56 #[.agg #[.int .i64 y.a, .int .i64 y.b], .agg #[.int .i64 s.a, .int .i64 s.b]] w1 fun e w' => e = .returned (.int .i64 (cmpP y s)) ∧ Below w1.heap.size w1 w') := fun w1 => comparePairs_any y s w1
              have HY := Lib.hid (@cmpP_yes y s)
              have HNo := Lib.hid (@cmpP_no y s)
              by_cases hp : lexB y s = true
              · have hp0 := HY.out hp
                have hp1 : ¬ 0 ≤ cmpP y s := by omega
                have hp2 : decide (0 ≤ cmpP y s) = false := by simp; omega
                have HLL : Hid (lastLex (xs.take k) s = true) := HL.out.trans hp
                clear HL HY HNo hp hp0
                generalize cmpP y s = v at *
                refine wp_region_after (by kernel_rfl) (by kernel_rfl) ?_
                repeat (go_big_quiet_step ((first | (go_at_call 55; exact Calls.after (hasKind_any _ c ⟨K, xs⟩ _ _ hK)) | (go_at_call 56; exact Calls.after (HCP.out _)))))
                refine wpQuiet_nil ?_
                intro nq
                have Hr : Hid (goodPre (prFits K) [] xs = goodPre (prFits K) (xs.take (k + 1)) (xs.drop (k + 1))) := Hn.out.trans (by rw [HT.out, HO.out, h1, h2, h3, HLL.out]; rfl)
                clear Hf HT HO Hn HLL
                go_wp2
                go_roundw
                case rel => exact ⟨k + 1, by omega, by go_num, Hr, btr hb (btr hbw nq.bel)⟩
                case measure => simp [intOf]; omega
              · have hp1 := HNo.out hp
                have hp2 : decide (0 ≤ cmpP y s) = true := by simp; omega
                have Hr := Lib.hid (Hf.out (by rw [HT.out, HL.out, Bool.eq_false_iff.2 hp]; simp))
                clear Hf HT HO Hn HL HY HNo hp
                generalize cmpP y s = v at *
                refine wp_region_after (by kernel_rfl) (by kernel_rfl) ?_
                repeat (go_big_quiet_step ((first | (go_at_call 55; exact Calls.after (hasKind_any _ c ⟨K, xs⟩ _ _ hK)) | (go_at_call 56; exact Calls.after (HCP.out _)))))
                refine wpQuiet_nil ?_
                intro nq
                go_wp2
                go_ret
                exact ⟨by rw [Hr.out]; rfl, btr hb0 (btr hb (btr hbw nq.bel))⟩
        · have h2' : inB s.b 0 (K - 1) = false := by simpa using h2
          have Hr := Lib.hid (Hf.out (by rw [HT.out, HO.out, h2']; simp))
          clear Hf HT HO Hn h2
          refine wp_region_after (by kernel_rfl) (by kernel_rfl) ?_
          repeat (go_big_quiet_step ((first | (go_at_call 55; exact Calls.after (hasKind_any _ c ⟨K, xs⟩ _ _ hK)) | (go_at_call 56; exact Calls.after (HCP.out _)))))
          refine wpQuiet_nil ?_
          intro nq
          go_wp2
          go_ret
          exact ⟨by rw [Hr.out]; rfl, btr hb0 (btr hb (btr hbw nq.bel))⟩
      · have h1' : inB s.a 0 (K - 1) = false := by simpa using h1
        have Hr := Lib.hid (Hf.out (by rw [HT.out, HO.out, h1']; simp))
        clear Hf HT HO Hn h1
        refine wp_region_after (by kernel_rfl) (by kernel_rfl) ?_
        repeat (go_big_quiet_step ((first | (go_at_call 55; exact Calls.after (hasKind_any _ c ⟨K, xs⟩ _ _ hK)) | (go_at_call 56; exact Calls.after (HCP.out _)))))
        refine wpQuiet_nil ?_
        intro nq
        go_wp2
        go_ret
        exact ⟨by rw [Hr.out]; rfl, btr hb0 (btr hb (btr hbw nq.bel))⟩
    · have Hr : Hid (r = true) := HGE.out.trans (by rw [H.out, List.drop_eq_nil_of_le (by omega)]; rfl)
      clear H HGE
      go_wp2
      go_ret
      exact ⟨by rw [Hr.out]; rfl, btr hb0 hb⟩
set_option maxHeartbeats 8000000 in
set_option maxRecDepth 100000 in
theorem l4Good_any (A : Option Addr) (c : Nat) (p : Prec) (w : World) (hn : p.over.length ≤ maxLen) (hx : Rd w A (prCells p.over)) :
    Calls Try.prog 52 #[.agg #[.int .i64 p.kinds, .slice A p.over.length c]] w fun e w' => e = .returned (.bool (goodPc p)) ∧ Below w.heap.size w w' := by
  unfold maxLen at hn
  obtain ⟨K, xs⟩ := p
  simp only at hn hx ⊢
  have hb0 : Below w.heap.size w (w.alloc (.cells #[.int .i64 K, .slice A xs.length c] 27)) := bnew (Below.refl _ _) _
  have HG : Hid (goodPc ⟨K, xs⟩ = (inB K 1 8 && decide (xs.length ≤ 16) && goodPre (prFits K) [] xs)) := rfl
  by_cases hK : 1 ≤ K ∧ K ≤ 8
  rotate_left
  · have HF : Hid (goodPc ⟨K, xs⟩ = false) := HG.out.trans (by rw [inB_no hK]; rfl)
    clear HG hx
    generalize goodPc ⟨K, xs⟩ = r at *
    go_enter Try.func52, Try.ntmps52
    go_wp2_with (go_at_call 84; refine (l1In_no _ _ _ _ hK).mono ?_; rintro e w1 ⟨rfl, rfl⟩)
    go_ret
    exact ⟨by rw [HF.out]; rfl, hb0⟩
  by_cases hl : xs.length ≤ 16
  rotate_left
  · have HF : Hid (goodPc ⟨K, xs⟩ = false) := HG.out.trans (by rw [decide_eq_false hl]; simp)
    have hlI : (16 : Int) < (xs.length : Int) := by omega
    clear HG hx
    generalize goodPc ⟨K, xs⟩ = r at *
    go_enter Try.func52, Try.ntmps52
    go_wp2_with (go_at_call 84; refine (l1In_yes _ _ _ _ hK).mono ?_; rintro e w1 ⟨rfl, rfl⟩)
    go_ret
    exact ⟨by rw [HF.out]; rfl, hb0⟩
  have HGE : Hid (goodPc ⟨K, xs⟩ = goodPre (prFits K) [] xs) := HG.out.trans (by rw [inB_yes hK, decide_eq_true hl]; rfl)
  clear HG
  have hlI : ¬ (16 : Int) < (xs.length : Int) := by omega
  have hKw : IntKind.i64.wrap (K - 1) = K - 1 := by rw [IntKind.wrap_i64]; omega
  have hx0 := hx.alloc (.cells #[.int .i64 K, .slice A xs.length c] 27)
  have m0 : (w.alloc (.cells #[.int .i64 K, .slice A xs.length c] 27)).cell? ⟨w.heap.size, 0, none⟩ = some (.int .i64 K) := (World.cell?_alloc_at _ _ _ _ rfl).trans rfl
  have m1 : (w.alloc (.cells #[.int .i64 K, .slice A xs.length c] 27)).cell? ⟨w.heap.size, 1, none⟩ = some (.slice A xs.length c) := (World.cell?_alloc_at _ _ _ _ rfl).trans rfl
  generalize goodPc ⟨K, xs⟩ = r at *
  go_enter Try.func52, Try.ntmps52
  go_wp2_with (go_at_call 84; refine (l1In_yes _ _ _ _ hK).mono ?_; rintro e w1 ⟨rfl, rfl⟩)
  generalize w.alloc (.cells #[.int .i64 K, .slice A xs.length c] 27) = W0 at *
  go_loopw [3] (fun i wr => ∃ k : Nat, k ≤ xs.length ∧ i = .int .i64 k ∧ Hid (goodPre (prFits K) [] xs = goodPre (prFits K) (xs.take k) (xs.drop k)) ∧ Below W0.heap.size W0 wr) (fun i _ => xs.length - (intOf i).toNat)
  case atStart => exact ⟨0, by omega, rfl, rfl, Below.refl _ _⟩
  case round =>
    obtain ⟨k, hk, rfl, H, hb⟩ := hrel
    replace m0 := cell_below' m0 hb
    replace m1 := cell_below' m1 hb
    have hx1 := hx0.below hb
    clear hx hx0
    by_cases hlt : k < xs.length
    · obtain ⟨b, off, rfl, c0, c1⟩ := Rd.pr hx1 hlt
      have Hn := Lib.hid (H.out.trans (goodPre_at hlt))
      clear H
      generalize xs[k] = s at *
      have Hf : Hid (prFits K (xs.take k) s = false → goodPre (prFits K) [] xs = false) := by
        intro h
        rw [Hn.out, h]; rfl
      have Hf := Lib.hid (fun h => HGE.out.trans (Hf.out h))
      have HT : Hid (prFits K (xs.take k) s = (prOk K s && lastLex (xs.take k) s)) := rfl
      have HO : Hid (prOk K s = (inB s.a 0 (K - 1) && inB s.b 0 (K - 1) && !(s.a == s.b))) := rfl
      have hbw := bnew (Below.refl wr.heap.size wr) (.cells #[.int .i64 s.a, .int .i64 s.b] 52)
      have hx2 := hx1.below hbw
      have n0 : (wr.alloc (.cells #[.int .i64 s.a, .int .i64 s.b] 52)).cell? ⟨wr.heap.size, 0, none⟩ = some (.int .i64 s.a) := (World.cell?_alloc_at _ _ _ _ rfl).trans rfl
      have n1 : (wr.alloc (.cells #[.int .i64 s.a, .int .i64 s.b] 52)).cell? ⟨wr.heap.size, 1, none⟩ = some (.int .i64 s.b) := (World.cell?_alloc_at _ _ _ _ rfl).trans rfl
      have m0' := cell_below' m0 hbw
      have m1' := cell_below' m1 hbw
      have hkI : (k : Int) < (xs.length : Int) := by omega
      go_wp2_with fail
      generalize wr.alloc (.cells #[.int .i64 s.a, .int .i64 s.b] 52) = w2 at *
      clear m0 m1 c0 c1 hx1
      have g0 := cell_after n0
      have g1 := cell_after n1
      have gm0 := cell_after m0'
      have gm1 := cell_after m1'
      clear n0 n1 m0' m1'
      by_cases h1 : inB s.a 0 (K - 1) = true
      · by_cases h2 : inB s.b 0 (K - 1) = true
        · by_cases h3 : (s.a == s.b) = true
          · have Hr := Lib.hid (Hf.out (by rw [HT.out, HO.out, h3]; simp))
            clear Hf HT HO Hn
            refine wp_region_after (by kernel_rfl) (by kernel_rfl) ?_
            repeat (go_big_quiet_step ((first | (go_at_call 84; exact Calls.after_same (l1In_any _ _ _ _)) | (go_at_call 78; exact Calls.after (HCP.out _)))))
            refine wpQuiet_nil ?_
            intro nq
            go_wp2
            go_ret
            exact ⟨by rw [Hr.out]; rfl, btr hb0 (btr hb (btr hbw nq.bel))⟩
          · have h3 : (s.a == s.b) = false := by simpa using h3
            by_cases hk0 : k = 0
            · have HLL : Hid (lastLex (xs.take k) s = true) := by show _ = _; rw [hk0]; rfl
              have hk0N : ¬ 0 < k := by omega
              have hk0I : ¬ (0 : Int) < (k : Int) := by omega
              have hd1 : decide ((0 : Int) < (k : Int)) = false := by simp; omega
              have hd2 : decide (0 < k) = false := by simp; omega
              clear hk0
              refine wp_region_after (by kernel_rfl) (by kernel_rfl) ?_
              repeat (go_big_quiet_step ((first | (go_at_call 84; exact Calls.after_same (l1In_any _ _ _ _)) | (go_at_call 78; exact Calls.after (HCP.out _)))))
              refine wpQuiet_nil ?_
              intro nq
              have Hr : Hid (goodPre (prFits K) [] xs = goodPre (prFits K) (xs.take (k + 1)) (xs.drop (k + 1))) := Hn.out.trans (by rw [HT.out, HO.out, h1, h2, h3, HLL.out]; rfl)
              clear Hf HT HO Hn HLL
              go_wp2
              go_roundw
              case rel => exact ⟨k + 1, by omega, by go_num, Hr, btr hb (btr hbw nq.bel)⟩
              case measure => simp [intOf]; omega
            · obtain ⟨k1, hke⟩ : ∃ k1, k = k1 + 1 := ⟨k - 1, by omega⟩
              have hk1l : k1 < xs.length := by omega
              obtain ⟨b', off', e', p0, p1⟩ := Rd.pr hx2 hk1l
              have k2 : b' = b ∧ off' = off := by simpa using e'.symm
              obtain ⟨rfl, rfl⟩ := k2
              clear e'
              have HL : Hid (lastLex (xs.take k) s = lexB xs[k1] s) := by show _ = _; subst hke; exact lastLex_succ xs k1 hk1l s
              generalize xs[k1] = y at *
              have gp0 := cell_after p0
              have gp1 := cell_after p1
              have hk1 : (k : Int) - 1 = (k1 : Int) := by omega
              have hk0I : (0 : Int) < (k : Int) := by omega
              have hk0N : 0 < k := by omega
              have hd1 : decide ((0 : Int) < (k : Int)) = true := by simp; omega
              have hd2 : decide (0 < k) = true := by simp; omega
              clear hke p0 p1
              have HCP : Hid (∀ w1, Calls Try.prog 78 #[.agg #[.int .i64 y.a, .int .i64 y.b], .agg #[.int .i64 s.a, .int .i64 s.b]] w1 fun e w' => e = .returned (.bool (lexB y s)) ∧ Below w1.heap.size w1 w') := fun w1 => l4Before_any y s w1
              by_cases hp : lexB y s = true
              · have HLL : Hid (lastLex (xs.take k) s = true) := HL.out.trans hp
                clear HL
                generalize lexB y s = v at *
                refine wp_region_after (by kernel_rfl) (by kernel_rfl) ?_
                repeat (go_big_quiet_step ((first | (go_at_call 84; exact Calls.after_same (l1In_any _ _ _ _)) | (go_at_call 78; exact Calls.after (HCP.out _)))))
                refine wpQuiet_nil ?_
                intro nq
                have Hr : Hid (goodPre (prFits K) [] xs = goodPre (prFits K) (xs.take (k + 1)) (xs.drop (k + 1))) := Hn.out.trans (by rw [HT.out, HO.out, h1, h2, h3, HLL.out]; rfl)
                clear Hf HT HO Hn HLL
                go_wp2
                go_roundw
                case rel => exact ⟨k + 1, by omega, by go_num, Hr, btr hb (btr hbw nq.bel)⟩
                case measure => simp [intOf]; omega
              · have hp' : lexB y s = false := by simpa using hp
                have Hr := Lib.hid (Hf.out (by rw [HT.out, HL.out, hp']; simp))
                clear Hf HT HO Hn HL hp
                generalize lexB y s = v at *
                refine wp_region_after (by kernel_rfl) (by kernel_rfl) ?_
                repeat (go_big_quiet_step ((first | (go_at_call 84; exact Calls.after_same (l1In_any _ _ _ _)) | (go_at_call 78; exact Calls.after (HCP.out _)))))
                refine wpQuiet_nil ?_
                intro nq
                go_wp2
                go_ret
                exact ⟨by rw [Hr.out]; rfl, btr hb0 (btr hb (btr hbw nq.bel))⟩
        · have h2' : inB s.b 0 (K - 1) = false := by simpa using h2
          have Hr := Lib.hid (Hf.out (by rw [HT.out, HO.out, h2']; simp))
          clear Hf HT HO Hn h2
          refine wp_region_after (by kernel_rfl) (by kernel_rfl) ?_
          repeat (go_big_quiet_step ((first | (go_at_call 84; exact Calls.after_same (l1In_any _ _ _ _)) | (go_at_call 78; exact Calls.after (HCP.out _)))))
          refine wpQuiet_nil ?_
          intro nq
          go_wp2
          go_ret
          exact ⟨by rw [Hr.out]; rfl, btr hb0 (btr hb (btr hbw nq.bel))⟩
      · have h1' : inB s.a 0 (K - 1) = false := by simpa using h1
        have Hr := Lib.hid (Hf.out (by rw [HT.out, HO.out, h1']; simp))
        clear Hf HT HO Hn h1
        refine wp_region_after (by kernel_rfl) (by kernel_rfl) ?_
        repeat (go_big_quiet_step ((first | (go_at_call 84; exact Calls.after_same (l1In_any _ _ _ _)) | (go_at_call 78; exact Calls.after (HCP.out _)))))
        refine wpQuiet_nil ?_
        intro nq
        go_wp2
        go_ret
        exact ⟨by rw [Hr.out]; rfl, btr hb0 (btr hb (btr hbw nq.bel))⟩
    · have Hr : Hid (r = true) := HGE.out.trans (by rw [H.out, List.drop_eq_nil_of_le (by omega)]; rfl)
      clear H HGE
      go_wp2
      go_ret
      exact ⟨by rw [Hr.out]; rfl, btr hb0 hb⟩
theorem specIsPrec_any (A : Option Addr) (c : Nat) (p : Prec) (w : World) (hn : p.over.length ≤ maxLen) (hx : Rd w A (prCells p.over)) :
    Calls Try.prog 15 #[.agg #[.int .i64 p.kinds, .slice A p.over.length c]] w fun e w' => e = .returned (.bool (goodPc p)) ∧ Below w.heap.size w w' := by
  have hb0 : Below w.heap.size w (w.alloc (.cells #[.int .i64 p.kinds, .slice A p.over.length c] 27)) := bnew (Below.refl _ _) _
  have HC := Lib.hid (l4Good_any A c p (w.alloc (.cells #[.int .i64 p.kinds, .slice A p.over.length c] 27)) hn (hx.alloc _))
  generalize goodPc p = r at *
  go_enter Try.func15, Try.ntmps15
  go_wp2_with (go_at_call 52; refine HC.out.mono ?_; rintro e w1 ⟨rfl, hb1⟩)
  go_ret
  exact ⟨rfl, btr hb0 hb1⟩
end Go.Proofs.Ytdbcbaahjhaonaa
