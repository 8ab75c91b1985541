/-
  The text of an agenda: plain laws and contracts of both texts. Conditions: none.
-/
import Derived.Test.YtfpjelpbeicdoaaGreatDoorItm
import Derived.Test.YtfpjelpbeicdoaaGreatDoorDPar
import Derived.Test.YtfpjelpbeicdoaaGreatDoorLoose
import Derived.Test.YtfpjelpbeicdoaaGreatDoorApp
import Derived.Lib.SplitLaws
import Derived.Lib.IndexBytes
import Derived.Lib.IndexLaws
import Derived.Lib.Join
import Derived.Lib.ItoaMem
import Derived.Deep.RegionWith
namespace Go.My
open Go.RowKit
/-! ### A text cut at each byte b -/
def splitU (b : UInt8) : List UInt8 → List (List UInt8)
  | [] => [[]]
  | c :: l => if c = b then [] :: splitU b l else match splitU b l with
    | h :: t => (c :: h) :: t
    | [] => [[c]]
theorem splitU_ne (b : UInt8) (l : List UInt8) : splitU b l ≠ [] := by
  cases l with
  | nil => simp [splitU]
  | cons c l =>
    unfold splitU
    split
    · simp
    · split <;> simp
theorem splitU_none {b : UInt8} : ∀ {x : List UInt8}, b ∉ x → splitU b x = [x]
  | [], _ => rfl
  | c :: l, h => by
    have h1 : c ≠ b := fun e => h (by rw [e]; simp)
    have h2 := splitU_none (b := b) (x := l) (fun hm => h (List.mem_cons_of_mem _ hm))
    unfold splitU
    rw [if_neg h1, h2]
theorem splitU_cons {b : UInt8} : ∀ {x r : List UInt8}, b ∉ x → splitU b (x ++ b :: r) = x :: splitU b r
  | [], r, _ => by simp [splitU]
  | c :: l, r, h => by
    have h1 : c ≠ b := fun e => h (by rw [e]; simp)
    have h2 := splitU_cons (b := b) (x := l) (r := r) (fun hm => h (List.mem_cons_of_mem _ hm))
    rw [List.cons_append]
    conv => lhs; unfold splitU
    rw [if_neg h1, h2]
theorem splitU_join {b : UInt8} : ∀ {x : List UInt8} {xs : List (List UInt8)}, b ∉ x → (∀ y ∈ xs, b ∉ y) → splitU b (Lib.join (x :: xs) [b]) = x :: xs
  | x, [], h, _ => by rw [Lib.join_one]; exact splitU_none h
  | x, y :: ys, h, hs => by
    have e : Lib.join (x :: y :: ys) [b] = x ++ b :: Lib.join (y :: ys) [b] := by
      simp [Lib.join_cons, Lib.joinTail]
    rw [e, splitU_cons h, splitU_join (hs y (by simp)) (fun z hz => hs z (by simp [hz]))]
theorem indexByte_notin {b : UInt8} {l : List UInt8} (h : Lib.indexByte l b = -1) : b ∉ l := by
  intro hm
  obtain ⟨i, hi, e⟩ := List.getElem_of_mem hm
  exact Lib.indexByte_none h i (by rw [List.getElem?_eq_getElem hi, e])
theorem indexByte_cut {b : UInt8} {l : List UInt8} {i : Nat} (h : Lib.indexByte l b = (i : Int)) : l = l.take i ++ b :: l.drop (i + 1) ∧ b ∉ l.take i ∧ i < l.length := by
  obtain ⟨h1, h2⟩ := Lib.indexByte_some h
  obtain ⟨hl, e⟩ := List.getElem?_eq_some_iff.1 h1
  refine ⟨?_, ?_, hl⟩
  · rw [← e, List.getElem_cons_drop, List.take_append_drop]
  · intro hm
    obtain ⟨j, hj, e2⟩ := List.getElem_of_mem hm
    have hj2 : j < i := by simp at hj; omega
    refine h2 j hj2 ?_
    rw [List.getElem_take] at e2
    rw [List.getElem?_eq_getElem (by omega), e2]
theorem splitK_one (c : UInt8) : ∀ (n : Nat) (s : List UInt8), s.length ≤ n → Lib.splitK [c] 0 (Lib.count s [c]) s = splitU c s
  | n, s, hn => by
    have hge := Lib.indexByte_ge s c
    by_cases h : Lib.indexByte s c = -1
    · have hno := indexByte_notin h
      rw [splitU_none hno, Lib.count_miss (by rw [Lib.index_one]; exact h)]
      rfl
    · obtain ⟨i, hi⟩ : ∃ i : Nat, Lib.indexByte s c = (i : Int) := ⟨(Lib.indexByte s c).toNat, by omega⟩
      obtain ⟨h1, h2, h3⟩ := indexByte_cut hi
      have hix : Lib.index s [c] = (i : Int) := by rw [Lib.index_one]; exact hi
      have hct := Lib.count_hit (s := s) (sub := [c]) (by simp) hix
      match n, hn with
      | 0, hn => omega
      | n + 1, hn =>
        have hd : (s.drop (i + 1)).length ≤ n := by rw [List.length_drop]; omega
        have ih := splitK_one c n (s.drop (i + 1)) hd
        rw [hct, Nat.add_comm 1, Lib.splitK, if_neg (by rw [hix]; simp), hix]
        conv => rhs; rw [h1, splitU_cons h2]
        simp only [Int.toNat_natCast, Nat.add_zero, List.length_singleton]
        rw [ih]
def bl (xs : List ByteArray) : List (List UInt8) := xs.map (fun x => x.data.toList)
theorem bl_inj {xs ys : List ByteArray} (h : bl xs = bl ys) : xs = ys := by
  induction xs generalizing ys with
  | nil => cases ys with | nil => rfl | cons y ys => simp [bl] at h
  | cons x xs ih =>
    cases ys with
    | nil => simp [bl] at h
    | cons y ys =>
      simp only [bl, List.map_cons, List.cons.injEq] at h
      rw [ih h.2, ByteArray.ext (Array.toList_inj.1 h.1)]
def numB (n : Int) : ByteArray := ⟨(Lib.itoa n).toArray⟩
def spB : ByteArray := ⟨#[32]⟩
theorem app_list (a b : ByteArray) : (a ++ b).data.toList = a.data.toList ++ b.data.toList := by simp [ByteArray.data_append]
theorem word_letter {s : ByteArray} (h : wordB s = true) : ∀ c ∈ s.data.toList, 97 ≤ c.toNat ∧ c.toNat ≤ 122 := by
  intro c hc
  simp only [wordB, Bool.and_eq_true, List.all_eq_true] at h
  simpa [letterB] using h.1 c hc
theorem word_no {s : ByteArray} {b : UInt8} (h : wordB s = true) (hb : b.toNat < 97) : b ∉ s.data.toList := fun hm => by have := word_letter h b hm; omega
theorem word_size {s : ByteArray} (h : wordB s = true) : 1 ≤ s.size ∧ s.size ≤ 10 := by
  simp only [wordB, Bool.and_eq_true, decide_eq_true_eq] at h
  exact h.2
def at_ (X : List ByteArray) (k : Nat) : ByteArray := X.getD k ⟨#[]⟩
theorem at_eq {X : List ByteArray} {k : Nat} (h : k < X.length) : at_ X k = X[k] := by unfold at_; rw [List.getD_eq_getElem?_getD, List.getElem?_eq_getElem h]; rfl
theorem read_itoa {n : Int} (h0 : -999999 ≤ n) (h1 : n ≤ 999999) : readR (numB n) = (n, true) := read_yes h0 h1 rfl
theorem ba_ext {a b : ByteArray} (h : a.data.toList = b.data.toList) : a = b := ByteArray.ext (Array.toList_inj.1 h)
theorem bl_at {X : List ByteArray} {ws : List (List UInt8)} (h : bl X = ws) (k : Nat) (hk : k < ws.length) : (at_ X k).data.toList = ws[k] := by
  have hl : X.length = ws.length := by rw [← h]; simp [bl]
  rw [at_eq (by omega)]
  subst h
  simp [bl]
theorem cell_bw {w w' : World} {p : Addr} {v : Value} (h : w.cell? p = some v) (hb : Below w.heap.size w w') : w'.cell? p = some v := (hb.cell (World.block_lt_of_cell? w _ h)).trans h
theorem add_run {P : Program} {a b : ByteArray} (m n : Nat) (ha : a.size ≤ m) (hb : b.size ≤ n) (h : m + n ≤ 8388608) : ∀ w, (Op.stringOp .add a b).run P w = .ok (.string (a ++ b)) w := fun w => run_string_add w a b (by omega) (by omega)
theorem app_le {a b : ByteArray} {m n : Nat} (ha : a.size ≤ m) (hb : b.size ≤ n) : (a ++ b).size ≤ m + n := by rw [ByteArray.size_append]; omega
theorem numB_small {n : Int} (h0 : 0 ≤ n) (h1 : n < 100) : (numB n).size ≤ 2 := by
  show (Lib.itoa n).toArray.size ≤ 2
  unfold Lib.itoa
  rw [if_neg (by omega)]
  simpa using dec_len_le 1 n.toNat (by omega)
/-! ### The lines of a list, over any elements -/
def textG {α : Type} (line : α → ByteArray) (xs : List α) : List UInt8 := xs.flatMap fun r => (line r).data.toList ++ [10]
theorem textG_cons {α : Type} (line : α → ByteArray) (r : α) (xs : List α) : textG line (r :: xs) = (line r).data.toList ++ 10 :: textG line xs := by simp [textG]
theorem textG_snoc {α : Type} (line : α → ByteArray) (xs : List α) (r : α) : textG line (xs ++ [r]) = textG line xs ++ (line r).data.toList ++ [10] := by simp [textG]
theorem textG_split {α : Type} {line : α → ByteArray} : ∀ {xs : List α}, (∀ r ∈ xs, (10 : UInt8) ∉ (line r).data.toList) → splitU 10 (textG line xs) = xs.map (fun r => (line r).data.toList) ++ [[]]
  | [], _ => rfl
  | r :: xs, h => by
    rw [textG_cons, splitU_cons (h r (by simp)), textG_split (fun y hy => h y (by simp [hy]))]
    rfl
theorem textG_at {α : Type} {line : α → ByteArray} {s : ByteArray} {X : List ByteArray} {xs : List α} (hX : bl X = splitU 10 s.data.toList) (h : ∀ r ∈ xs, (10 : UInt8) ∉ (line r).data.toList) (ht : textG line xs = s.data.toList) :
    X.length = xs.length + 1 ∧ (∀ i (hi : i < xs.length), at_ X i = line xs[i]) ∧ at_ X xs.length = ⟨#[]⟩ := by
  rw [← ht, textG_split h] at hX
  have hl : X.length = xs.length + 1 := by
    have := congrArg List.length hX
    simpa [bl] using this
  refine ⟨hl, fun i hi => ba_ext ?_, ba_ext ?_⟩
  · rw [bl_at hX i (by simp; omega), List.getElem_append_left (by simpa using hi), List.getElem_map]
  · rw [bl_at hX xs.length (by simp), List.getElem_append_right (by simp)]
    simp
def IsParseG {α : Type} (line : α → ByteArray) (good : List α → Bool) (s : ByteArray) (xs : List α) (b : Bool) : Prop := (b = true ∧ good xs = true ∧ textG line xs = s.data.toList) ∨ (b = false ∧ xs = [] ∧ ∀ ys, good ys = true → textG line ys ≠ s.data.toList)
theorem IsParseG.unique {α : Type} {line : α → ByteArray} {good : List α → Bool} {ok : α → Bool} (hg : ∀ xs, good xs = true → ∀ r ∈ xs, ok r = true) (hno : ∀ r, ok r = true → (10 : UInt8) ∉ (line r).data.toList) (hinj : ∀ a b, ok a = true → ok b = true → line a = line b → a = b)
    {s : ByteArray} {x y : List α} {b c : Bool} (h1 : IsParseG line good s x b) (h2 : IsParseG line good s y c) : x = y ∧ b = c := by
  have hX : bl ((splitU 10 s.data.toList).map fun l => (⟨l.toArray⟩ : ByteArray)) = splitU 10 s.data.toList := by simp [bl, Function.comp_def]
  rcases h1 with ⟨e1, k1, l1⟩ | ⟨e1, z1, n1⟩ <;> rcases h2 with ⟨e2, k2, l2⟩ | ⟨e2, z2, n2⟩
  · obtain ⟨a1, a2, _⟩ := textG_at hX (fun r hr => hno r (hg _ k1 r hr)) l1
    obtain ⟨b1, b2, _⟩ := textG_at hX (fun r hr => hno r (hg _ k2 r hr)) l2
    refine ⟨List.ext_getElem (by omega) fun i h1 h2 => ?_, e1.trans e2.symm⟩
    exact hinj _ _ (hg _ k1 _ (List.getElem_mem _)) (hg _ k2 _ (List.getElem_mem _)) ((a2 i h1).symm.trans (b2 i h2))
  · exact absurd l1 (n2 _ k1)
  · exact absurd l2 (n1 _ k2)
  · exact ⟨z1.trans z2.symm, e1.trans e2.symm⟩
theorem textG_len {α : Type} {line : α → ByteArray} {m : Nat} {xs : List α} (h : ∀ r ∈ xs, (line r).size ≤ m) : (textG line xs).length ≤ (m + 1) * xs.length := by
  induction xs with
  | nil => simp [textG]
  | cons r xs ih =>
    rw [textG_cons]
    have h1 := h r (by simp)
    have h2 := ih (fun y hy => h y (by simp [hy]))
    have h3 : (line r).data.toList.length = (line r).size := by simp
    simp only [List.length_append, List.length_cons]
    rw [Nat.mul_add]
    omega
theorem itoa_no {b : UInt8} (h : b.toNat < 45) (n : Int) : b ∉ Lib.itoa n := by
  intro hm
  unfold Lib.itoa at hm
  split at hm
  · rcases List.mem_cons.1 hm with e | h'
    · subst e; exact absurd h (by decide)
    · have := dec_digit _ _ h'; omega
  · have := dec_digit _ _ hm; omega
theorem cut_at {b : UInt8} {a r : List UInt8} (h : b ∉ a) : Lib.cut (a ++ b :: r) [b] = (a, r, true) := by
  have hix : Lib.index (a ++ b :: r) [b] = (a.length : Int) := by
    rw [Lib.index_one]
    have hge := Lib.indexByte_ge (a ++ b :: r) b
    by_cases hm : Lib.indexByte (a ++ b :: r) b = -1
    · exact absurd (by simp) (indexByte_notin hm)
    · obtain ⟨i, hi⟩ : ∃ i : Nat, Lib.indexByte (a ++ b :: r) b = (i : Int) := ⟨(Lib.indexByte (a ++ b :: r) b).toNat, by omega⟩
      obtain ⟨h1, h2⟩ := Lib.indexByte_some hi
      rw [hi]
      rcases Nat.lt_trichotomy i a.length with hl | hl | hl
      · rw [List.getElem?_append_left hl] at h1
        exact absurd (List.mem_of_getElem? h1) h
      · rw [hl]
      · exact absurd (by rw [List.getElem?_append_right (Nat.le_refl _)]; simp) (h2 a.length hl)
  unfold Lib.cut
  rw [hix, if_pos (by omega)]
  simp
theorem cut_no {b : UInt8} {a : List UInt8} (h : b ∉ a) : Lib.cut a [b] = (a, [], false) := by
  have hix : Lib.index a [b] = -1 := by
    rw [Lib.index_one]
    have hge := Lib.indexByte_ge a b
    by_cases hm : Lib.indexByte a b = -1
    · exact hm
    · obtain ⟨i, hi⟩ : ∃ i : Nat, Lib.indexByte a b = (i : Int) := ⟨(Lib.indexByte a b).toNat, by omega⟩
      exact absurd (List.mem_of_getElem? (Lib.indexByte_some hi).1) h
  unfold Lib.cut
  rw [hix, if_neg (by omega)]
/-! ### An agenda item's line -/
def twoL (n : Int) : List UInt8 := Lib.itoa (n / 10) ++ Lib.itoa (n % 10)
def twoB (n : Int) : ByteArray := numB (n / 10) ++ numB (n % 10)
def clockL (t : Int) : List UInt8 := twoL (t / 60) ++ 58 :: twoL (t % 60)
def clockB (t : Int) : ByteArray := twoB (t / 60) ++ ⟨#[58]⟩ ++ twoB (t % 60)
def dotB : ByteArray := ⟨#[46, 32]⟩
def parB : ByteArray := ⟨#[32, 40]⟩
def minB : ByteArray := ⟨#[32, 109, 105, 110]⟩
def nbB : ByteArray := ⟨#[44, 32, 110, 111, 116, 32, 98, 101, 102, 111, 114, 101, 32]⟩
def endB : ByteArray := ⟨#[41]⟩
def frontA (x : Itm) : ByteArray := numB x.id ++ dotB ++ x.title ++ parB ++ numB x.mins ++ minB
def midA (x : Itm) : ByteArray := if x.time = -1 then frontA x else frontA x ++ (nbB ++ clockB x.time)
def lineA (x : Itm) : ByteArray := midA x ++ endB
theorem itm_parts {x : Itm} (h : itmOk x = true) : (1 ≤ x.id ∧ x.id ≤ 99) ∧ wordB x.title = true ∧ (1 ≤ x.mins ∧ x.mins ≤ 240) ∧ (x.time = -1 ∨ (0 ≤ x.time ∧ x.time ≤ 1439)) := by
  simp only [itmOk, inB, Bool.and_eq_true, Bool.or_eq_true, decide_eq_true_eq] at h
  exact ⟨h.1.1.1, h.1.1.2, h.1.2, h.2⟩
theorem itoa_one {n : Int} (h0 : 0 ≤ n) (h1 : n < 10) : Lib.itoa n = [UInt8.ofNat (48 + n.toNat)] := by
  unfold Lib.itoa
  rw [if_neg (by omega), dec_one (by omega)]
theorem twoL_eq {n : Int} (h0 : 0 ≤ n) (h1 : n < 100) : twoL n = [UInt8.ofNat (48 + (n / 10).toNat), UInt8.ofNat (48 + (n % 10).toNat)] := by
  unfold twoL
  rw [itoa_one (by omega) (by omega), itoa_one (by omega) (by omega)]
  rfl
theorem twoB_list (n : Int) : (twoB n).data.toList = twoL n := by
  unfold twoB twoL
  rw [app_list]; rfl
theorem clockB_list (t : Int) : (clockB t).data.toList = clockL t := by
  unfold clockB clockL
  rw [app_list, app_list, twoB_list, twoB_list]
  simp
theorem digit_no {d : Nat} (h : d < 10) {b : UInt8} (hb : b.toNat < 48 ∨ 57 < b.toNat) : b ≠ UInt8.ofNat (48 + d) := by
  intro e
  have := digit_nat d h
  rw [← e] at this
  omega
theorem clockL_eq {t : Int} (h0 : 0 ≤ t) (h1 : t ≤ 1439) : clockL t = [UInt8.ofNat (48 + (t / 60 / 10).toNat), UInt8.ofNat (48 + (t / 60 % 10).toNat), 58, UInt8.ofNat (48 + (t % 60 / 10).toNat), UInt8.ofNat (48 + (t % 60 % 10).toNat)] := by
  unfold clockL
  rw [twoL_eq (by omega) (by omega), twoL_eq (by omega) (by omega)]
  rfl
theorem clock_no {t : Int} (h0 : 0 ≤ t) (h1 : t ≤ 1439) {b : UInt8} (hb : b.toNat < 48 ∨ 58 < b.toNat) : b ∉ clockL t := by
  rw [clockL_eq h0 h1]
  have hb2 : b.toNat < 48 ∨ 57 < b.toNat := by omega
  have h58 : (58 : UInt8).toNat = 58 := rfl
  simp only [List.mem_cons, List.not_mem_nil, or_false, not_or]
  exact ⟨digit_no (by omega) hb2, digit_no (by omega) hb2, fun e => by rw [e] at hb; omega, digit_no (by omega) hb2, digit_no (by omega) hb2⟩
theorem two_digits {a b : Nat} (ha : a < 10) (hb : b < 10) : Lib.decFrom 0 [UInt8.ofNat (48 + a), UInt8.ofNat (48 + b)] = some (10 * a + b) := by
  simp only [Lib.decFrom, digitVal_of a ha, digitVal_of b hb]
  congr 1; omega
theorem atoi_two {a b : Nat} (ha : a < 10) (hb : b < 10) : Lib.atoi [UInt8.ofNat (48 + a), UInt8.ofNat (48 + b)] = some ((10 * a + b : Nat) : Int) := by
  have h45 : (UInt8.ofNat (48 + a) == 45) = false := by
    rw [beq_eq_false_iff_ne]; exact (digit_no ha (b := 45) (by decide)).symm
  have h43 : (UInt8.ofNat (48 + a) == 43) = false := by
    rw [beq_eq_false_iff_ne]; exact (digit_no ha (b := 43) (by decide)).symm
  simp only [Lib.atoi, h45, h43, Bool.false_eq_true, if_false, Lib.decNat, List.isEmpty_cons, two_digits ha hb, Option.map_some]
theorem atoi_small {l : List UInt8} {n : Int} (h : Lib.atoi l = some n) (hl : l.length ≤ 2) : -100 < n ∧ n < 100 := by
  obtain ⟨b0, r, rfl, hc⟩ := Lib.atoi_cases h
  have key : ∀ (l : List UInt8) (m : Nat), l.length ≤ 2 → Lib.decFrom 0 l = some m → m < 100 := by
    intro l m hl hd
    have h1 := Lib.decFrom_lt l 0 m hd
    have h2 : 10 ^ l.length ≤ 10 ^ 2 := Nat.pow_le_pow_right (by omega) hl
    omega
  rcases hc with ⟨_, m, _, hm, rfl⟩ | ⟨_, m, _, hm, rfl⟩ | ⟨_, _, m, hm, rfl⟩
  · have := key r m (by simp at hl; omega) hm; omega
  · have := key r m (by simp at hl; omega) hm; omega
  · have := key _ m hl hm; omega
/-- What the program reads off a clock's text. -/
def clockV (s : ByteArray) : Int := 60 * (Lib.atoi (s.data.toList.take 2)).getD 0 + (Lib.atoi (s.data.toList.drop 3)).getD 0
def clockOk (s : ByteArray) : Bool := decide (s.size = 5) && (s.data.toList[2]? == some 58) && (Lib.atoi (s.data.toList.take 2)).isSome && (Lib.atoi (s.data.toList.drop 3)).isSome && inB (clockV s) 0 1439 && (clockL (clockV s) == s.data.toList)
theorem clock_read {t : Int} (h0 : 0 ≤ t) (h1 : t ≤ 1439) : clockV (clockB t) = t ∧ clockOk (clockB t) = true := by
  have hl := clockB_list t
  have e := clockL_eq h0 h1
  have a1 := atoi_two (a := (t / 60 / 10).toNat) (b := (t / 60 % 10).toNat) (by omega) (by omega)
  have a2 := atoi_two (a := (t % 60 / 10).toNat) (b := (t % 60 % 10).toNat) (by omega) (by omega)
  have hv : clockV (clockB t) = t := by
    unfold clockV
    rw [hl, e]
    simp only [List.take_succ_cons, List.take_zero, List.drop_succ_cons, List.drop_zero, a1, a2, Option.getD_some]
    omega
  refine ⟨hv, ?_⟩
  unfold clockOk
  rw [hv, hl, inB_yes ⟨h0, h1⟩]
  have hs : (clockB t).size = 5 := by
    have : (clockB t).data.toList.length = 5 := by rw [hl, e]; rfl
    simpa using this
  rw [hs, e]
  simp only [List.take_succ_cons, List.take_zero, List.drop_succ_cons, List.drop_zero, a1, a2]
  simp
/-- The words of a line, as the program cuts it. -/
def wI (x : ByteArray) : List (List UInt8) := splitU 32 (Lib.trimSuffix x.data.toList [41])
def gI (x : ByteArray) (k : Nat) : List UInt8 := (wI x).getD k []
def idI (x : ByteArray) : ByteArray := ⟨(Lib.trimSuffix (gI x 0) [46]).toArray⟩
def mnI (x : ByteArray) : ByteArray := ⟨(Lib.trimPrefix (gI x 2) [40]).toArray⟩
def ckI (x : ByteArray) : ByteArray := ⟨(gI x 6).toArray⟩
def itmI (x : ByteArray) : Itm := ⟨(readR (idI x)).1, ⟨(gI x 1).toArray⟩, (readR (mnI x)).1, if (wI x).length = 7 then clockV (ckI x) else -1⟩
def okI (x : ByteArray) : Bool := decide ((wI x).length = 4 ∨ (wI x).length = 7) && (decide ((wI x).length ≠ 7) || clockOk (ckI x)) && (readR (idI x)).2 && (readR (mnI x)).2
theorem trim_suffix (a b : List UInt8) : Lib.trimSuffix (a ++ b) b = a := by
  unfold Lib.trimSuffix Lib.hasSuffix
  rw [if_pos (by simp)]
  simp
theorem front_list (x : Itm) : (frontA x).data.toList = (Lib.itoa x.id ++ [46]) ++ 32 :: (x.title.data.toList ++ 32 :: (([40] ++ Lib.itoa x.mins) ++ 32 :: [109, 105, 110])) := by
  simp [frontA, numB, dotB, parB, minB]
theorem notin_app {b : UInt8} {x y : List UInt8} (h1 : b ∉ x) (h2 : b ∉ y) : b ∉ x ++ y := fun h => (List.mem_append.1 h).elim h1 h2
def minW : List UInt8 := [109, 105, 110]
def notW : List UInt8 := [110, 111, 116]
def befW : List UInt8 := [98, 101, 102, 111, 114, 101]
/-- The words of a line with what stands behind the last one. -/
theorem words_front {x : Itm} (h : wordB x.title = true) (r : List UInt8) : splitU 32 ((frontA x).data.toList ++ r) = [Lib.itoa x.id ++ [46], x.title.data.toList, [40] ++ Lib.itoa x.mins] ++ splitU 32 (minW ++ r) := by
  have e : (frontA x).data.toList ++ r = (Lib.itoa x.id ++ [46]) ++ 32 :: (x.title.data.toList ++ 32 :: (([40] ++ Lib.itoa x.mins) ++ 32 :: (minW ++ r))) := by
    rw [front_list]; simp [minW]
  rw [e, splitU_cons (notin_app (itoa_no (by decide) _) (by decide)), splitU_cons (word_no h (by decide)), splitU_cons (notin_app (by decide) (itoa_no (by decide) _))]
  rfl
theorem words_mid {x : Itm} (h : itmOk x = true) {r : List UInt8} (hr : (32 : UInt8) ∉ r) : splitU 32 ((midA x).data.toList ++ r) = [Lib.itoa x.id ++ [46], x.title.data.toList, [40] ++ Lib.itoa x.mins] ++ (if x.time = -1 then [minW ++ r] else [minW ++ [44], notW, befW, clockL x.time ++ r]) := by
  obtain ⟨_, hw, _, ht⟩ := itm_parts h
  unfold midA
  by_cases h1 : x.time = -1
  · rw [if_pos h1, if_pos h1, words_front hw, splitU_none (notin_app (by decide) hr)]
  · have ht2 : 0 ≤ x.time ∧ x.time ≤ 1439 := by omega
    rw [if_neg h1, if_neg h1, app_list, List.append_assoc, words_front hw, app_list, clockB_list]
    have e : minW ++ (nbB.data.toList ++ clockL x.time ++ r) = (minW ++ [44]) ++ 32 :: (notW ++ 32 :: (befW ++ 32 :: (clockL x.time ++ r))) := by
      simp [nbB, minW, notW, befW]
    rw [e, splitU_cons (by decide), splitU_cons (by decide), splitU_cons (by decide), splitU_none (notin_app (clock_no ht2.1 ht2.2 (by decide)) hr)]
theorem lineA_list (x : Itm) : (lineA x).data.toList = (midA x).data.toList ++ [41] := by simp [lineA, endB]
theorem wI_line {x : Itm} (h : itmOk x = true) : wI (lineA x) = [Lib.itoa x.id ++ [46], x.title.data.toList, [40] ++ Lib.itoa x.mins] ++ (if x.time = -1 then [minW] else [minW ++ [44], notW, befW, clockL x.time]) := by
  unfold wI
  rw [lineA_list, trim_suffix]
  have := words_mid h (r := []) (by simp)
  simpa using this
theorem trim_pre (a b : List UInt8) : Lib.trimPrefix (a ++ b) a = b := by
  unfold Lib.trimPrefix Lib.hasPrefix
  rw [if_pos (by simp)]
  simp
theorem itmI_line {x : Itm} (h : itmOk x = true) : itmI (lineA x) = x ∧ okI (lineA x) = true := by
  obtain ⟨hid, hw, hmn, ht⟩ := itm_parts h
  have hW := wI_line h
  have h0 : idI (lineA x) = numB x.id := by
    unfold idI gI; rw [hW]
    show (⟨(Lib.trimSuffix (Lib.itoa x.id ++ [46]) [46]).toArray⟩ : ByteArray) = _
    rw [trim_suffix]; rfl
  have h2 : mnI (lineA x) = numB x.mins := by
    unfold mnI gI; rw [hW]
    show (⟨(Lib.trimPrefix ([40] ++ Lib.itoa x.mins) [40]).toArray⟩ : ByteArray) = _
    rw [trim_pre]; rfl
  have h1 : (⟨(gI (lineA x) 1).toArray⟩ : ByteArray) = x.title := by
    unfold gI; rw [hW]; rfl
  have r0 := read_itoa (n := x.id) (by omega) (by omega)
  have r2 := read_itoa (n := x.mins) (by omega) (by omega)
  unfold itmI okI
  rw [h0, h1, h2, r0, r2]
  obtain ⟨id, nm, mn, tm⟩ := x
  simp only at *
  by_cases hq : tm = -1
  · subst hq
    rw [if_pos rfl] at hW
    have hl : (wI (lineA ⟨id, nm, mn, -1⟩)).length = 4 := by rw [hW]; rfl
    rw [hl]
    exact ⟨rfl, rfl⟩
  · have ht2 : 0 ≤ tm ∧ tm ≤ 1439 := by omega
    rw [if_neg hq] at hW
    have hl : (wI (lineA ⟨id, nm, mn, tm⟩)).length = 7 := by rw [hW]; rfl
    have hc : ckI (lineA ⟨id, nm, mn, tm⟩) = clockB tm := by
      unfold ckI gI; rw [hW]
      exact ba_ext (by rw [clockB_list]; rfl)
    obtain ⟨c1, c2⟩ := clock_read ht2.1 ht2.2
    rw [hl, hc, c1, c2]
    exact ⟨rfl, rfl⟩
/-- The number of two digits that the reference reads, or 99. -/
def digS (l : List UInt8) : Int := match l with
  | [a, b] => if a.toNat < 48 ∨ 57 < a.toNat ∨ b.toNat < 48 ∨ 57 < b.toNat then 99 else 10 * ((a.toNat : Int) - 48) + (b.toNat : Int) - 48
  | _ => 99
/-- What the reference reads off the words of a line. -/
def cutLast (x : ByteArray) : ByteArray := x.extract 0 (x.size - 1)
def cutFirst (x : ByteArray) : ByteArray := x.extract 1 x.size
def timeS (X : List ByteArray) : Int := if X.length = 7 ∧ (at_ X 6).size = 6 then 60 * digS ((at_ X 6).data.toList.take 2) + digS (((at_ X 6).data.toList.drop 3).take 2) else -1
def itmS (X : List ByteArray) : Itm := ⟨(readR (cutLast (at_ X 0))).1, at_ X 1, (readR (cutFirst (at_ X 2))).1, timeS X⟩
theorem digS_two {a b : Nat} (ha : a < 10) (hb : b < 10) : digS [UInt8.ofNat (48 + a), UInt8.ofNat (48 + b)] = ((10 * a + b : Nat) : Int) := by
  unfold digS
  simp only [digit_nat a ha, digit_nat b hb]
  rw [if_neg (by omega)]
  omega
theorem itmS_line {x : Itm} {X : List ByteArray} (h : itmOk x = true) (hX : bl X = splitU 32 (lineA x).data.toList) :
    (X.length = 4 ∨ X.length = 7) ∧ 2 ≤ (at_ X 0).size ∧ 2 ≤ (at_ X 2).size ∧ (readR (cutLast (at_ X 0))).2 = true ∧ (readR (cutFirst (at_ X 2))).2 = true ∧ itmS X = x := by
  obtain ⟨hid, hw, hmn, ht⟩ := itm_parts h
  rw [lineA_list, words_mid h (r := [41]) (by decide)] at hX
  have hl : X.length = 3 + (if x.time = -1 then 1 else 4) := by
    have := congrArg List.length hX
    simp only [bl, List.length_map, List.length_append] at this
    rw [this]; split <;> rfl
  have e0 : (at_ X 0).data.toList = Lib.itoa x.id ++ [46] := by rw [bl_at hX 0 (by simp)]; rfl
  have e1 : at_ X 1 = x.title := ba_ext (by rw [bl_at hX 1 (by simp)]; rfl)
  have e2 : (at_ X 2).data.toList = [40] ++ Lib.itoa x.mins := by rw [bl_at hX 2 (by simp)]; rfl
  have ne : ∀ n : Int, 0 ≤ n → 1 ≤ (Lib.itoa n).length := fun n hn => by
    unfold Lib.itoa; rw [if_neg (by omega)]
    exact List.length_pos_iff.2 (dec_ne _)
  have s0 : (at_ X 0).size = (Lib.itoa x.id).length + 1 := by
    have := congrArg List.length e0; simpa using this
  have s2 : (at_ X 2).size = (Lib.itoa x.mins).length + 1 := by
    have := congrArg List.length e2; simpa using this
  have h0 : cutLast (at_ X 0) = numB x.id := ba_ext (by
    unfold cutLast
    rw [Lib.extract_data, e0, s0]
    simp [numB])
  have h2 : cutFirst (at_ X 2) = numB x.mins := ba_ext (by
    unfold cutFirst
    rw [Lib.extract_data, e2, s2]
    simp [numB])
  have r0 := read_itoa (n := x.id) (by omega) (by omega)
  have r2 := read_itoa (n := x.mins) (by omega) (by omega)
  have n0 := ne x.id (by omega)
  have n2 := ne x.mins (by omega)
  refine ⟨by rw [hl]; split <;> omega, by omega, by omega, by rw [h0, r0], by rw [h2, r2], ?_⟩
  unfold itmS
  rw [h0, h2, r0, r2, e1]
  have htm : timeS X = x.time := by
    unfold timeS
    by_cases hq : x.time = -1
    · rw [if_neg (fun hh => by rw [hl, if_pos hq] at hh; omega), hq]
    · have ht2 : 0 ≤ x.time ∧ x.time ≤ 1439 := by omega
      rw [if_neg hq] at hX hl
      have e6 : (at_ X 6).data.toList = clockL x.time ++ [41] := by rw [bl_at hX 6 (by simp)]; rfl
      have s6 : (at_ X 6).size = 6 := by
        have := congrArg List.length e6
        rw [clockL_eq ht2.1 ht2.2] at this
        simpa using this
      rw [if_pos ⟨hl, s6⟩, e6, clockL_eq ht2.1 ht2.2]
      show 60 * digS [_, _] + digS [_, _] = _
      rw [digS_two (by omega) (by omega), digS_two (by omega) (by omega)]
      omega
  rw [htm]
theorem lineA_inj {a b : Itm} (ha : itmOk a = true) (hb : itmOk b = true) (h : lineA a = lineA b) : a = b := by
  rw [← (itmI_line ha).1, ← (itmI_line hb).1, h]
theorem lineA_no10 {x : Itm} (h : itmOk x = true) : (10 : UInt8) ∉ (lineA x).data.toList := by
  obtain ⟨_, hw, _, ht⟩ := itm_parts h
  rw [lineA_list]
  refine notin_app ?_ (by decide)
  have hf : (10 : UInt8) ∉ (frontA x).data.toList := by
    unfold frontA
    simp only [app_list]
    exact notin_app (notin_app (notin_app (notin_app (notin_app (itoa_no (by decide) _) (by decide)) (word_no hw (by decide))) (by decide)) (itoa_no (by decide) _)) (by decide)
  unfold midA
  split
  · exact hf
  · have ht2 : 0 ≤ x.time ∧ x.time ≤ 1439 := by omega
    rw [app_list, app_list, clockB_list]
    exact notin_app hf (notin_app (by decide) (clock_no ht2.1 ht2.2 (by decide)))
theorem lineA_size {x : Itm} (h : itmOk x = true) : (lineA x).size ≤ 50 := by
  obtain ⟨hid, hw, hmn, ht⟩ := itm_parts h
  have hs := word_size hw
  have num_size : ∀ (n : Int), 0 ≤ n → n < 1000 → (numB n).size ≤ 3 := fun n h0 h1 => by
    show (Lib.itoa n).toArray.size ≤ 3
    unfold Lib.itoa
    rw [if_neg (by omega)]
    simpa using dec_len_le 2 n.toNat (by omega)
  have e1 := num_size x.id (by omega) (by omega)
  have e2 := num_size x.mins (by omega) (by omega)
  have hf : (frontA x).size ≤ 3 + 2 + 10 + 2 + 3 + 4 := by
    unfold frontA
    simp only [ByteArray.size_append]
    have : dotB.size = 2 := rfl
    have : parB.size = 2 := rfl
    have : minB.size = 4 := rfl
    omega
  have hm : (midA x).size ≤ 24 + 13 + 5 := by
    unfold midA
    split
    · omega
    · have ht2 : 0 ≤ x.time ∧ x.time ≤ 1439 := by omega
      rw [ByteArray.size_append, ByteArray.size_append]
      have : (clockB x.time).size = 5 := by
        have : (clockB x.time).data.toList.length = 5 := by rw [clockB_list, clockL_eq ht2.1 ht2.2]; rfl
        simpa using this
      have : nbB.size = 13 := rfl
      omega
  unfold lineA
  rw [ByteArray.size_append]
  have : endB.size = 1 := rfl
  omega
theorem toList_inj {a b : ByteArray} (h : a.toList = b.toList) : a = b := by
  rw [ByteArray.toList_eq, ByteArray.toList_eq] at h
  exact ba_ext h
theorem blk_new (w : World) (cs : Array Value) (e : TypeId) : Blk (w.alloc (.cells cs e)) w.heap.size e cs.toList := by unfold Blk; exact heap_alloc_new w _
/-- A call that hands back one value, whatever the order; what it makes is nobody's. -/
def valS (cons : List Nat) (v : Value) : LS where
  cons := cons
  ok u := u = v
  V _ _ := True
  fp _ := []
  loc _ _ _ _ _ _ := trivial
  ne := ⟨v, rfl⟩
theorem ob_val {P : Program} {w0 : World} {F : List Nat} {τ : Nat → Option LS} {ds : List Nat} {v : Value} {o : Oper} {a : Act} {U : Nat → Value}
    (h : ∀ w, ClP w0 F w → Has τ ds U w → stepTo P o a w (fun u w' => u = v ∧ Below w.heap.size w w')) : Ob P w0 F τ (valS ds v) o a U := fun w hw hd => by
  have h1 := h w hw hd
  unfold stepTo at h1 ⊢
  have fin : ∀ u w', u = v ∧ Below w.heap.size w w' → Owes τ (valS ds v) U w u w' := fun u w' ⟨e, hb⟩ => ⟨e, trivial, hb.os, hb.tape, hb.output, hb.size, fun g hg _ => hb.block g hg, fun g hg => by simp [valS] at hg⟩
  generalize (execOp a.eval o).run P w = r at *
  cases r with
  | ok nx w' =>
    cases nx with
    | value u => exact fin u w' h1
    | skip => exact fin _ w' h1
    | enter f args => exact Calls.mono h1 fun e w'' ⟨u, he, hh⟩ => ⟨u, he, fin u w'' hh⟩
    | _ => exact h1.elim
  | _ => exact h1.elim
theorem Blk.frozen {w : World} {g : Nat} {e : TypeId} {L : List Value} (h : Blk w g e L) (o : Nat) : w.frozen? ⟨g, o, none⟩ = false := by
  unfold World.frozen?; rw [show w.heap[g]? = _ from h]; simp
theorem Blk.cell {w : World} {g : Nat} {e : TypeId} {L : List Value} (h : Blk w g e L) {j : Nat} {v : Value} (hj : L[j]? = some v) : w.cell? ⟨g, j, none⟩ = some v := by
  rw [cell_of_row w g j _ e (0, 0) h]; simpa using hj
theorem Blk.setv {w : World} {g : Nat} {e : TypeId} {L : List Value} (h : Blk w g e L) (j : Nat) (v : Value) : Blk (w.setCell ⟨g, j, none⟩ v) g e (L.set j v) := by
  unfold Blk at *; simpa using heap_setCell_same w g j _ e v h
theorem Blk.setw {w : World} {g g' : Nat} {e : TypeId} {L : List Value} (h : Blk w g e L) (hne : g ≠ g') (j : Nat) (v : Value) : Blk (w.setCell ⟨g', j, none⟩ v) g e L :=
  h.grown (grown_set (World.grownBy.refl w (some g')) j v) (fun e => hne (by simpa using e))
theorem cell_setw {w : World} {p : Addr} {g j : Nat} {u v : Value} (h : w.cell? p = some u) (hne : p.block ≠ g) : (w.setCell ⟨g, j, none⟩ v).cell? p = some u :=
  (World.cell?_setCell_other _ _ _ _ (fun e => hne (by rw [← e]))).trans h
theorem ne_beq {x c : ByteArray} (h : x ≠ c) : (x.data.toList == c.data.toList) = false := by
  rw [beq_eq_false_iff_ne]; exact fun e => h (ba_ext e)
theorem ne_beq2 {x c : ByteArray} (h : x ≠ c) : (x.toList == c.toList) = false := by
  rw [ByteArray.toList_eq, ByteArray.toList_eq]; exact ne_beq h
theorem toList_mk (l : List UInt8) : (⟨l.toArray⟩ : ByteArray).toList = l := by rw [ByteArray.toList_eq]
theorem ne_beq3 {x : ByteArray} {l : List UInt8} (h : x ≠ ⟨l.toArray⟩) : (x.toList == l) = false := by
  rw [beq_eq_false_iff_ne]
  intro e
  apply h
  apply ba_ext
  rw [← ByteArray.toList_eq, e]
theorem eq_beq3 {x : ByteArray} {l : List UInt8} (h : x = ⟨l.toArray⟩) : (x.toList == l) = true := by rw [h, toList_mk]; simp
theorem clP_below' {w0 w : World} (h : ClP w0 [] w) : Below w0.heap.size w0 w := by
  obtain ⟨n, rfl⟩ := h
  exact n.below
theorem of_list {a : ByteArray} {l : List UInt8} (h : a.data.toList = l) : a = ⟨l.toArray⟩ := by subst h; rfl
/-- What AgendaText answers. -/
def textR (xs : List Itm) : ByteArray × Bool := if goodItm xs = true then (⟨(textG lineA xs).toArray⟩, true) else (⟨#[]⟩, false)
theorem textA_take {xs : List Itm} {k : Nat} (hk : k < xs.length) : textG lineA (xs.take (k + 1)) = textG lineA (xs.take k) ++ (lineA xs[k]).data.toList ++ [10] := by
  rw [List.take_succ_eq_append_getElem hk, textG_snoc]
theorem goodA_ok {xs : List Itm} (h : goodItm xs = true) : (∀ r ∈ xs, itmOk r = true) ∧ xs.length ≤ 10 := by
  simp only [goodItm, Bool.and_eq_true, decide_eq_true_eq] at h
  refine ⟨?_, h.2⟩
  have key : ∀ (pre xs : List Itm), goodPre itmFits pre xs = true → ∀ r ∈ xs, itmOk r = true := by
    intro pre xs
    induction xs generalizing pre with
    | nil => intro _ r hr; simp at hr
    | cons x xs ih =>
      intro h r hr
      simp only [goodPre, Bool.and_eq_true] at h
      rcases List.mem_cons.1 hr with rfl | hr
      · have := h.1
        simp only [itmFits, Bool.and_eq_true] at this
        exact this.1
      · exact ih _ h.2 r hr
  exact key [] xs h.1
theorem num_size {n : Int} (h0 : 0 ≤ n) (h1 : n < 1000) : (numB n).size ≤ 3 := by
  show (Lib.itoa n).toArray.size ≤ 3
  unfold Lib.itoa
  rw [if_neg (by omega)]
  simpa using dec_len_le 2 n.toNat (by omega)
theorem numB_one {n : Int} (h0 : 0 ≤ n) (h1 : n < 10) : (numB n).size ≤ 1 := by
  show (Lib.itoa n).toArray.size ≤ 1
  rw [itoa_one h0 h1]; exact Nat.le_refl _
theorem twoB_size {n : Int} (h0 : 0 ≤ n) (h1 : n < 100) : (twoB n).size ≤ 2 := by
  unfold twoB
  exact app_le (numB_one (by omega) (by omega)) (numB_one (by omega) (by omega))
theorem clockB_size {t : Int} (h0 : 0 ≤ t) (h1 : t ≤ 1439) : (clockB t).size ≤ 5 := by
  unfold clockB
  exact app_le (app_le (twoB_size (by omega) (by omega)) (show (⟨#[58]⟩ : ByteArray).size ≤ 1 by decide)) (twoB_size (by omega) (by omega))
end Go.My
namespace Go.Proofs.YtfpjelpbeicdoaaGreatDoor
open Go.RowKit Go.My
theorem twoDigits_any (n : Int) (w : World) (h0 : 0 ≤ n) (h1 : n < 100) : Calls Tryz.prog 67 #[.int .i64 n] w fun e w' => e = .returned (.string (twoB n)) ∧ Below w.heap.size w w' := by
  have HI : Hid (∀ (n : Int) w1, 0 ≤ n ∧ n < 10 → Calls Tryz.prog 50 #[.int .i64 n] w1 fun e w' => e = .returned (.string (numB n)) ∧ Below w1.heap.size w1 w') := fun n w1 hn => by
    obtain ⟨k, rfl⟩ : ∃ k : Nat, n = k := ⟨n.toNat, by omega⟩
    exact (Tryz.strconv_Itoa_small k (by omega) w1).mono fun e w2 h => ⟨by rw [h.1, numB, Lib.itoa_nonneg], by rw [h.2]; exact Below.refl _ _⟩
  have HT : Hid (twoB n = numB (n / 10) ++ numB (n % 10)) := rfl
  obtain ⟨q, hq, hq0, hq9⟩ : ∃ q : Int, n / 10 = q ∧ 0 ≤ q ∧ q < 10 := ⟨_, rfl, by omega, by omega⟩
  obtain ⟨r, hr, hr0, hr9⟩ : ∃ r : Int, n % 10 = r ∧ 0 ≤ r ∧ r < 10 := ⟨_, rfl, by omega, by omega⟩
  rw [hq, hr] at HT
  have hqt : n.tdiv 10 = q := by rw [Int.tdiv_eq_ediv_of_nonneg h0]; exact hq
  have hrt : n.tmod 10 = r := by rw [Int.tmod_eq_emod_of_nonneg h0]; exact hr
  have hqw : IntKind.i64.wrap q = q := by rw [IntKind.wrap_i64]; omega
  have hrw : IntKind.i64.wrap r = r := by rw [IntKind.wrap_i64]; omega
  have hs1 := numB_one hq0 hq9
  have hs2 := numB_one hr0 hr9
  have H1 := Lib.hid (fun w1 => HI.out q w1 ⟨hq0, hq9⟩)
  have H2 := Lib.hid (fun w1 => HI.out r w1 ⟨hr0, hr9⟩)
  generalize twoB n = S at *
  generalize numB q = D1 at *
  generalize numB r = D2 at *
  have hrun : ∀ w, (Op.stringOp .add D1 D2).run Tryz.prog w = .ok (.string (D1 ++ D2)) w := add_run 1 1 hs1 hs2 (by decide)
  clear HI hs1 hs2
  go_enter Tryz.func67, Tryz.ntmps67
  go_wp2_with fail
  refine (H1.out _).mono ?_
  rintro e w1 ⟨rfl, hb1⟩
  go_wp2_with fail
  refine (H2.out _).mono ?_
  rintro e w2 ⟨rfl, hb2⟩
  go_wp2
  go_ret
  exact ⟨by rw [HT.out]; rfl, btr hb1 hb2⟩
theorem l5Two_any (n : Int) (w : World) (h0 : 0 ≤ n) (h1 : n < 100) : Calls Tryz.prog 69 #[.int .i64 n] w fun e w' => e = .returned (.string (twoB n)) ∧ Below w.heap.size w w' := by
  have HI : Hid (∀ (n : Int) w1, 0 ≤ n ∧ n < 10 → Calls Tryz.prog 68 #[.int .i64 n] w1 fun e w' => e = .returned (.string (numB n)) ∧ Below w1.heap.size w1 w') := fun n w1 hn => by
    obtain ⟨k, rfl⟩ : ∃ k : Nat, n = k := ⟨n.toNat, by omega⟩
    exact numI_any k (by omega) (by omega) w1
  have HT : Hid (twoB n = numB (n / 10) ++ numB (n % 10)) := rfl
  obtain ⟨q, hq, hq0, hq9⟩ : ∃ q : Int, n / 10 = q ∧ 0 ≤ q ∧ q < 10 := ⟨_, rfl, by omega, by omega⟩
  obtain ⟨r, hr, hr0, hr9⟩ : ∃ r : Int, n % 10 = r ∧ 0 ≤ r ∧ r < 10 := ⟨_, rfl, by omega, by omega⟩
  rw [hq, hr] at HT
  have hqt : n.tdiv 10 = q := by rw [Int.tdiv_eq_ediv_of_nonneg h0]; exact hq
  have hrt : n.tmod 10 = r := by rw [Int.tmod_eq_emod_of_nonneg h0]; exact hr
  have hqw : IntKind.i64.wrap q = q := by rw [IntKind.wrap_i64]; omega
  have hrw : IntKind.i64.wrap r = r := by rw [IntKind.wrap_i64]; omega
  have hs1 := numB_one hq0 hq9
  have hs2 := numB_one hr0 hr9
  have H1 := Lib.hid (fun w1 => HI.out q w1 ⟨hq0, hq9⟩)
  have H2 := Lib.hid (fun w1 => HI.out r w1 ⟨hr0, hr9⟩)
  generalize twoB n = S at *
  generalize numB q = D1 at *
  generalize numB r = D2 at *
  have hrun : ∀ w, (Op.stringOp .add D1 D2).run Tryz.prog w = .ok (.string (D1 ++ D2)) w := add_run 1 1 hs1 hs2 (by decide)
  clear HI hs1 hs2
  go_enter Tryz.func69, Tryz.ntmps69
  go_wp2_with fail
  refine (H1.out _).mono ?_
  rintro e w1 ⟨rfl, hb1⟩
  go_wp2_with fail
  refine (H2.out _).mono ?_
  rintro e w2 ⟨rfl, hb2⟩
  go_wp2
  go_ret
  exact ⟨by rw [HT.out]; rfl, btr hb1 hb2⟩
theorem clockText_any (t : Int) (w : World) (h0 : 0 ≤ t) (h1 : t ≤ 1439) : Calls Tryz.prog 51 #[.int .i64 t] w fun e w' => e = .returned (.string (clockB t)) ∧ Below w.heap.size w w' := by
  have HT : Hid (clockB t = twoB (t / 60) ++ (⟨#[58]⟩ : ByteArray) ++ twoB (t % 60)) := rfl
  obtain ⟨q, hq, hq0, hq9⟩ : ∃ q : Int, t / 60 = q ∧ 0 ≤ q ∧ q < 100 := ⟨_, rfl, by omega, by omega⟩
  obtain ⟨r, hr, hr0, hr9⟩ : ∃ r : Int, t % 60 = r ∧ 0 ≤ r ∧ r < 100 := ⟨_, rfl, by omega, by omega⟩
  rw [hq, hr] at HT
  have hqt : t.tdiv 60 = q := by rw [Int.tdiv_eq_ediv_of_nonneg h0]; exact hq
  have hrt : t.tmod 60 = r := by rw [Int.tmod_eq_emod_of_nonneg h0]; exact hr
  have hqw : IntKind.i64.wrap q = q := by rw [IntKind.wrap_i64]; omega
  have hrw : IntKind.i64.wrap r = r := by rw [IntKind.wrap_i64]; omega
  have hs1 := twoB_size hq0 hq9
  have hs2 := twoB_size hr0 hr9
  have H1 := Lib.hid (fun w1 => twoDigits_any q w1 hq0 hq9)
  have H2 := Lib.hid (fun w1 => twoDigits_any r w1 hr0 hr9)
  generalize clockB t = S at *
  generalize twoB q = D1 at *
  generalize twoB r = D2 at *
  have hrun : ∀ w, (Op.stringOp .add D1 (⟨#[58]⟩ : ByteArray)).run Tryz.prog w = .ok (.string (D1 ++ (⟨#[58]⟩ : ByteArray))) w := add_run 2 1 hs1 (by decide) (by decide)
  have hz1 := app_le hs1 (show (⟨#[58]⟩ : ByteArray).size ≤ 1 by decide)
  have hrun2 : ∀ w, (Op.stringOp .add (D1 ++ (⟨#[58]⟩ : ByteArray)) D2).run Tryz.prog w = .ok (.string ((D1 ++ (⟨#[58]⟩ : ByteArray)) ++ D2)) w := add_run 3 2 hz1 hs2 (by decide)
  clear hs1 hs2 hz1
  go_enter Tryz.func51, Tryz.ntmps51
  go_wp2_with fail
  refine (H1.out _).mono ?_
  rintro e w1 ⟨rfl, hb1⟩
  go_wp2_with fail
  refine (H2.out _).mono ?_
  rintro e w2 ⟨rfl, hb2⟩
  go_wp2
  go_ret
  exact ⟨by rw [HT.out]; rfl, btr hb1 hb2⟩
set_option maxHeartbeats 8000000 in
set_option maxRecDepth 100000 in
theorem l5Line_any (s : Itm) (w : World) (hos : itmOk s = true) :
    Calls Tryz.prog 54 #[.agg #[.int .i64 s.id, .string s.title, .int .i64 s.mins, .int .i64 s.time]] w fun e w' => e = .returned (.string (lineA s)) ∧ Below w.heap.size w w' := by
  obtain ⟨hid, hw, hmn, htm⟩ := itm_parts hos
  have hnm := (word_size hw).2
  have hD1 : (numB s.id).size ≤ 3 := num_size (by omega) (by omega)
  have hD2 : (numB s.mins).size ≤ 3 := num_size (by omega) (by omega)
  have HI1 : Hid (∀ (n : Int) w1, 0 ≤ n ∧ n < 1000 → Calls Tryz.prog 68 #[.int .i64 n] w1 fun e w' => e = .returned (.string (numB n)) ∧ Below w1.heap.size w1 w') := fun n w1 hn => numI_any n (by omega) (by omega) w1
  have HF1 : Hid (frontA s = numB s.id ++ (⟨#[46, 32]⟩ : ByteArray) ++ s.title ++ (⟨#[32, 40]⟩ : ByteArray) ++ numB s.mins ++ (⟨#[32, 109, 105, 110]⟩ : ByteArray)) := rfl
  by_cases ht : s.time = -1
  · have HL : Hid (lineA s = frontA s ++ (⟨#[41]⟩ : ByteArray)) := by show _ = _; unfold lineA midA; rw [if_pos ht]; rfl
    generalize lineA s = LB at *
    generalize frontA s = F0 at *
    clear hos hw htm
    generalize numB = nB at *
    obtain ⟨id, nm, mn, tm⟩ := s
    simp only at *
    subst ht
    have ar0 : ∀ w, (Op.stringOp .add (nB id) (⟨#[46, 32]⟩ : ByteArray)).run Tryz.prog w = .ok (.string ((nB id) ++ (⟨#[46, 32]⟩ : ByteArray))) w := add_run 3 2 hD1 (by decide) (by decide)
    have az0 := app_le hD1 (show (⟨#[46, 32]⟩ : ByteArray).size ≤ 2 from (by decide))
    have ar1 : ∀ w, (Op.stringOp .add ((nB id) ++ (⟨#[46, 32]⟩ : ByteArray)) nm).run Tryz.prog w = .ok (.string (((nB id) ++ (⟨#[46, 32]⟩ : ByteArray)) ++ nm)) w := add_run 5 10 az0 hnm (by decide)
    have az1 := app_le az0 (show nm.size ≤ 10 from hnm)
    have ar2 : ∀ w, (Op.stringOp .add (((nB id) ++ (⟨#[46, 32]⟩ : ByteArray)) ++ nm) (⟨#[32, 40]⟩ : ByteArray)).run Tryz.prog w = .ok (.string ((((nB id) ++ (⟨#[46, 32]⟩ : ByteArray)) ++ nm) ++ (⟨#[32, 40]⟩ : ByteArray))) w := add_run 15 2 az1 (by decide) (by decide)
    have az2 := app_le az1 (show (⟨#[32, 40]⟩ : ByteArray).size ≤ 2 from (by decide))
    have ar3 : ∀ w, (Op.stringOp .add ((((nB id) ++ (⟨#[46, 32]⟩ : ByteArray)) ++ nm) ++ (⟨#[32, 40]⟩ : ByteArray)) (nB mn)).run Tryz.prog w = .ok (.string (((((nB id) ++ (⟨#[46, 32]⟩ : ByteArray)) ++ nm) ++ (⟨#[32, 40]⟩ : ByteArray)) ++ (nB mn))) w := add_run 17 3 az2 hD2 (by decide)
    have az3 := app_le az2 (show (nB mn).size ≤ 3 from hD2)
    have ar4 : ∀ w, (Op.stringOp .add (((((nB id) ++ (⟨#[46, 32]⟩ : ByteArray)) ++ nm) ++ (⟨#[32, 40]⟩ : ByteArray)) ++ (nB mn)) (⟨#[32, 109, 105, 110]⟩ : ByteArray)).run Tryz.prog w = .ok (.string ((((((nB id) ++ (⟨#[46, 32]⟩ : ByteArray)) ++ nm) ++ (⟨#[32, 40]⟩ : ByteArray)) ++ (nB mn)) ++ (⟨#[32, 109, 105, 110]⟩ : ByteArray))) w := add_run 20 4 az3 (by decide) (by decide)
    have az4 := app_le az3 (show (⟨#[32, 109, 105, 110]⟩ : ByteArray).size ≤ 4 from (by decide))
    have hF := az4
    rw [HF1.out] at HL
    obtain ⟨F, hFe⟩ : ∃ F : ByteArray, F = ((((((nB id) ++ (⟨#[46, 32]⟩ : ByteArray)) ++ nm) ++ (⟨#[32, 40]⟩ : ByteArray)) ++ (nB mn)) ++ (⟨#[32, 109, 105, 110]⟩ : ByteArray)) := ⟨_, rfl⟩
    rw [← hFe] at HL hF
    have HF0 := Lib.hid hFe
    clear hFe HF1
    have br0 : ∀ w, (Op.stringOp .add F (⟨#[41]⟩ : ByteArray)).run Tryz.prog w = .ok (.string (F ++ (⟨#[41]⟩ : ByteArray))) w := add_run 24 1 hF (by decide) (by decide)
    have bz0 := app_le hF (show (⟨#[41]⟩ : ByteArray).size ≤ 1 from (by decide))
    clear az0 az1 az2 az3 az4 bz0 hF hD1 hD2 hnm
    go_enter Tryz.func54, Tryz.ntmps54
    go_wp2_with fail
    have hb0 : Below w.heap.size w (w.alloc (.cells #[.int .i64 id, .string nm, .int .i64 mn, .int .i64 (-1)] 34)) := bnew (Below.refl _ _) _
    have z0 : (w.alloc (.cells #[.int .i64 id, .string nm, .int .i64 mn, .int .i64 (-1)] 34)).cell? ⟨w.heap.size, 0, none⟩ = some (.int .i64 id) := (World.cell?_alloc_at _ _ _ _ rfl).trans rfl
    have z1 : (w.alloc (.cells #[.int .i64 id, .string nm, .int .i64 mn, .int .i64 (-1)] 34)).cell? ⟨w.heap.size, 1, none⟩ = some (.string nm) := (World.cell?_alloc_at _ _ _ _ rfl).trans rfl
    have z2 : (w.alloc (.cells #[.int .i64 id, .string nm, .int .i64 mn, .int .i64 (-1)] 34)).cell? ⟨w.heap.size, 2, none⟩ = some (.int .i64 mn) := (World.cell?_alloc_at _ _ _ _ rfl).trans rfl
    have z3 : (w.alloc (.cells #[.int .i64 id, .string nm, .int .i64 mn, .int .i64 (-1)] 34)).cell? ⟨w.heap.size, 3, none⟩ = some (.int .i64 (-1)) := (World.cell?_alloc_at _ _ _ _ rfl).trans rfl
    generalize w.alloc (.cells #[.int .i64 id, .string nm, .int .i64 mn, .int .i64 (-1)] 34) = W0 at *
    obtain ⟨bx, hbx⟩ : ∃ bx, bx = w.heap.size := ⟨_, rfl⟩
    rw [← hbx] at z0 z1 z2 z3
    rw [← hbx]
    clear hbx
    have g0 := cell_after z0
    have g1 := cell_after z1
    have g2 := cell_after z2
    refine wp_region_after (by kernel_rfl) (by kernel_rfl) ?_
    repeat (go_big_quiet_step ((go_at_call 68; exact Calls.after (HI1.out _ _ (by omega)))))
    refine wpQuiet_nil ?_
    intro nq
    rw [← HF0.out]
    have hbq := btr hb0 nq.bel
    have y3 := cell_bw z3 nq.bel
    generalize nq.val = w1 at *
    clear nq g0 g1 g2 z0 z1 z2 z3 HF0 HI1
    go_wp2
    go_ret
    exact ⟨by rw [HL.out]; rfl, hbq⟩
  · have ht0 : 0 ≤ s.time ∧ s.time ≤ 1439 := by omega
    have htI : (s.time == -1) = false := by rw [beq_eq_false_iff_ne]; exact ht
    obtain ⟨q, hq, hq0, hq9⟩ : ∃ q : Int, s.time / 60 = q ∧ 0 ≤ q ∧ q < 100 := ⟨_, rfl, by omega, by omega⟩
    obtain ⟨r, hr, hr0, hr9⟩ : ∃ r : Int, s.time % 60 = r ∧ 0 ≤ r ∧ r < 100 := ⟨_, rfl, by omega, by omega⟩
    have HL : Hid (lineA s = frontA s ++ (⟨#[44, 32, 110, 111, 116, 32, 98, 101, 102, 111, 114, 101, 32]⟩ : ByteArray) ++ twoB q ++ (⟨#[58]⟩ : ByteArray) ++ twoB r ++ (⟨#[41]⟩ : ByteArray)) := by
      show _ = _; unfold lineA midA; rw [if_neg ht]
      unfold clockB
      rw [hq, hr]
      simp only [ByteArray.append_assoc]; rfl
    have hqt : s.time.tdiv 60 = q := by rw [Int.tdiv_eq_ediv_of_nonneg ht0.1]; exact hq
    have hrt : s.time.tmod 60 = r := by rw [Int.tmod_eq_emod_of_nonneg ht0.1]; exact hr
    have hqw : IntKind.i64.wrap q = q := by rw [IntKind.wrap_i64]; omega
    have hrw : IntKind.i64.wrap r = r := by rw [IntKind.wrap_i64]; omega
    have hQ := twoB_size hq0 hq9
    have hR := twoB_size hr0 hr9
    have HT1 := Lib.hid (fun (n : Int) w1 (hn : 0 ≤ n ∧ n < 100) => l5Two_any n w1 hn.1 hn.2)
    generalize lineA s = LB at *
    generalize frontA s = F0 at *
    generalize twoB = tB at *
    clear hos hw htm hq hr
    generalize numB = nB at *
    obtain ⟨id, nm, mn, tm⟩ := s
    simp only at *
    have ar0 : ∀ w, (Op.stringOp .add (nB id) (⟨#[46, 32]⟩ : ByteArray)).run Tryz.prog w = .ok (.string ((nB id) ++ (⟨#[46, 32]⟩ : ByteArray))) w := add_run 3 2 hD1 (by decide) (by decide)
    have az0 := app_le hD1 (show (⟨#[46, 32]⟩ : ByteArray).size ≤ 2 from (by decide))
    have ar1 : ∀ w, (Op.stringOp .add ((nB id) ++ (⟨#[46, 32]⟩ : ByteArray)) nm).run Tryz.prog w = .ok (.string (((nB id) ++ (⟨#[46, 32]⟩ : ByteArray)) ++ nm)) w := add_run 5 10 az0 hnm (by decide)
    have az1 := app_le az0 (show nm.size ≤ 10 from hnm)
    have ar2 : ∀ w, (Op.stringOp .add (((nB id) ++ (⟨#[46, 32]⟩ : ByteArray)) ++ nm) (⟨#[32, 40]⟩ : ByteArray)).run Tryz.prog w = .ok (.string ((((nB id) ++ (⟨#[46, 32]⟩ : ByteArray)) ++ nm) ++ (⟨#[32, 40]⟩ : ByteArray))) w := add_run 15 2 az1 (by decide) (by decide)
    have az2 := app_le az1 (show (⟨#[32, 40]⟩ : ByteArray).size ≤ 2 from (by decide))
    have ar3 : ∀ w, (Op.stringOp .add ((((nB id) ++ (⟨#[46, 32]⟩ : ByteArray)) ++ nm) ++ (⟨#[32, 40]⟩ : ByteArray)) (nB mn)).run Tryz.prog w = .ok (.string (((((nB id) ++ (⟨#[46, 32]⟩ : ByteArray)) ++ nm) ++ (⟨#[32, 40]⟩ : ByteArray)) ++ (nB mn))) w := add_run 17 3 az2 hD2 (by decide)
    have az3 := app_le az2 (show (nB mn).size ≤ 3 from hD2)
    have ar4 : ∀ w, (Op.stringOp .add (((((nB id) ++ (⟨#[46, 32]⟩ : ByteArray)) ++ nm) ++ (⟨#[32, 40]⟩ : ByteArray)) ++ (nB mn)) (⟨#[32, 109, 105, 110]⟩ : ByteArray)).run Tryz.prog w = .ok (.string ((((((nB id) ++ (⟨#[46, 32]⟩ : ByteArray)) ++ nm) ++ (⟨#[32, 40]⟩ : ByteArray)) ++ (nB mn)) ++ (⟨#[32, 109, 105, 110]⟩ : ByteArray))) w := add_run 20 4 az3 (by decide) (by decide)
    have az4 := app_le az3 (show (⟨#[32, 109, 105, 110]⟩ : ByteArray).size ≤ 4 from (by decide))
    have hF := az4
    rw [HF1.out] at HL
    obtain ⟨F, hFe⟩ : ∃ F : ByteArray, F = ((((((nB id) ++ (⟨#[46, 32]⟩ : ByteArray)) ++ nm) ++ (⟨#[32, 40]⟩ : ByteArray)) ++ (nB mn)) ++ (⟨#[32, 109, 105, 110]⟩ : ByteArray)) := ⟨_, rfl⟩
    rw [← hFe] at HL hF
    have HF0 := Lib.hid hFe
    clear hFe HF1
    have br0 : ∀ w, (Op.stringOp .add F (⟨#[44, 32, 110, 111, 116, 32, 98, 101, 102, 111, 114, 101, 32]⟩ : ByteArray)).run Tryz.prog w = .ok (.string (F ++ (⟨#[44, 32, 110, 111, 116, 32, 98, 101, 102, 111, 114, 101, 32]⟩ : ByteArray))) w := add_run 24 13 hF (by decide) (by decide)
    have bz0 := app_le hF (show (⟨#[44, 32, 110, 111, 116, 32, 98, 101, 102, 111, 114, 101, 32]⟩ : ByteArray).size ≤ 13 from (by decide))
    have br1 : ∀ w, (Op.stringOp .add (F ++ (⟨#[44, 32, 110, 111, 116, 32, 98, 101, 102, 111, 114, 101, 32]⟩ : ByteArray)) (tB q)).run Tryz.prog w = .ok (.string ((F ++ (⟨#[44, 32, 110, 111, 116, 32, 98, 101, 102, 111, 114, 101, 32]⟩ : ByteArray)) ++ (tB q))) w := add_run 37 2 bz0 hQ (by decide)
    have bz1 := app_le bz0 (show (tB q).size ≤ 2 from hQ)
    have br2 : ∀ w, (Op.stringOp .add ((F ++ (⟨#[44, 32, 110, 111, 116, 32, 98, 101, 102, 111, 114, 101, 32]⟩ : ByteArray)) ++ (tB q)) (⟨#[58]⟩ : ByteArray)).run Tryz.prog w = .ok (.string (((F ++ (⟨#[44, 32, 110, 111, 116, 32, 98, 101, 102, 111, 114, 101, 32]⟩ : ByteArray)) ++ (tB q)) ++ (⟨#[58]⟩ : ByteArray))) w := add_run 39 1 bz1 (by decide) (by decide)
    have bz2 := app_le bz1 (show (⟨#[58]⟩ : ByteArray).size ≤ 1 from (by decide))
    have br3 : ∀ w, (Op.stringOp .add (((F ++ (⟨#[44, 32, 110, 111, 116, 32, 98, 101, 102, 111, 114, 101, 32]⟩ : ByteArray)) ++ (tB q)) ++ (⟨#[58]⟩ : ByteArray)) (tB r)).run Tryz.prog w = .ok (.string ((((F ++ (⟨#[44, 32, 110, 111, 116, 32, 98, 101, 102, 111, 114, 101, 32]⟩ : ByteArray)) ++ (tB q)) ++ (⟨#[58]⟩ : ByteArray)) ++ (tB r))) w := add_run 40 2 bz2 hR (by decide)
    have bz3 := app_le bz2 (show (tB r).size ≤ 2 from hR)
    have br4 : ∀ w, (Op.stringOp .add ((((F ++ (⟨#[44, 32, 110, 111, 116, 32, 98, 101, 102, 111, 114, 101, 32]⟩ : ByteArray)) ++ (tB q)) ++ (⟨#[58]⟩ : ByteArray)) ++ (tB r)) (⟨#[41]⟩ : ByteArray)).run Tryz.prog w = .ok (.string (((((F ++ (⟨#[44, 32, 110, 111, 116, 32, 98, 101, 102, 111, 114, 101, 32]⟩ : ByteArray)) ++ (tB q)) ++ (⟨#[58]⟩ : ByteArray)) ++ (tB r)) ++ (⟨#[41]⟩ : ByteArray))) w := add_run 42 1 bz3 (by decide) (by decide)
    have bz4 := app_le bz3 (show (⟨#[41]⟩ : ByteArray).size ≤ 1 from (by decide))
    clear az0 az1 az2 az3 az4 bz0 bz1 bz2 bz3 bz4 hF hD1 hD2 hnm hQ hR
    go_enter Tryz.func54, Tryz.ntmps54
    go_wp2_with fail
    have hb0 : Below w.heap.size w (w.alloc (.cells #[.int .i64 id, .string nm, .int .i64 mn, .int .i64 tm] 34)) := bnew (Below.refl _ _) _
    have z0 : (w.alloc (.cells #[.int .i64 id, .string nm, .int .i64 mn, .int .i64 tm] 34)).cell? ⟨w.heap.size, 0, none⟩ = some (.int .i64 id) := (World.cell?_alloc_at _ _ _ _ rfl).trans rfl
    have z1 : (w.alloc (.cells #[.int .i64 id, .string nm, .int .i64 mn, .int .i64 tm] 34)).cell? ⟨w.heap.size, 1, none⟩ = some (.string nm) := (World.cell?_alloc_at _ _ _ _ rfl).trans rfl
    have z2 : (w.alloc (.cells #[.int .i64 id, .string nm, .int .i64 mn, .int .i64 tm] 34)).cell? ⟨w.heap.size, 2, none⟩ = some (.int .i64 mn) := (World.cell?_alloc_at _ _ _ _ rfl).trans rfl
    have z3 : (w.alloc (.cells #[.int .i64 id, .string nm, .int .i64 mn, .int .i64 tm] 34)).cell? ⟨w.heap.size, 3, none⟩ = some (.int .i64 tm) := (World.cell?_alloc_at _ _ _ _ rfl).trans rfl
    generalize w.alloc (.cells #[.int .i64 id, .string nm, .int .i64 mn, .int .i64 tm] 34) = W0 at *
    obtain ⟨bx, hbx⟩ : ∃ bx, bx = w.heap.size := ⟨_, rfl⟩
    rw [← hbx] at z0 z1 z2 z3
    rw [← hbx]
    clear hbx
    have g0 := cell_after z0
    have g1 := cell_after z1
    have g2 := cell_after z2
    refine wp_region_after (by kernel_rfl) (by kernel_rfl) ?_
    repeat (go_big_quiet_step ((go_at_call 68; exact Calls.after (HI1.out _ _ (by omega)))))
    refine wpQuiet_nil ?_
    intro nq
    rw [← HF0.out]
    have hbq := btr hb0 nq.bel
    have y3 := cell_bw z3 nq.bel
    generalize nq.val = w1 at *
    clear nq g0 g1 g2 z0 z1 z2 z3 HF0 HI1
    go_wp2_with fail
    have g3 := cell_after y3
    refine wp_region_after (by kernel_rfl) (by kernel_rfl) ?_
    repeat (go_big_quiet_step ((go_at_call 69; exact Calls.after (HT1.out _ _ (by omega)))))
    refine wpQuiet_nil ?_
    intro nq
    have hbz := btr hbq nq.bel
    generalize nq.val = w2 at *
    go_wp2
    go_ret
    exact ⟨by rw [HL.out]; rfl, hbz⟩
set_option maxHeartbeats 8000000 in
set_option maxRecDepth 100000 in
theorem agendaText_any (A : Option Addr) (c : Nat) (xs : List Itm) (w : World) (hn : xs.length ≤ 10) (hx : Rd w A (itmCells xs)) (hok : ∀ s ∈ xs, itmOk s = true) (htab : Lib.TabIs Tryz.prog w "internal/strconv.uint64pow10" .u64 Lib.pow10Tab) :
    Calls Tryz.prog 30 #[.slice A xs.length c] w fun e w' => e = .returned (.string ⟨(textG lineA xs).toArray⟩) ∧ Below w.heap.size w w' := by
  have hnI : (xs.length : Int) ≤ 10 := by omega
  have HI : Hid (∀ (n : Int) w1, Below w.heap.size w w1 → 0 ≤ n ∧ n < 1000 → Calls Tryz.prog 50 #[.int .i64 n] w1 fun e w' => e = .returned (.string (numB n)) ∧ Below w1.heap.size w1 w') := fun n w1 hb hn => by
    refine (Tryz.strconv_Itoa n (by omega) (by omega) w1 (tab_below htab hb)).mono fun e w2 h => ⟨h.1, ?_⟩
    obtain ⟨_, k, os, rfl⟩ := h
    exact below_gr w1 k os
  clear htab
  go_enter Tryz.func30, Tryz.ntmps30
  go_wp2
  go_loopw [3, 8] (fun t i wr => ∃ (k : Nat) (T : ByteArray), k ≤ xs.length ∧ i = .int .i64 k ∧ t = .string T ∧ T.size ≤ 51 * k ∧ Hid (T.data.toList = textG lineA (xs.take k)) ∧ Below w.heap.size w wr) (fun _ i _ => xs.length - (intOf i).toNat)
  case atStart => exact ⟨0, ⟨#[]⟩, by omega, rfl, rfl, Nat.le_refl _, rfl, Below.refl _ _⟩
  case round =>
    obtain ⟨k, T, hk, rfl, rfl, hT, H, hb⟩ := hrel
    have hT1 : T.size ≤ 510 := by omega
    by_cases hlt : k < xs.length
    · obtain ⟨b, off, rfl, c0, c1, c2, c3⟩ := Rd.itm (hx.below hb) hlt
      have hkI : (k : Int) < (xs.length : Int) := by omega
      have hos := hok xs[k] (List.getElem_mem _)
      have Hn := Lib.hid (textA_take hlt)
      have hL := lineA_size hos
      generalize xs[k] = s at *
      obtain ⟨hid, hw, hmn, htm⟩ := itm_parts hos
      have hnm := (word_size hw).2
      have hD1 : (numB s.id).size ≤ 3 := num_size (by omega) (by omega)
      have hD2 : (numB s.mins).size ≤ 3 := num_size (by omega) (by omega)
      have HI1 := HI
      have HF1 : Hid (frontA s = numB s.id ++ (⟨#[46, 32]⟩ : ByteArray) ++ s.title ++ (⟨#[32, 40]⟩ : ByteArray) ++ numB s.mins ++ (⟨#[32, 109, 105, 110]⟩ : ByteArray)) := rfl
      have Hnew0 : Hid ((T ++ (lineA s ++ (⟨#[10]⟩ : ByteArray))).data.toList = textG lineA (xs.take (k + 1))) := by show _ = _; rw [Hn.out, ← H.out]; simp
      have Hsz0 : Hid ((T ++ (lineA s ++ (⟨#[10]⟩ : ByteArray))).size ≤ 51 * (k + 1)) := by show _ ≤ _; simp only [ByteArray.size_append]; have : (⟨#[10]⟩ : ByteArray).size = 1 := rfl; omega
      by_cases ht : s.time = -1
      · have HL : Hid (lineA s ++ (⟨#[10]⟩ : ByteArray) = frontA s ++ (⟨#[41, 10]⟩ : ByteArray)) := by
          show _ = _; unfold lineA midA; rw [if_pos ht]; apply ba_ext; simp [endB]
        rw [HL.out, HF1.out] at Hnew0 Hsz0
        clear HI hos hw htm hL Hn H HL HF1
        obtain ⟨id, nm, mn, tm⟩ := s
        simp only at *
        generalize numB = nB at *
        subst ht
        have ar0 : ∀ w, (Op.stringOp .add (nB id) (⟨#[46, 32]⟩ : ByteArray)).run Tryz.prog w = .ok (.string ((nB id) ++ (⟨#[46, 32]⟩ : ByteArray))) w := add_run 3 2 hD1 (by decide) (by decide)
        have az0 := app_le hD1 (show (⟨#[46, 32]⟩ : ByteArray).size ≤ 2 from (by decide))
        have ar1 : ∀ w, (Op.stringOp .add ((nB id) ++ (⟨#[46, 32]⟩ : ByteArray)) nm).run Tryz.prog w = .ok (.string (((nB id) ++ (⟨#[46, 32]⟩ : ByteArray)) ++ nm)) w := add_run 5 10 az0 hnm (by decide)
        have az1 := app_le az0 (show nm.size ≤ 10 from hnm)
        have ar2 : ∀ w, (Op.stringOp .add (((nB id) ++ (⟨#[46, 32]⟩ : ByteArray)) ++ nm) (⟨#[32, 40]⟩ : ByteArray)).run Tryz.prog w = .ok (.string ((((nB id) ++ (⟨#[46, 32]⟩ : ByteArray)) ++ nm) ++ (⟨#[32, 40]⟩ : ByteArray))) w := add_run 15 2 az1 (by decide) (by decide)
        have az2 := app_le az1 (show (⟨#[32, 40]⟩ : ByteArray).size ≤ 2 from (by decide))
        have ar3 : ∀ w, (Op.stringOp .add ((((nB id) ++ (⟨#[46, 32]⟩ : ByteArray)) ++ nm) ++ (⟨#[32, 40]⟩ : ByteArray)) (nB mn)).run Tryz.prog w = .ok (.string (((((nB id) ++ (⟨#[46, 32]⟩ : ByteArray)) ++ nm) ++ (⟨#[32, 40]⟩ : ByteArray)) ++ (nB mn))) w := add_run 17 3 az2 hD2 (by decide)
        have az3 := app_le az2 (show (nB mn).size ≤ 3 from hD2)
        have ar4 : ∀ w, (Op.stringOp .add (((((nB id) ++ (⟨#[46, 32]⟩ : ByteArray)) ++ nm) ++ (⟨#[32, 40]⟩ : ByteArray)) ++ (nB mn)) (⟨#[32, 109, 105, 110]⟩ : ByteArray)).run Tryz.prog w = .ok (.string ((((((nB id) ++ (⟨#[46, 32]⟩ : ByteArray)) ++ nm) ++ (⟨#[32, 40]⟩ : ByteArray)) ++ (nB mn)) ++ (⟨#[32, 109, 105, 110]⟩ : ByteArray))) w := add_run 20 4 az3 (by decide) (by decide)
        have az4 := app_le az3 (show (⟨#[32, 109, 105, 110]⟩ : ByteArray).size ≤ 4 from (by decide))
        have hr5 : ∀ w, (Op.stringOp .add T ((((((nB id) ++ (⟨#[46, 32]⟩ : ByteArray)) ++ nm) ++ (⟨#[32, 40]⟩ : ByteArray)) ++ (nB mn)) ++ (⟨#[32, 109, 105, 110]⟩ : ByteArray))).run Tryz.prog w = .ok (.string (T ++ ((((((nB id) ++ (⟨#[46, 32]⟩ : ByteArray)) ++ nm) ++ (⟨#[32, 40]⟩ : ByteArray)) ++ (nB mn)) ++ (⟨#[32, 109, 105, 110]⟩ : ByteArray)))) w := add_run 510 24 hT1 az4 (by decide)
        have hT2 := app_le hT1 az4
        obtain ⟨T1, hT1e⟩ : ∃ T1 : ByteArray, T1 = T ++ ((((((nB id) ++ (⟨#[46, 32]⟩ : ByteArray)) ++ nm) ++ (⟨#[32, 40]⟩ : ByteArray)) ++ (nB mn)) ++ (⟨#[32, 109, 105, 110]⟩ : ByteArray)) := ⟨_, rfl⟩
        have Hnew : Hid ((T1 ++ (⟨#[41, 10]⟩ : ByteArray)).data.toList = textG lineA (xs.take (k + 1))) := by show _ = _; rw [← Hnew0.out, hT1e]; simp
        have Hsz : Hid ((T1 ++ (⟨#[41, 10]⟩ : ByteArray)).size ≤ 51 * (k + 1)) := by show _ ≤ _; have := Hsz0.out; rw [hT1e]; simp only [ByteArray.size_append] at *; omega
        rw [← hT1e] at hT2
        have HT1 := Lib.hid hT1e
        clear hT1e Hnew0 Hsz0
        have cr0 : ∀ w, (Op.stringOp .add T1 (⟨#[41, 10]⟩ : ByteArray)).run Tryz.prog w = .ok (.string (T1 ++ (⟨#[41, 10]⟩ : ByteArray))) w := add_run 534 2 hT2 (by decide) (by decide)
        have cz0 := app_le hT2 (show (⟨#[41, 10]⟩ : ByteArray).size ≤ 2 from (by decide))
        clear az0 az1 az2 az3 az4 cz0 hT2 hT1 hD1 hD2 hnm hT
        go_wp2_with fail
        have hbw := btr hb (bnew (Below.refl wr.heap.size wr) (.cells #[.int .i64 id, .string nm, .int .i64 mn, .int .i64 (-1)] 34))
        have z0 : (wr.alloc (.cells #[.int .i64 id, .string nm, .int .i64 mn, .int .i64 (-1)] 34)).cell? ⟨wr.heap.size, 0, none⟩ = some (.int .i64 id) := (World.cell?_alloc_at _ _ _ _ rfl).trans rfl
        have z1 : (wr.alloc (.cells #[.int .i64 id, .string nm, .int .i64 mn, .int .i64 (-1)] 34)).cell? ⟨wr.heap.size, 1, none⟩ = some (.string nm) := (World.cell?_alloc_at _ _ _ _ rfl).trans rfl
        have z2 : (wr.alloc (.cells #[.int .i64 id, .string nm, .int .i64 mn, .int .i64 (-1)] 34)).cell? ⟨wr.heap.size, 2, none⟩ = some (.int .i64 mn) := (World.cell?_alloc_at _ _ _ _ rfl).trans rfl
        have z3 : (wr.alloc (.cells #[.int .i64 id, .string nm, .int .i64 mn, .int .i64 (-1)] 34)).cell? ⟨wr.heap.size, 3, none⟩ = some (.int .i64 (-1)) := (World.cell?_alloc_at _ _ _ _ rfl).trans rfl
        clear c0 c1 c2 c3
        generalize wr.alloc (.cells #[.int .i64 id, .string nm, .int .i64 mn, .int .i64 (-1)] 34) = W0 at *
        obtain ⟨bx, hbx⟩ : ∃ bx, bx = wr.heap.size := ⟨_, rfl⟩
        rw [← hbx] at z0 z1 z2 z3
        rw [← hbx]
        clear hbx
        have g0 := cell_after z0
        have g1 := cell_after z1
        have g2 := cell_after z2
        have HI3 : Hid (∀ (nq : After W0.heap.size W0) (n : Int), 0 ≤ n ∧ n < 1000 → Calls Tryz.prog 50 #[.int .i64 n] nq.val fun e w' => e = .returned (.string (nB n)) ∧ Below nq.val.heap.size nq.val w') := fun nq n hn => HI1.out n _ (btr hbw nq.bel) hn
        refine wp_region_after (by kernel_rfl) (by kernel_rfl) ?_
        repeat (go_big_quiet_step ((go_at_call 50; exact Calls.after (HI3.out _ _ (by omega)))))
        refine wpQuiet_nil ?_
        intro nq
        have hbq := btr hbw nq.bel
        have y3 := cell_bw z3 nq.bel
        generalize nq.val = w1 at *
        rw [← HT1.out]
        clear nq g0 g1 g2 z0 z1 z2 z3 HI1 HI3 HT1
        go_wp2
        go_roundw
        case rel => exact ⟨k + 1, _, by omega, by go_num, rfl, Hsz.out, Hnew, hbq⟩
        case measure => simp [intOf]; omega
      · have ht0 : 0 ≤ s.time ∧ s.time ≤ 1439 := by omega
        have htI : (s.time == -1) = false := by rw [beq_eq_false_iff_ne]; exact ht
        have HL : Hid (lineA s ++ (⟨#[10]⟩ : ByteArray) = frontA s ++ ((⟨#[44, 32, 110, 111, 116, 32, 98, 101, 102, 111, 114, 101, 32]⟩ : ByteArray) ++ clockB s.time) ++ (⟨#[41, 10]⟩ : ByteArray)) := by
          show _ = _; unfold lineA midA; rw [if_neg ht]; apply ba_ext; simp [endB, nbB]
        have hCB := clockB_size ht0.1 ht0.2
        have HCK : Hid (∀ w1, Calls Tryz.prog 51 #[.int .i64 s.time] w1 fun e w' => e = .returned (.string (clockB s.time)) ∧ Below w1.heap.size w1 w') := fun w1 => clockText_any s.time w1 ht0.1 ht0.2
        rw [HL.out, HF1.out] at Hnew0 Hsz0
        generalize clockB s.time = CB at *
        clear HI hos hw htm hL Hn H HL HF1
        obtain ⟨id, nm, mn, tm⟩ := s
        simp only at *
        generalize numB = nB at *
        have ar0 : ∀ w, (Op.stringOp .add (nB id) (⟨#[46, 32]⟩ : ByteArray)).run Tryz.prog w = .ok (.string ((nB id) ++ (⟨#[46, 32]⟩ : ByteArray))) w := add_run 3 2 hD1 (by decide) (by decide)
        have az0 := app_le hD1 (show (⟨#[46, 32]⟩ : ByteArray).size ≤ 2 from (by decide))
        have ar1 : ∀ w, (Op.stringOp .add ((nB id) ++ (⟨#[46, 32]⟩ : ByteArray)) nm).run Tryz.prog w = .ok (.string (((nB id) ++ (⟨#[46, 32]⟩ : ByteArray)) ++ nm)) w := add_run 5 10 az0 hnm (by decide)
        have az1 := app_le az0 (show nm.size ≤ 10 from hnm)
        have ar2 : ∀ w, (Op.stringOp .add (((nB id) ++ (⟨#[46, 32]⟩ : ByteArray)) ++ nm) (⟨#[32, 40]⟩ : ByteArray)).run Tryz.prog w = .ok (.string ((((nB id) ++ (⟨#[46, 32]⟩ : ByteArray)) ++ nm) ++ (⟨#[32, 40]⟩ : ByteArray))) w := add_run 15 2 az1 (by decide) (by decide)
        have az2 := app_le az1 (show (⟨#[32, 40]⟩ : ByteArray).size ≤ 2 from (by decide))
        have ar3 : ∀ w, (Op.stringOp .add ((((nB id) ++ (⟨#[46, 32]⟩ : ByteArray)) ++ nm) ++ (⟨#[32, 40]⟩ : ByteArray)) (nB mn)).run Tryz.prog w = .ok (.string (((((nB id) ++ (⟨#[46, 32]⟩ : ByteArray)) ++ nm) ++ (⟨#[32, 40]⟩ : ByteArray)) ++ (nB mn))) w := add_run 17 3 az2 hD2 (by decide)
        have az3 := app_le az2 (show (nB mn).size ≤ 3 from hD2)
        have ar4 : ∀ w, (Op.stringOp .add (((((nB id) ++ (⟨#[46, 32]⟩ : ByteArray)) ++ nm) ++ (⟨#[32, 40]⟩ : ByteArray)) ++ (nB mn)) (⟨#[32, 109, 105, 110]⟩ : ByteArray)).run Tryz.prog w = .ok (.string ((((((nB id) ++ (⟨#[46, 32]⟩ : ByteArray)) ++ nm) ++ (⟨#[32, 40]⟩ : ByteArray)) ++ (nB mn)) ++ (⟨#[32, 109, 105, 110]⟩ : ByteArray))) w := add_run 20 4 az3 (by decide) (by decide)
        have az4 := app_le az3 (show (⟨#[32, 109, 105, 110]⟩ : ByteArray).size ≤ 4 from (by decide))
        have hr5 : ∀ w, (Op.stringOp .add T ((((((nB id) ++ (⟨#[46, 32]⟩ : ByteArray)) ++ nm) ++ (⟨#[32, 40]⟩ : ByteArray)) ++ (nB mn)) ++ (⟨#[32, 109, 105, 110]⟩ : ByteArray))).run Tryz.prog w = .ok (.string (T ++ ((((((nB id) ++ (⟨#[46, 32]⟩ : ByteArray)) ++ nm) ++ (⟨#[32, 40]⟩ : ByteArray)) ++ (nB mn)) ++ (⟨#[32, 109, 105, 110]⟩ : ByteArray)))) w := add_run 510 24 hT1 az4 (by decide)
        have hT2 := app_le hT1 az4
        obtain ⟨T1, hT1e⟩ : ∃ T1 : ByteArray, T1 = T ++ ((((((nB id) ++ (⟨#[46, 32]⟩ : ByteArray)) ++ nm) ++ (⟨#[32, 40]⟩ : ByteArray)) ++ (nB mn)) ++ (⟨#[32, 109, 105, 110]⟩ : ByteArray)) := ⟨_, rfl⟩
        have Hnew : Hid (((T1 ++ ((⟨#[44, 32, 110, 111, 116, 32, 98, 101, 102, 111, 114, 101, 32]⟩ : ByteArray) ++ CB)) ++ (⟨#[41, 10]⟩ : ByteArray)).data.toList = textG lineA (xs.take (k + 1))) := by show _ = _; rw [← Hnew0.out, hT1e]; simp
        have Hsz : Hid (((T1 ++ ((⟨#[44, 32, 110, 111, 116, 32, 98, 101, 102, 111, 114, 101, 32]⟩ : ByteArray) ++ CB)) ++ (⟨#[41, 10]⟩ : ByteArray)).size ≤ 51 * (k + 1)) := by show _ ≤ _; have := Hsz0.out; rw [hT1e]; simp only [ByteArray.size_append] at *; omega
        rw [← hT1e] at hT2
        have HT1 := Lib.hid hT1e
        clear hT1e Hnew0 Hsz0
        have cr0 : ∀ w, (Op.stringOp .add (⟨#[44, 32, 110, 111, 116, 32, 98, 101, 102, 111, 114, 101, 32]⟩ : ByteArray) CB).run Tryz.prog w = .ok (.string ((⟨#[44, 32, 110, 111, 116, 32, 98, 101, 102, 111, 114, 101, 32]⟩ : ByteArray) ++ CB)) w := add_run 13 5 (by decide) hCB (by decide)
        have cz0 := app_le (show (⟨#[44, 32, 110, 111, 116, 32, 98, 101, 102, 111, 114, 101, 32]⟩ : ByteArray).size ≤ 13 by decide) hCB
        have cr1 : ∀ w, (Op.stringOp .add T1 ((⟨#[44, 32, 110, 111, 116, 32, 98, 101, 102, 111, 114, 101, 32]⟩ : ByteArray) ++ CB)).run Tryz.prog w = .ok (.string (T1 ++ ((⟨#[44, 32, 110, 111, 116, 32, 98, 101, 102, 111, 114, 101, 32]⟩ : ByteArray) ++ CB))) w := add_run 534 18 hT2 cz0 (by decide)
        have cz1 := app_le hT2 cz0
        have cr2 : ∀ w, (Op.stringOp .add (T1 ++ ((⟨#[44, 32, 110, 111, 116, 32, 98, 101, 102, 111, 114, 101, 32]⟩ : ByteArray) ++ CB)) (⟨#[41, 10]⟩ : ByteArray)).run Tryz.prog w = .ok (.string ((T1 ++ ((⟨#[44, 32, 110, 111, 116, 32, 98, 101, 102, 111, 114, 101, 32]⟩ : ByteArray) ++ CB)) ++ (⟨#[41, 10]⟩ : ByteArray))) w := add_run 552 2 cz1 (by decide) (by decide)
        clear az0 az1 az2 az3 az4 cz0 cz1 hT2 hT1 hD1 hD2 hnm hT hCB
        go_wp2_with fail
        have hbw := btr hb (bnew (Below.refl wr.heap.size wr) (.cells #[.int .i64 id, .string nm, .int .i64 mn, .int .i64 tm] 34))
        have z0 : (wr.alloc (.cells #[.int .i64 id, .string nm, .int .i64 mn, .int .i64 tm] 34)).cell? ⟨wr.heap.size, 0, none⟩ = some (.int .i64 id) := (World.cell?_alloc_at _ _ _ _ rfl).trans rfl
        have z1 : (wr.alloc (.cells #[.int .i64 id, .string nm, .int .i64 mn, .int .i64 tm] 34)).cell? ⟨wr.heap.size, 1, none⟩ = some (.string nm) := (World.cell?_alloc_at _ _ _ _ rfl).trans rfl
        have z2 : (wr.alloc (.cells #[.int .i64 id, .string nm, .int .i64 mn, .int .i64 tm] 34)).cell? ⟨wr.heap.size, 2, none⟩ = some (.int .i64 mn) := (World.cell?_alloc_at _ _ _ _ rfl).trans rfl
        have z3 : (wr.alloc (.cells #[.int .i64 id, .string nm, .int .i64 mn, .int .i64 tm] 34)).cell? ⟨wr.heap.size, 3, none⟩ = some (.int .i64 tm) := (World.cell?_alloc_at _ _ _ _ rfl).trans rfl
        clear c0 c1 c2 c3
        generalize wr.alloc (.cells #[.int .i64 id, .string nm, .int .i64 mn, .int .i64 tm] 34) = W0 at *
        obtain ⟨bx, hbx⟩ : ∃ bx, bx = wr.heap.size := ⟨_, rfl⟩
        rw [← hbx] at z0 z1 z2 z3
        rw [← hbx]
        clear hbx
        have g0 := cell_after z0
        have g1 := cell_after z1
        have g2 := cell_after z2
        have HI3 : Hid (∀ (nq : After W0.heap.size W0) (n : Int), 0 ≤ n ∧ n < 1000 → Calls Tryz.prog 50 #[.int .i64 n] nq.val fun e w' => e = .returned (.string (nB n)) ∧ Below nq.val.heap.size nq.val w') := fun nq n hn => HI1.out n _ (btr hbw nq.bel) hn
        refine wp_region_after (by kernel_rfl) (by kernel_rfl) ?_
        repeat (go_big_quiet_step ((go_at_call 50; exact Calls.after (HI3.out _ _ (by omega)))))
        refine wpQuiet_nil ?_
        intro nq
        have hbq := btr hbw nq.bel
        have y3 := cell_bw z3 nq.bel
        generalize nq.val = w1 at *
        rw [← HT1.out]
        clear nq g0 g1 g2 z0 z1 z2 z3 HI1 HI3 HT1
        go_wp2_with fail
        refine (HCK.out _).mono ?_
        rintro e w2 ⟨rfl, hb2⟩
        have hbz := btr hbq hb2
        go_wp2
        go_roundw
        case rel => exact ⟨k + 1, _, by omega, by go_num, rfl, Hsz.out, Hnew, hbz⟩
        case measure => simp [intOf]; omega
    · have hkI : ¬ (k : Int) < (xs.length : Int) := by omega
      have HT : Hid (T = ⟨(textG lineA xs).toArray⟩) := of_list (by have := H.out; rwa [List.take_of_length_le (by omega)] at this)
      clear H
      go_wp2
      go_ret
      exact ⟨by rw [← HT.out]; rfl, hb⟩
set_option maxHeartbeats 8000000 in
set_option maxRecDepth 100000 in
theorem l5Text_any (A : Option Addr) (c : Nat) (xs : List Itm) (w : World) (hn : xs.length ≤ 10) (hx : Rd w A (itmCells xs)) (hok : ∀ s ∈ xs, itmOk s = true) :
    Calls Tryz.prog 32 #[.slice A xs.length c] w fun e w' => e = .returned (.string ⟨(textG lineA xs).toArray⟩) ∧ Below w.heap.size w w' := by
  have hnI : (xs.length : Int) ≤ 10 := by omega
  go_enter Tryz.func32, Tryz.ntmps32
  go_wp2
  go_loopw [3, 4] (fun t i wr => ∃ (k : Nat) (T : ByteArray), k ≤ xs.length ∧ i = .int .i64 k ∧ t = .string T ∧ T.size ≤ 51 * k ∧ Hid (T.data.toList = textG lineA (xs.take k)) ∧ Below w.heap.size w wr) (fun _ i _ => xs.length - (intOf i).toNat)
  case atStart => exact ⟨0, ⟨#[]⟩, by omega, rfl, rfl, Nat.le_refl _, rfl, Below.refl _ _⟩
  case round =>
    obtain ⟨k, T, hk, rfl, rfl, hT, H, hb⟩ := hrel
    have hT1 : T.size ≤ 510 := by omega
    by_cases hlt : k < xs.length
    · obtain ⟨b, off, rfl, c0, c1, c2, c3⟩ := Rd.itm (hx.below hb) hlt
      have hkI : (k : Int) < (xs.length : Int) := by omega
      have hos := hok xs[k] (List.getElem_mem _)
      have Hn := Lib.hid (textA_take hlt)
      have hL := lineA_size hos
      generalize xs[k] = s at *
      have HL : Hid (∀ w1, Below w.heap.size w w1 → Calls Tryz.prog 54 #[.agg #[.int .i64 s.id, .string s.title, .int .i64 s.mins, .int .i64 s.time]] w1 fun e w' => e = .returned (.string (lineA s)) ∧ Below w1.heap.size w1 w') := fun w1 _ => l5Line_any s w1 hos
      generalize lineA s = L at *
      have Hnew : Hid ((T ++ L ++ (⟨#[10]⟩ : ByteArray)).data.toList = textG lineA (xs.take (k + 1))) := by show _ = _; rw [Hn.out, ← H.out]; simp
      have Hsz : Hid ((T ++ L ++ (⟨#[10]⟩ : ByteArray)).size ≤ 51 * (k + 1)) := by show _ ≤ _; simp only [ByteArray.size_append]; have : (⟨#[10]⟩ : ByteArray).size = 1 := rfl; omega
      have hr1 : ∀ w, (Op.stringOp .add T L).run Tryz.prog w = .ok (.string (T ++ L)) w := add_run 510 50 (by omega) hL (by decide)
      have hr2 : ∀ w, (Op.stringOp .add (T ++ L) (⟨#[10]⟩ : ByteArray)).run Tryz.prog w = .ok (.string (T ++ L ++ (⟨#[10]⟩ : ByteArray))) w := add_run 560 1 (app_le (m := 510) (n := 50) hT1 hL) (show (⟨#[10]⟩ : ByteArray).size ≤ 1 by decide) (by decide)
      clear Hn H hL hos hT hT1
      go_wp2_with fail
      refine (HL.out _ hb).mono ?_
      rintro e w2 ⟨rfl, hb2⟩
      have hb3 := btr hb hb2
      go_wp2
      go_roundw
      case rel => exact ⟨k + 1, _, by omega, by go_num, rfl, Hsz.out, Hnew, hb3⟩
      case measure => simp [intOf]; omega
    · have hkI : ¬ (k : Int) < (xs.length : Int) := by omega
      have HT : Hid (T = ⟨(textG lineA xs).toArray⟩) := of_list (by have := H.out; rwa [List.take_of_length_le (by omega)] at this)
      clear H
      go_wp2
      go_ret
      exact ⟨by rw [← HT.out]; rfl, hb⟩
theorem implText_any (A : Option Addr) (c : Nat) (xs : List Itm) (w : World) (hn : xs.length ≤ maxLen) (hlc : xs.length ≤ c) (hx : Rd w A (itmCells xs)) (hs : ∀ s ∈ xs, s.title.size ≤ maxLen) (htab : Lib.TabIs Tryz.prog w "internal/strconv.uint64pow10" .u64 Lib.pow10Tab) :
    Calls Tryz.prog 15 #[.slice A xs.length c] w fun e w' => e = .returned (.tuple #[.string (textR xs).1, .bool (textR xs).2]) ∧ Below w.heap.size w w' := by
  have Hv := Lib.hid (isAgenda_any A c xs w hn hlc hx hs)
  by_cases hg : goodItm xs = true
  · obtain ⟨hok, h8⟩ := goodA_ok hg
    have HR : textR xs = (⟨(textG lineA xs).toArray⟩, true) := if_pos hg
    have Hl : Hid (∀ w1, Below w.heap.size w w1 → Calls Tryz.prog 30 #[.slice A xs.length c] w1 fun e w' => e = .returned (.string ⟨(textG lineA xs).toArray⟩) ∧ Below w1.heap.size w1 w') := fun w1 hb => agendaText_any A c xs w1 h8 (hx.below hb) hok (tab_below htab hb)
    rw [HR]
    rw [hg] at Hv
    generalize (⟨(textG lineA xs).toArray⟩ : ByteArray) = S at *
    clear hg HR hs hok htab
    go_enter Tryz.func15, Tryz.ntmps15
    go_wp2_with (first | (go_at_call 17; refine Hv.out.mono ?_; rintro e w1 ⟨rfl, hb1⟩) | (go_at_call 30; refine (Hl.out _ hb1).mono ?_; rintro e w2 ⟨rfl, hb2⟩))
    exact bodyPost_ret (v := .tuple #[.string S, .bool true]) (by simp [results, Tryz.results15, go_sem]) rfl ⟨rfl, btr hb1 hb2⟩
  · have hg' : goodItm xs = false := by simpa using hg
    have HR : textR xs = (⟨#[]⟩, false) := if_neg hg
    rw [HR]
    rw [hg'] at Hv
    clear hg hg' HR hs hx htab
    go_enter Tryz.func15, Tryz.ntmps15
    go_wp2_with (first | (go_at_call 17; refine Hv.out.mono ?_; rintro e w1 ⟨rfl, hb1⟩))
    exact bodyPost_ret (v := .tuple #[.string ⟨#[]⟩, .bool false]) (by simp [results, Tryz.results15, go_sem]) rfl ⟨rfl, hb1⟩
theorem specText_any (A : Option Addr) (c : Nat) (xs : List Itm) (w : World) (hn : xs.length ≤ maxLen) (hlc : xs.length ≤ c) (hx : Rd w A (itmCells xs)) (hs : ∀ s ∈ xs, s.title.size ≤ maxLen) :
    Calls Tryz.prog 16 #[.slice A xs.length c] w fun e w' => e = .returned (.tuple #[.string (textR xs).1, .bool (textR xs).2]) ∧ Below w.heap.size w w' := by
  have Hv := Lib.hid (l5Good_any A c xs w hn hlc hx hs)
  by_cases hg : goodItm xs = true
  · obtain ⟨hok, h8⟩ := goodA_ok hg
    have HR : textR xs = (⟨(textG lineA xs).toArray⟩, true) := if_pos hg
    have Hl : Hid (∀ w1, Below w.heap.size w w1 → Calls Tryz.prog 32 #[.slice A xs.length c] w1 fun e w' => e = .returned (.string ⟨(textG lineA xs).toArray⟩) ∧ Below w1.heap.size w1 w') := fun w1 hb => l5Text_any A c xs w1 h8 (hx.below hb) hok
    rw [HR]
    rw [hg] at Hv
    generalize (⟨(textG lineA xs).toArray⟩ : ByteArray) = S at *
    clear hg HR hs hok
    go_enter Tryz.func16, Tryz.ntmps16
    go_wp2_with (first | (go_at_call 31; refine Hv.out.mono ?_; rintro e w1 ⟨rfl, hb1⟩) | (go_at_call 32; refine (Hl.out _ hb1).mono ?_; rintro e w2 ⟨rfl, hb2⟩))
    exact bodyPost_ret (v := .tuple #[.string S, .bool true]) (by simp [results, Tryz.results16, go_sem]) rfl ⟨rfl, btr hb1 hb2⟩
  · have hg' : goodItm xs = false := by simpa using hg
    have HR : textR xs = (⟨#[]⟩, false) := if_neg hg
    rw [HR]
    rw [hg'] at Hv
    clear hg hg' HR hs hx
    go_enter Tryz.func16, Tryz.ntmps16
    go_wp2_with (first | (go_at_call 31; refine Hv.out.mono ?_; rintro e w1 ⟨rfl, hb1⟩))
    exact bodyPost_ret (v := .tuple #[.string ⟨#[]⟩, .bool false]) (by simp [results, Tryz.results16, go_sem]) rfl ⟨rfl, hb1⟩
end Go.Proofs.YtfpjelpbeicdoaaGreatDoor
