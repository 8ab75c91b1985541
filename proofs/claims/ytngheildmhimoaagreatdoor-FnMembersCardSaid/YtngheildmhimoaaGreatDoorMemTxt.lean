/-
  The text of a list of members: plain laws and contracts of both texts. Conditions: the words for the offices are as listed.
-/
import Derived.Test.YtngheildmhimoaaGreatDoorMemb
import Derived.Test.YtngheildmhimoaaGreatDoorDPar
import Derived.Test.YtngheildmhimoaaGreatDoorLoose
import Derived.Test.YtngheildmhimoaaGreatDoorApp
import Derived.Lib.SplitLaws
import Derived.Lib.IndexBytes
import Derived.Lib.IndexLaws
import Derived.Lib.Join
import Derived.Lib.ItoaMem
import Derived.Deep.RegionWith
namespace Go.My
open Go.RowKit
/-! ### A text cut at each byte b -/
def splitU (b : UInt8) : List UInt8 → List (List UInt8)
  | [] => [[]]
  | c :: l => if c = b then [] :: splitU b l else match splitU b l with
    | h :: t => (c :: h) :: t
    | [] => [[c]]
theorem splitU_ne (b : UInt8) (l : List UInt8) : splitU b l ≠ [] := by
  cases l with
  | nil => simp [splitU]
  | cons c l =>
    unfold splitU
    split
    · simp
    · split <;> simp
theorem splitU_none {b : UInt8} : ∀ {x : List UInt8}, b ∉ x → splitU b x = [x]
  | [], _ => rfl
  | c :: l, h => by
    have h1 : c ≠ b := fun e => h (by rw [e]; simp)
    have h2 := splitU_none (b := b) (x := l) (fun hm => h (List.mem_cons_of_mem _ hm))
    unfold splitU
    rw [if_neg h1, h2]
theorem splitU_cons {b : UInt8} : ∀ {x r : List UInt8}, b ∉ x → splitU b (x ++ b :: r) = x :: splitU b r
  | [], r, _ => by simp [splitU]
  | c :: l, r, h => by
    have h1 : c ≠ b := fun e => h (by rw [e]; simp)
    have h2 := splitU_cons (b := b) (x := l) (r := r) (fun hm => h (List.mem_cons_of_mem _ hm))
    rw [List.cons_append]
    conv => lhs; unfold splitU
    rw [if_neg h1, h2]
theorem splitU_join {b : UInt8} : ∀ {x : List UInt8} {xs : List (List UInt8)}, b ∉ x → (∀ y ∈ xs, b ∉ y) → splitU b (Lib.join (x :: xs) [b]) = x :: xs
  | x, [], h, _ => by rw [Lib.join_one]; exact splitU_none h
  | x, y :: ys, h, hs => by
    have e : Lib.join (x :: y :: ys) [b] = x ++ b :: Lib.join (y :: ys) [b] := by
      simp [Lib.join_cons, Lib.joinTail]
    rw [e, splitU_cons h, splitU_join (hs y (by simp)) (fun z hz => hs z (by simp [hz]))]
theorem indexByte_notin {b : UInt8} {l : List UInt8} (h : Lib.indexByte l b = -1) : b ∉ l := by
  intro hm
  obtain ⟨i, hi, e⟩ := List.getElem_of_mem hm
  exact Lib.indexByte_none h i (by rw [List.getElem?_eq_getElem hi, e])
theorem indexByte_cut {b : UInt8} {l : List UInt8} {i : Nat} (h : Lib.indexByte l b = (i : Int)) : l = l.take i ++ b :: l.drop (i + 1) ∧ b ∉ l.take i ∧ i < l.length := by
  obtain ⟨h1, h2⟩ := Lib.indexByte_some h
  obtain ⟨hl, e⟩ := List.getElem?_eq_some_iff.1 h1
  refine ⟨?_, ?_, hl⟩
  · rw [← e, List.getElem_cons_drop, List.take_append_drop]
  · intro hm
    obtain ⟨j, hj, e2⟩ := List.getElem_of_mem hm
    have hj2 : j < i := by simp at hj; omega
    refine h2 j hj2 ?_
    rw [List.getElem_take] at e2
    rw [List.getElem?_eq_getElem (by omega), e2]
theorem splitK_one (c : UInt8) : ∀ (n : Nat) (s : List UInt8), s.length ≤ n → Lib.splitK [c] 0 (Lib.count s [c]) s = splitU c s
  | n, s, hn => by
    have hge := Lib.indexByte_ge s c
    by_cases h : Lib.indexByte s c = -1
    · have hno := indexByte_notin h
      rw [splitU_none hno, Lib.count_miss (by rw [Lib.index_one]; exact h)]
      rfl
    · obtain ⟨i, hi⟩ : ∃ i : Nat, Lib.indexByte s c = (i : Int) := ⟨(Lib.indexByte s c).toNat, by omega⟩
      obtain ⟨h1, h2, h3⟩ := indexByte_cut hi
      have hix : Lib.index s [c] = (i : Int) := by rw [Lib.index_one]; exact hi
      have hct := Lib.count_hit (s := s) (sub := [c]) (by simp) hix
      match n, hn with
      | 0, hn => omega
      | n + 1, hn =>
        have hd : (s.drop (i + 1)).length ≤ n := by rw [List.length_drop]; omega
        have ih := splitK_one c n (s.drop (i + 1)) hd
        rw [hct, Nat.add_comm 1, Lib.splitK, if_neg (by rw [hix]; simp), hix]
        conv => rhs; rw [h1, splitU_cons h2]
        simp only [Int.toNat_natCast, Nat.add_zero, List.length_singleton]
        rw [ih]
def bl (xs : List ByteArray) : List (List UInt8) := xs.map (fun x => x.data.toList)
theorem bl_inj {xs ys : List ByteArray} (h : bl xs = bl ys) : xs = ys := by
  induction xs generalizing ys with
  | nil => cases ys with | nil => rfl | cons y ys => simp [bl] at h
  | cons x xs ih =>
    cases ys with
    | nil => simp [bl] at h
    | cons y ys =>
      simp only [bl, List.map_cons, List.cons.injEq] at h
      rw [ih h.2, ByteArray.ext (Array.toList_inj.1 h.1)]
def numB (n : Int) : ByteArray := ⟨(Lib.itoa n).toArray⟩
def spB : ByteArray := ⟨#[32]⟩
theorem app_list (a b : ByteArray) : (a ++ b).data.toList = a.data.toList ++ b.data.toList := by simp [ByteArray.data_append]
theorem word_letter {s : ByteArray} (h : wordB s = true) : ∀ c ∈ s.data.toList, 97 ≤ c.toNat ∧ c.toNat ≤ 122 := by
  intro c hc
  simp only [wordB, Bool.and_eq_true, List.all_eq_true] at h
  simpa [letterB] using h.1 c hc
theorem word_no {s : ByteArray} {b : UInt8} (h : wordB s = true) (hb : b.toNat < 97) : b ∉ s.data.toList := fun hm => by have := word_letter h b hm; omega
theorem word_size {s : ByteArray} (h : wordB s = true) : 1 ≤ s.size ∧ s.size ≤ 10 := by
  simp only [wordB, Bool.and_eq_true, decide_eq_true_eq] at h
  exact h.2
def at_ (X : List ByteArray) (k : Nat) : ByteArray := X.getD k ⟨#[]⟩
theorem at_eq {X : List ByteArray} {k : Nat} (h : k < X.length) : at_ X k = X[k] := by unfold at_; rw [List.getD_eq_getElem?_getD, List.getElem?_eq_getElem h]; rfl
theorem read_itoa {n : Int} (h0 : -999999 ≤ n) (h1 : n ≤ 999999) : readR (numB n) = (n, true) := read_yes h0 h1 rfl
theorem ba_ext {a b : ByteArray} (h : a.data.toList = b.data.toList) : a = b := ByteArray.ext (Array.toList_inj.1 h)
theorem bl_at {X : List ByteArray} {ws : List (List UInt8)} (h : bl X = ws) (k : Nat) (hk : k < ws.length) : (at_ X k).data.toList = ws[k] := by
  have hl : X.length = ws.length := by rw [← h]; simp [bl]
  rw [at_eq (by omega)]
  subst h
  simp [bl]
theorem cell_bw {w w' : World} {p : Addr} {v : Value} (h : w.cell? p = some v) (hb : Below w.heap.size w w') : w'.cell? p = some v := (hb.cell (World.block_lt_of_cell? w _ h)).trans h
theorem add_run {P : Program} {a b : ByteArray} (m n : Nat) (ha : a.size ≤ m) (hb : b.size ≤ n) (h : m + n ≤ 8388608) : ∀ w, (Op.stringOp .add a b).run P w = .ok (.string (a ++ b)) w := fun w => run_string_add w a b (by omega) (by omega)
theorem app_le {a b : ByteArray} {m n : Nat} (ha : a.size ≤ m) (hb : b.size ≤ n) : (a ++ b).size ≤ m + n := by rw [ByteArray.size_append]; omega
theorem numB_small {n : Int} (h0 : 0 ≤ n) (h1 : n < 100) : (numB n).size ≤ 2 := by
  show (Lib.itoa n).toArray.size ≤ 2
  unfold Lib.itoa
  rw [if_neg (by omega)]
  simpa using dec_len_le 1 n.toNat (by omega)
/-! ### The lines of a list, over any elements -/
def textG {α : Type} (line : α → ByteArray) (xs : List α) : List UInt8 := xs.flatMap fun r => (line r).data.toList ++ [10]
theorem textG_cons {α : Type} (line : α → ByteArray) (r : α) (xs : List α) : textG line (r :: xs) = (line r).data.toList ++ 10 :: textG line xs := by simp [textG]
theorem textG_snoc {α : Type} (line : α → ByteArray) (xs : List α) (r : α) : textG line (xs ++ [r]) = textG line xs ++ (line r).data.toList ++ [10] := by simp [textG]
theorem textG_split {α : Type} {line : α → ByteArray} : ∀ {xs : List α}, (∀ r ∈ xs, (10 : UInt8) ∉ (line r).data.toList) → splitU 10 (textG line xs) = xs.map (fun r => (line r).data.toList) ++ [[]]
  | [], _ => rfl
  | r :: xs, h => by
    rw [textG_cons, splitU_cons (h r (by simp)), textG_split (fun y hy => h y (by simp [hy]))]
    rfl
theorem textG_at {α : Type} {line : α → ByteArray} {s : ByteArray} {X : List ByteArray} {xs : List α} (hX : bl X = splitU 10 s.data.toList) (h : ∀ r ∈ xs, (10 : UInt8) ∉ (line r).data.toList) (ht : textG line xs = s.data.toList) :
    X.length = xs.length + 1 ∧ (∀ i (hi : i < xs.length), at_ X i = line xs[i]) ∧ at_ X xs.length = ⟨#[]⟩ := by
  rw [← ht, textG_split h] at hX
  have hl : X.length = xs.length + 1 := by
    have := congrArg List.length hX
    simpa [bl] using this
  refine ⟨hl, fun i hi => ba_ext ?_, ba_ext ?_⟩
  · rw [bl_at hX i (by simp; omega), List.getElem_append_left (by simpa using hi), List.getElem_map]
  · rw [bl_at hX xs.length (by simp), List.getElem_append_right (by simp)]
    simp
def IsParseG {α : Type} (line : α → ByteArray) (good : List α → Bool) (s : ByteArray) (xs : List α) (b : Bool) : Prop := (b = true ∧ good xs = true ∧ textG line xs = s.data.toList) ∨ (b = false ∧ xs = [] ∧ ∀ ys, good ys = true → textG line ys ≠ s.data.toList)
theorem IsParseG.unique {α : Type} {line : α → ByteArray} {good : List α → Bool} {ok : α → Bool} (hg : ∀ xs, good xs = true → ∀ r ∈ xs, ok r = true) (hno : ∀ r, ok r = true → (10 : UInt8) ∉ (line r).data.toList) (hinj : ∀ a b, ok a = true → ok b = true → line a = line b → a = b)
    {s : ByteArray} {x y : List α} {b c : Bool} (h1 : IsParseG line good s x b) (h2 : IsParseG line good s y c) : x = y ∧ b = c := by
  have hX : bl ((splitU 10 s.data.toList).map fun l => (⟨l.toArray⟩ : ByteArray)) = splitU 10 s.data.toList := by simp [bl, Function.comp_def]
  rcases h1 with ⟨e1, k1, l1⟩ | ⟨e1, z1, n1⟩ <;> rcases h2 with ⟨e2, k2, l2⟩ | ⟨e2, z2, n2⟩
  · obtain ⟨a1, a2, _⟩ := textG_at hX (fun r hr => hno r (hg _ k1 r hr)) l1
    obtain ⟨b1, b2, _⟩ := textG_at hX (fun r hr => hno r (hg _ k2 r hr)) l2
    refine ⟨List.ext_getElem (by omega) fun i h1 h2 => ?_, e1.trans e2.symm⟩
    exact hinj _ _ (hg _ k1 _ (List.getElem_mem _)) (hg _ k2 _ (List.getElem_mem _)) ((a2 i h1).symm.trans (b2 i h2))
  · exact absurd l1 (n2 _ k1)
  · exact absurd l2 (n1 _ k2)
  · exact ⟨z1.trans z2.symm, e1.trans e2.symm⟩
theorem textG_len {α : Type} {line : α → ByteArray} {m : Nat} {xs : List α} (h : ∀ r ∈ xs, (line r).size ≤ m) : (textG line xs).length ≤ (m + 1) * xs.length := by
  induction xs with
  | nil => simp [textG]
  | cons r xs ih =>
    rw [textG_cons]
    have h1 := h r (by simp)
    have h2 := ih (fun y hy => h y (by simp [hy]))
    have h3 : (line r).data.toList.length = (line r).size := by simp
    simp only [List.length_append, List.length_cons]
    rw [Nat.mul_add]
    omega
theorem itoa_no {b : UInt8} (h : b.toNat < 45) (n : Int) : b ∉ Lib.itoa n := by
  intro hm
  unfold Lib.itoa at hm
  split at hm
  · rcases List.mem_cons.1 hm with e | h'
    · subst e; exact absurd h (by decide)
    · have := dec_digit _ _ h'; omega
  · have := dec_digit _ _ hm; omega
theorem cut_at {b : UInt8} {a r : List UInt8} (h : b ∉ a) : Lib.cut (a ++ b :: r) [b] = (a, r, true) := by
  have hix : Lib.index (a ++ b :: r) [b] = (a.length : Int) := by
    rw [Lib.index_one]
    have hge := Lib.indexByte_ge (a ++ b :: r) b
    by_cases hm : Lib.indexByte (a ++ b :: r) b = -1
    · exact absurd (by simp) (indexByte_notin hm)
    · obtain ⟨i, hi⟩ : ∃ i : Nat, Lib.indexByte (a ++ b :: r) b = (i : Int) := ⟨(Lib.indexByte (a ++ b :: r) b).toNat, by omega⟩
      obtain ⟨h1, h2⟩ := Lib.indexByte_some hi
      rw [hi]
      rcases Nat.lt_trichotomy i a.length with hl | hl | hl
      · rw [List.getElem?_append_left hl] at h1
        exact absurd (List.mem_of_getElem? h1) h
      · rw [hl]
      · exact absurd (by rw [List.getElem?_append_right (Nat.le_refl _)]; simp) (h2 a.length hl)
  unfold Lib.cut
  rw [hix, if_pos (by omega)]
  simp
theorem cut_no {b : UInt8} {a : List UInt8} (h : b ∉ a) : Lib.cut a [b] = (a, [], false) := by
  have hix : Lib.index a [b] = -1 := by
    rw [Lib.index_one]
    have hge := Lib.indexByte_ge a b
    by_cases hm : Lib.indexByte a b = -1
    · exact hm
    · obtain ⟨i, hi⟩ : ∃ i : Nat, Lib.indexByte a b = (i : Int) := ⟨(Lib.indexByte a b).toNat, by omega⟩
      exact absurd (List.mem_of_getElem? (Lib.indexByte_some hi).1) h
  unfold Lib.cut
  rw [hix, if_neg (by omega)]
/-! ### A member's line -/
def offW (n : Int) : List UInt8 := if n = 1 then [40, 99, 104, 97, 105, 114, 41] else if n = 2 then [40, 115, 101, 99, 114, 101, 116, 97, 114, 121, 41] else if n = 3 then [40, 116, 114, 101, 97, 115, 117, 114, 101, 114, 41] else []
def offB (n : Int) : ByteArray := if n = 1 then ⟨#[32, 40, 99, 104, 97, 105, 114, 41]⟩ else if n = 2 then ⟨#[32, 40, 115, 101, 99, 114, 101, 116, 97, 114, 121, 41]⟩ else if n = 3 then ⟨#[32, 40, 116, 114, 101, 97, 115, 117, 114, 101, 114, 41]⟩ else ⟨#[]⟩
def lineM (m : Mem) : ByteArray := numB m.num ++ spB ++ m.name ++ offB m.off
def offI (l : List UInt8) : Int := if l = [] then 0 else if l = (offB 1).data.toList then 1 else if l = (offB 2).data.toList then 2 else if l = (offB 3).data.toList then 3 else -1
/-- What the program reads off a line: the bytes of the number, the rest, the name. -/
def frontI (x : ByteArray) : ByteArray := ⟨(Lib.cut x.data.toList [32]).1.toArray⟩
def restI (x : ByteArray) : ByteArray := ⟨(Lib.cut x.data.toList [32]).2.1.toArray⟩
def nameI (x : ByteArray) : ByteArray := ⟨(Lib.cut (restI x).data.toList [32]).1.toArray⟩
def memI (x : ByteArray) : Mem := ⟨(readR (frontI x)).1, nameI x, offI (Lib.trimPrefix (restI x).data.toList (nameI x).data.toList)⟩
/-- What the reference reads off a line. -/
def offS (X : List ByteArray) (x : ByteArray) : Int :=
  if X.length = 3 ∧ lineM ⟨(readR (at_ X 0)).1, at_ X 1, 1⟩ = x then 1 else if X.length = 3 ∧ lineM ⟨(readR (at_ X 0)).1, at_ X 1, 2⟩ = x then 2 else if X.length = 3 ∧ lineM ⟨(readR (at_ X 0)).1, at_ X 1, 3⟩ = x then 3 else 0
def memS (X : List ByteArray) (x : ByteArray) : Mem := ⟨(readR (at_ X 0)).1, at_ X 1, offS X x⟩
theorem mem_parts {m : Mem} (h : memOk m = true) : (1 ≤ m.num ∧ m.num ≤ 99) ∧ wordB m.name = true ∧ (m.off = 0 ∨ m.off = 1 ∨ m.off = 2 ∨ m.off = 3) := by
  simp only [memOk, inB, Bool.and_eq_true, decide_eq_true_eq] at h
  refine ⟨h.1.1, h.1.2, ?_⟩
  omega
theorem lineM_list (m : Mem) : (lineM m).data.toList = Lib.itoa m.num ++ 32 :: (m.name.data.toList ++ (offB m.off).data.toList) := by
  simp [lineM, numB, spB]
theorem frontI_line {m : Mem} : frontI (lineM m) = numB m.num ∧ restI (lineM m) = m.name ++ offB m.off := by
  unfold frontI restI
  rw [lineM_list, cut_at (itoa_no (by decide) _)]
  exact ⟨rfl, ba_ext (by simp)⟩
theorem offB_list {n : Int} (h : n = 0 ∨ n = 1 ∨ n = 2 ∨ n = 3) : (n = 0 ∧ (offB n).data.toList = []) ∨ (offB n).data.toList = 32 :: offW n := by
  rcases h with rfl | rfl | rfl | rfl
  · exact .inl ⟨rfl, rfl⟩
  · exact .inr rfl
  · exact .inr rfl
  · exact .inr rfl
theorem nameI_line {m : Mem} (h : memOk m = true) : nameI (lineM m) = m.name := by
  obtain ⟨_, hw, ho⟩ := mem_parts h
  have hn := word_no (b := 32) hw (by decide)
  unfold nameI
  rw [frontI_line.2, app_list]
  rcases offB_list ho with ⟨_, e⟩ | e
  · rw [e, List.append_nil, cut_no hn]
  · rw [e, cut_at hn]
theorem trim_own (a b : List UInt8) : Lib.trimPrefix (a ++ b) a = b := by
  unfold Lib.trimPrefix Lib.hasPrefix
  rw [if_pos (by simp)]
  simp
theorem memI_line {m : Mem} (h : memOk m = true) : memI (lineM m) = m ∧ (readR (frontI (lineM m))).2 = true := by
  obtain ⟨hn, hw, ho⟩ := mem_parts h
  have r0 := read_itoa (n := m.num) (by omega) (by omega)
  unfold memI
  rw [nameI_line h, frontI_line.1, frontI_line.2, r0, app_list, trim_own]
  refine ⟨?_, rfl⟩
  have e : offI (offB m.off).data.toList = m.off := by rcases ho with h | h | h | h <;> rw [h] <;> decide
  rw [e]
theorem lineM_split {m : Mem} (h : memOk m = true) : splitU 32 (lineM m).data.toList = [Lib.itoa m.num, m.name.data.toList] ++ (if m.off = 0 then [] else [offW m.off]) := by
  obtain ⟨_, hw, ho⟩ := mem_parts h
  have hn := word_no (b := 32) hw (by decide)
  rw [lineM_list, splitU_cons (itoa_no (by decide) _)]
  rcases ho with e | e | e | e
  · rw [e, if_pos rfl, show (offB 0).data.toList = [] from rfl, List.append_nil, splitU_none hn]; rfl
  · rw [e, if_neg (by decide), show (offB 1).data.toList = 32 :: offW 1 from rfl, splitU_cons hn, splitU_none (by decide)]; rfl
  · rw [e, if_neg (by decide), show (offB 2).data.toList = 32 :: offW 2 from rfl, splitU_cons hn, splitU_none (by decide)]; rfl
  · rw [e, if_neg (by decide), show (offB 3).data.toList = 32 :: offW 3 from rfl, splitU_cons hn, splitU_none (by decide)]; rfl
theorem lineM_off {a b : Int} {nm : ByteArray} {n : Int} (ha : a = 0 ∨ a = 1 ∨ a = 2 ∨ a = 3) (hb : b = 0 ∨ b = 1 ∨ b = 2 ∨ b = 3) (h : lineM ⟨n, nm, a⟩ = lineM ⟨n, nm, b⟩) : a = b := by
  have h1 := congrArg (fun x : ByteArray => x.data.toList) h
  simp only [lineM_list] at h1
  have h2 := List.append_cancel_left h1
  have h3 := List.append_cancel_left (List.cons.inj h2).2
  rcases ha with rfl | rfl | rfl | rfl <;> rcases hb with rfl | rfl | rfl | rfl <;> first | rfl | exact absurd h3 (by decide)
theorem memS_line {m : Mem} {X : List ByteArray} (h : memOk m = true) (hX : bl X = splitU 32 (lineM m).data.toList) : (2 ≤ X.length ∧ X.length ≤ 3) ∧ (readR (at_ X 0)).2 = true ∧ memS X (lineM m) = m := by
  obtain ⟨hn, hw, ho⟩ := mem_parts h
  rw [lineM_split h] at hX
  have hl : X.length = 2 + (if m.off = 0 then 0 else 1) := by
    have := congrArg List.length hX
    simp only [bl, List.length_map, List.length_append, List.length_cons, List.length_nil] at this
    rw [this]; split <;> rfl
  have h0 : at_ X 0 = numB m.num := ba_ext (by rw [bl_at hX 0 (by simp)]; rfl)
  have h1 : at_ X 1 = m.name := ba_ext (by rw [bl_at hX 1 (by simp)]; rfl)
  have r0 := read_itoa (n := m.num) (by omega) (by omega)
  refine ⟨by rw [hl]; split <;> omega, by rw [h0, r0], ?_⟩
  unfold memS offS
  rw [h0, h1, r0]
  obtain ⟨n, nm, o⟩ := m
  simp only at *
  have key : ∀ a, (a = 0 ∨ a = 1 ∨ a = 2 ∨ a = 3) → (lineM ⟨n, nm, a⟩ = lineM ⟨n, nm, o⟩ ↔ a = o) := fun a ha => ⟨lineM_off ha ho, fun e => by rw [e]⟩
  simp only [key 1 (by decide), key 2 (by decide), key 3 (by decide), hl]
  rcases ho with rfl | rfl | rfl | rfl <;> simp
theorem lineM_inj {a b : Mem} (ha : memOk a = true) (hb : memOk b = true) (h : lineM a = lineM b) : a = b := by
  rw [← (memI_line ha).1, ← (memI_line hb).1, h]
theorem lineM_no10 {m : Mem} (h : memOk m = true) : (10 : UInt8) ∉ (lineM m).data.toList := by
  obtain ⟨_, hw, ho⟩ := mem_parts h
  have hn := word_no (b := 10) hw (by decide)
  rw [lineM_list]
  intro hm
  rcases List.mem_append.1 hm with hm | hm
  · exact itoa_no (by decide) _ hm
  · rcases List.mem_cons.1 hm with hm | hm
    · exact absurd hm (by decide)
    · rcases List.mem_append.1 hm with hm | hm
      · exact hn hm
      · rcases ho with e | e | e | e <;> rw [e] at hm <;> exact absurd hm (by decide)
theorem lineM_size {m : Mem} (h : memOk m = true) : (lineM m).size ≤ 30 := by
  obtain ⟨hid, hw, ho⟩ := mem_parts h
  have hs := word_size hw
  have h1 := dec_len_le 1 m.num.toNat (by omega)
  have e1 : (numB m.num).size ≤ 2 := by
    show (Lib.itoa m.num).toArray.size ≤ 2
    unfold Lib.itoa
    rw [if_neg (by omega)]
    simpa using h1
  have e3 : (offB m.off).size ≤ 12 := by rcases ho with h | h | h | h <;> rw [h] <;> decide
  unfold lineM
  simp only [ByteArray.size_append]
  have : spB.size = 1 := rfl
  omega
theorem toList_inj {a b : ByteArray} (h : a.toList = b.toList) : a = b := by
  rw [ByteArray.toList_eq, ByteArray.toList_eq] at h
  exact ba_ext h
theorem blk_new (w : World) (cs : Array Value) (e : TypeId) : Blk (w.alloc (.cells cs e)) w.heap.size e cs.toList := by unfold Blk; exact heap_alloc_new w _
/-- A call that hands back one value, whatever the order; what it makes is nobody's. -/
def valS (cons : List Nat) (v : Value) : LS where
  cons := cons
  ok u := u = v
  V _ _ := True
  fp _ := []
  loc _ _ _ _ _ _ := trivial
  ne := ⟨v, rfl⟩
theorem ob_val {P : Program} {w0 : World} {F : List Nat} {τ : Nat → Option LS} {ds : List Nat} {v : Value} {o : Oper} {a : Act} {U : Nat → Value}
    (h : ∀ w, ClP w0 F w → Has τ ds U w → stepTo P o a w (fun u w' => u = v ∧ Below w.heap.size w w')) : Ob P w0 F τ (valS ds v) o a U := fun w hw hd => by
  have h1 := h w hw hd
  unfold stepTo at h1 ⊢
  have fin : ∀ u w', u = v ∧ Below w.heap.size w w' → Owes τ (valS ds v) U w u w' := fun u w' ⟨e, hb⟩ => ⟨e, trivial, hb.os, hb.tape, hb.output, hb.size, fun g hg _ => hb.block g hg, fun g hg => by simp [valS] at hg⟩
  generalize (execOp a.eval o).run P w = r at *
  cases r with
  | ok nx w' =>
    cases nx with
    | value u => exact fin u w' h1
    | skip => exact fin _ w' h1
    | enter f args => exact Calls.mono h1 fun e w'' ⟨u, he, hh⟩ => ⟨u, he, fin u w'' hh⟩
    | _ => exact h1.elim
  | _ => exact h1.elim
theorem Blk.frozen {w : World} {g : Nat} {e : TypeId} {L : List Value} (h : Blk w g e L) (o : Nat) : w.frozen? ⟨g, o, none⟩ = false := by
  unfold World.frozen?; rw [show w.heap[g]? = _ from h]; simp
theorem Blk.cell {w : World} {g : Nat} {e : TypeId} {L : List Value} (h : Blk w g e L) {j : Nat} {v : Value} (hj : L[j]? = some v) : w.cell? ⟨g, j, none⟩ = some v := by
  rw [cell_of_row w g j _ e (0, 0) h]; simpa using hj
theorem Blk.setv {w : World} {g : Nat} {e : TypeId} {L : List Value} (h : Blk w g e L) (j : Nat) (v : Value) : Blk (w.setCell ⟨g, j, none⟩ v) g e (L.set j v) := by
  unfold Blk at *; simpa using heap_setCell_same w g j _ e v h
theorem Blk.setw {w : World} {g g' : Nat} {e : TypeId} {L : List Value} (h : Blk w g e L) (hne : g ≠ g') (j : Nat) (v : Value) : Blk (w.setCell ⟨g', j, none⟩ v) g e L :=
  h.grown (grown_set (World.grownBy.refl w (some g')) j v) (fun e => hne (by simpa using e))
theorem cell_setw {w : World} {p : Addr} {g j : Nat} {u v : Value} (h : w.cell? p = some u) (hne : p.block ≠ g) : (w.setCell ⟨g, j, none⟩ v).cell? p = some u :=
  (World.cell?_setCell_other _ _ _ _ (fun e => hne (by rw [← e]))).trans h
theorem ne_beq {x c : ByteArray} (h : x ≠ c) : (x.data.toList == c.data.toList) = false := by
  rw [beq_eq_false_iff_ne]; exact fun e => h (ba_ext e)
theorem ne_beq2 {x c : ByteArray} (h : x ≠ c) : (x.toList == c.toList) = false := by
  rw [ByteArray.toList_eq, ByteArray.toList_eq]; exact ne_beq h
theorem toList_mk (l : List UInt8) : (⟨l.toArray⟩ : ByteArray).toList = l := by rw [ByteArray.toList_eq]
theorem ne_beq3 {x : ByteArray} {l : List UInt8} (h : x ≠ ⟨l.toArray⟩) : (x.toList == l) = false := by
  rw [beq_eq_false_iff_ne]
  intro e
  apply h
  apply ba_ext
  rw [← ByteArray.toList_eq, e]
theorem eq_beq3 {x : ByteArray} {l : List UInt8} (h : x = ⟨l.toArray⟩) : (x.toList == l) = true := by rw [h, toList_mk]; simp
theorem clP_below' {w0 w : World} (h : ClP w0 [] w) : Below w0.heap.size w0 w := by
  obtain ⟨n, rfl⟩ := h
  exact n.below
/-- A pointer to one cell of a literal slice of the region's own. -/
def ptrS (cons : List Nat) (v : Value) : LS where
  cons := cons
  ok u := ∃ g k, u = .pointer (some ⟨g, k, none⟩)
  V u w := ∃ p, u = .pointer (some p) ∧ w.cell? p = some v
  fp u := match u with | .pointer (some ad) => [ad.block] | _ => []
  loc u w w' h hb _ := by
    obtain ⟨p, rfl, h1⟩ := h
    refine ⟨p, rfl, ?_⟩
    rw [← h1]
    unfold World.cell?
    rw [hb p.block (by simp)]
  ne := ⟨.pointer (some ⟨0, 0, none⟩), 0, 0, rfl⟩
theorem ob_ptr {P : Program} {w0 : World} {F : List Nat} {τ : Nat → Option LS} {o : Oper} {a : Act} {U : Nat → Value} {d B n j g : Nat} {e : TypeId} {L : List Value} {cd : List Nat} {v : Value} (hd : τ d = some (litS cd B e n L)) (hU : U d = .slice (some ⟨g, 0, none⟩) n n) (hv : L[j]? = some v)
    (h : ∀ w, (execOp a.eval o).run P w = .ok (.value (.pointer (some ⟨g, j, none⟩))) w) : Ob P w0 F τ (ptrS [d] v) o a U := fun w hw hf => by
  obtain ⟨⟨g', e', hB', hL⟩, hlt⟩ := hf.1 d (by simp [ptrS]) _ hd
  rw [hU] at e'
  cases e'
  unfold stepTo
  rw [h w]
  refine ⟨⟨g, j, rfl⟩, ⟨⟨g, j, none⟩, rfl, hL.cell hv⟩, rfl, rfl, rfl, Nat.le_refl _, fun _ _ _ => rfl, fun k hk => ?_⟩
  have hk' : k = g := by simpa [ptrS] using hk
  subst hk'
  have hm : k ∈ (litS cd B e n L).fp (U d) := by rw [hU]; exact mem_toList.2 rfl
  exact ⟨hlt k hm, .inr ⟨d, by simp [ptrS], _, hd, hm⟩⟩
theorem of_list {a : ByteArray} {l : List UInt8} (h : a.data.toList = l) : a = ⟨l.toArray⟩ := by subst h; rfl
/-- What MembersText answers. -/
def textR (xs : List Mem) : ByteArray × Bool := if goodMem xs = true then (⟨(textG lineM xs).toArray⟩, true) else (⟨#[]⟩, false)
theorem textM_take {xs : List Mem} {k : Nat} (hk : k < xs.length) : textG lineM (xs.take (k + 1)) = textG lineM (xs.take k) ++ (lineM xs[k]).data.toList ++ [10] := by
  rw [List.take_succ_eq_append_getElem hk, textG_snoc]
theorem goodM_ok {xs : List Mem} (h : goodMem xs = true) : (∀ r ∈ xs, memOk r = true) ∧ xs.length ≤ 12 := by
  simp only [goodMem, Bool.and_eq_true, decide_eq_true_eq] at h
  refine ⟨?_, h.2⟩
  have key : ∀ (pre xs : List Mem), goodPre memFits pre xs = true → ∀ r ∈ xs, memOk r = true := by
    intro pre xs
    induction xs generalizing pre with
    | nil => intro _ r hr; simp at hr
    | cons x xs ih =>
      intro h r hr
      simp only [goodPre, Bool.and_eq_true] at h
      rcases List.mem_cons.1 hr with rfl | hr
      · have := h.1
        simp only [memFits, Bool.and_eq_true] at this
        exact this.1.1
      · exact ih _ h.2 r hr
  exact key [] xs h.1
/-- The table of the offices' words holds them. -/
def OffAt (w : World) (g : Nat) : Prop := ∀ k : Nat, k < 4 → w.cell? ⟨g, k, none⟩ = some (.string (offB k))
theorem OffAt.below {w w' : World} {g : Nat} (h : OffAt w g) (hb : Below w.heap.size w w') : OffAt w' g := fun k hk => (hb.cell (World.block_lt_of_cell? w _ (h k hk))).trans (h k hk)
theorem offB_size (n : Int) : (offB n).size ≤ 12 := by
  unfold offB
  split
  · decide
  · split
    · decide
    · split <;> decide
end Go.My
namespace Go.Proofs.YtngheildmhimoaaGreatDoor
open Go.RowKit Go.My
set_option maxHeartbeats 8000000 in
set_option maxRecDepth 100000 in
theorem l3Line_any (s : Mem) (w : World) (hn : -999999 ≤ s.num ∧ s.num ≤ 999999) (hnm : s.name.size ≤ 1048576) (ho : 0 ≤ s.off ∧ s.off ≤ 3) :
    Calls Tryz.prog 50 #[.agg #[.int .i64 s.num, .string s.name, .int .i64 s.off]] w fun e w' => e = .returned (.string (lineM s)) ∧ Below w.heap.size w w' := by
  have HI0 : ∀ w1, Calls Tryz.prog 70 #[.int .i64 s.num] w1 fun e w' => e = .returned (.string (numB s.num)) ∧ Below w1.heap.size w1 w' := fun w1 => numI_any s.num hn.1 hn.2 w1
  have hD : (numB s.num).size ≤ 20 := by show (Lib.itoa s.num).toArray.size ≤ 20; have := @itoa_len s.num hn.1 hn.2; simp; omega
  have hW := offB_size s.off
  obtain ⟨k, hk, hk4⟩ : ∃ k : Nat, s.off = (k : Int) ∧ k < 4 := ⟨s.off.toNat, by omega, by omega⟩
  have hkI : (k : Int) < 4 := by omega
  obtain ⟨num, nm, off⟩ := s
  simp only at *
  subst hk
  have HL : Hid (lineM ⟨num, nm, (k : Int)⟩ = numB num ++ ⟨#[32]⟩ ++ nm ++ offB k) := rfl
  have HO : Hid (∀ j : Nat, j < 4 → ([.string ⟨#[]⟩, .string ⟨#[32, 40, 99, 104, 97, 105, 114, 41]⟩, .string ⟨#[32, 40, 115, 101, 99, 114, 101, 116, 97, 114, 121, 41]⟩, .string ⟨#[32, 40, 116, 114, 101, 97, 115, 117, 114, 101, 114, 41]⟩] : List Value)[j]? = some (.string (offB j))) := fun j hj => by
    match j, hj with
    | 0, _ => rfl
    | 1, _ => rfl
    | 2, _ => rfl
    | 3, _ => rfl
  generalize lineM ⟨num, nm, (k : Int)⟩ = LB at *
  have HOk := Lib.hid (HO.out k hk4)
  generalize numB num = D at *
  generalize hWe : offB (k : Int) = W at *
  have HI := Lib.hid HI0
  have hr1 : ∀ w, (Op.stringOp .add D (⟨#[32]⟩ : ByteArray)).run Tryz.prog w = .ok (.string (D ++ (⟨#[32]⟩ : ByteArray))) w := add_run 20 1 hD (by decide) (by decide)
  have hz1 := app_le hD (show (⟨#[32]⟩ : ByteArray).size ≤ 1 by decide)
  have hr2 : ∀ w, (Op.stringOp .add (D ++ (⟨#[32]⟩ : ByteArray)) nm).run Tryz.prog w = .ok (.string ((D ++ (⟨#[32]⟩ : ByteArray)) ++ nm)) w := add_run 21 1048576 hz1 hnm (by decide)
  have hz2 := app_le hz1 hnm
  have hr3 : ∀ w, (Op.stringOp .add ((D ++ (⟨#[32]⟩ : ByteArray)) ++ nm) W).run Tryz.prog w = .ok (.string (((D ++ (⟨#[32]⟩ : ByteArray)) ++ nm) ++ W)) w := add_run 1048597 12 hz2 hW (by decide)
  clear hz1 hz2 hD hW hnm hn HI0 ho HO hWe
  go_enter Tryz.func50, Tryz.ntmps50
  go_wp2_with fail
  have hb0 : Below w.heap.size w (w.alloc (.cells #[.int .i64 num, .string nm, .int .i64 k] 54)) := bnew (Below.refl _ _) _
  have z0 : (w.alloc (.cells #[.int .i64 num, .string nm, .int .i64 k] 54)).cell? ⟨w.heap.size, 0, none⟩ = some (.int .i64 num) := (World.cell?_alloc_at _ _ _ _ rfl).trans rfl
  have z1 : (w.alloc (.cells #[.int .i64 num, .string nm, .int .i64 k] 54)).cell? ⟨w.heap.size, 1, none⟩ = some (.string nm) := (World.cell?_alloc_at _ _ _ _ rfl).trans rfl
  have z2 : (w.alloc (.cells #[.int .i64 num, .string nm, .int .i64 k] 54)).cell? ⟨w.heap.size, 2, none⟩ = some (.int .i64 k) := (World.cell?_alloc_at _ _ _ _ rfl).trans rfl
  generalize w.alloc (.cells #[.int .i64 num, .string nm, .int .i64 k] 54) = W0 at *
  have d0 := cell_cl (w := W0.drew) z0
  have d1 := cell_cl (w := W0.drew) z1
  have d2 := cell_cl (w := W0.drew) z2
  refine wp_loose0 (U := fun _ => undef) (τ := lk [(2, valS [] (.string D)), (7, litS [] W0.drew.heap.size 9 4 [.string ⟨#[]⟩, .string ⟨#[32, 40, 99, 104, 97, 105, 114, 41]⟩, .string ⟨#[32, 40, 115, 101, 99, 114, 101, 116, 97, 114, 121, 41]⟩, .string ⟨#[32, 40, 116, 114, 101, 97, 115, 117, 114, 101, 114, 41]⟩]), (10, ptrS [7] (.string W)), (11, valS [10] (.string W))]) (F := []) (by kernel_rfl) (by kernel_rfl) (fits_of rfl (by kernel_rfl)) (inv_start (by intro r s h; have := lk_mem h; simp at this; (first | omega | (simp only [List.length_cons, List.length_nil]; omega)))) ?_
  refine wpL_quiet 2 rfl rfl ?_
  simp only [List.take_succ_cons, List.take_zero, List.drop_succ_cons, List.drop_zero]
  repeat (go_big_quiet_step (fail))
  refine wpQuiet_nil ?_
  refine gives_loose rfl (ob_val (fun w1 h1 _ => by simp [stepTo, stepUpon, go_sem]; exact (HI.out w1).mono fun e w2 h => ⟨_, h.1, rfl, h.2⟩)) ?_
  rintro u2 rfl
  simp only [Act.put, List.setIfInBounds_toArray, List.set_cons_zero, List.set_cons_succ]
  refine wpL_quiet 4 rfl rfl ?_
  simp only [List.take_succ_cons, List.take_zero, List.drop_succ_cons, List.drop_zero]
  repeat (go_big_quiet_step (fail))
  refine wpQuiet_nil ?_
  refine gives_loose rfl (ob_litS (cs := #[.string ⟨#[]⟩, .string ⟨#[32, 40, 99, 104, 97, 105, 114, 41]⟩, .string ⟨#[32, 40, 115, 101, 99, 114, 101, 116, 97, 114, 121, 41]⟩, .string ⟨#[32, 40, 116, 114, 101, 97, 115, 117, 114, 101, 114, 41]⟩]) (Nat.le_refl _) (fun w1 _ => by go_simp)) ?_
  rintro u7 ⟨g7, rfl⟩
  simp only [Act.put, List.setIfInBounds_toArray, List.set_cons_zero, List.set_cons_succ]
  refine wpL_quiet 2 rfl rfl ?_
  simp only [List.take_succ_cons, List.take_zero, List.drop_succ_cons, List.drop_zero]
  repeat (go_big_quiet_step (fail))
  refine wpQuiet_nil ?_
  refine gives_loose rfl (ob_ptr (d := 7) (g := g7) (j := k) rfl rfl HOk.out (fun w1 => by go_simp)) ?_
  rintro u10 ⟨g10, k10, rfl⟩
  simp only [Act.put, List.setIfInBounds_toArray, List.set_cons_zero, List.set_cons_succ]
  refine gives_loose rfl (ob_val (ds := [10]) (fun w1 h1 hh => by obtain ⟨p9, e9, hc⟩ := (hh.1 10 (by simp) _ rfl).1; cases e9; simp [stepTo, stepUpon, go_sem, hc]; exact Below.refl _ _)) ?_
  rintro u11 rfl
  simp only [Act.put, List.setIfInBounds_toArray, List.set_cons_zero, List.set_cons_succ]
  refine wpL_quiet 2 rfl rfl ?_
  simp only [List.take_succ_cons, List.take_zero, List.drop_succ_cons, List.drop_zero]
  repeat (go_big_quiet_step (fail))
  refine wpQuiet_nil ?_
  refine wpL_nil ?_
  intro w8 hEnd
  have hbz := btr hb0 (btr (Below.refl _ _).drew (ends_below hEnd))
  clear hEnd
  go_wp2
  go_ret
  exact ⟨by rw [HL.out]; rfl, hbz⟩
set_option maxHeartbeats 2000000 in
set_option maxRecDepth 100000 in
theorem membersText_any (A : Option Addr) (c : Nat) (xs : List Mem) (w : World) (hn : xs.length ≤ 12) (hx : Rd w A (memCells xs)) (hok : ∀ s ∈ xs, memOk s = true) (hneed0 : OffAt w 0) :
    Calls Tryz.prog 39 #[.slice A xs.length c] w fun e w' => e = .returned (.string ⟨(textG lineM xs).toArray⟩) ∧ Below w.heap.size w w' := by
  have hnI : (xs.length : Int) ≤ 12 := by omega
  go_enter Tryz.func39, Tryz.ntmps39
  go_wp2
  go_loopw [3, 8] (fun t i wr => ∃ (k : Nat) (T : ByteArray), k ≤ xs.length ∧ i = .int .i64 k ∧ t = .string T ∧ T.size ≤ 31 * k ∧ Hid (T.data.toList = textG lineM (xs.take k)) ∧ Below w.heap.size w wr) (fun _ i _ => xs.length - (intOf i).toNat)
  case atStart => exact ⟨0, ⟨#[]⟩, by omega, rfl, rfl, Nat.le_refl _, rfl, Below.refl _ _⟩
  case round =>
    obtain ⟨k, T, hk, rfl, rfl, hT, H, hb⟩ := hrel
    have hT1 : T.size ≤ 400 := by omega
    by_cases hlt : k < xs.length
    · obtain ⟨b, off, rfl, c0, c1, c2⟩ := Rd.mem (hx.below hb) hlt
      have hkI : (k : Int) < (xs.length : Int) := by omega
      have hos := hok xs[k] (List.getElem_mem _)
      have Hn := Lib.hid (textM_take hlt)
      have hL := lineM_size hos
      generalize xs[k] = s at *
      obtain ⟨hnum, hw, hoff⟩ := mem_parts hos
      have hnm := (word_size hw).2
      obtain ⟨j, hj, hj4⟩ : ∃ j : Nat, s.off = (j : Int) ∧ j < 4 := ⟨s.off.toNat, by omega, by omega⟩
      have hjI : (j : Int) < 4 := by omega
      have hof : ∀ w1, Below w.heap.size w w1 → w1.cell? ⟨0, j, none⟩ = some (.string (offB s.off)) := fun w1 hb => by
        rw [hj]; exact hneed0.below hb j hj4
      have hD := numB_small (n := s.num) (by omega) (by omega)
      have hW := offB_size s.off
      have HI : Hid (∀ w1, Calls Tryz.prog 65 #[.int .i64 s.num] w1 fun e w' => e = .returned (.string (numB s.num)) ∧ Below w1.heap.size w1 w') := fun w1 => by
        obtain ⟨n, hn⟩ : ∃ n : Nat, s.num = n := ⟨s.num.toNat, by omega⟩
        rw [hn]
        refine (Tryz.strconv_Itoa_small n (by omega) w1).mono fun e w2 h => ⟨by rw [h.1, numB, Lib.itoa_nonneg], by rw [h.2]; exact Below.refl _ _⟩
      have HL : Hid (lineM s = numB s.num ++ ⟨#[32]⟩ ++ s.name ++ offB s.off) := rfl
      generalize lineM s = L at *
      have Hnew : Hid ((T ++ (numB s.num ++ ⟨#[32]⟩ ++ s.name ++ offB s.off ++ ⟨#[10]⟩)).data.toList = textG lineM (xs.take (k + 1))) := by show _ = _; rw [Hn.out, ← H.out, HL.out]; simp
      have Hsz : Hid ((T ++ (numB s.num ++ ⟨#[32]⟩ ++ s.name ++ offB s.off ++ ⟨#[10]⟩)).size ≤ 31 * (k + 1)) := by
        show _ ≤ _
        rw [HL.out] at hL
        simp only [ByteArray.size_append] at hL ⊢
        have : (⟨#[10]⟩ : ByteArray).size = 1 := rfl
        omega
      clear Hn H hL hos hT hoff hw HL
      obtain ⟨num, nm, of⟩ := s
      simp only at *
      subst hj
      generalize numB num = D at *
      generalize offB (j : Int) = W at *
      have hr1 : ∀ w, (Op.stringOp .add D (⟨#[32]⟩ : ByteArray)).run Tryz.prog w = .ok (.string (D ++ (⟨#[32]⟩ : ByteArray))) w := add_run 2 1 hD (by decide) (by decide)
      have hz1 := app_le hD (show (⟨#[32]⟩ : ByteArray).size ≤ 1 by decide)
      have hr2 : ∀ w, (Op.stringOp .add (D ++ (⟨#[32]⟩ : ByteArray)) nm).run Tryz.prog w = .ok (.string ((D ++ (⟨#[32]⟩ : ByteArray)) ++ nm)) w := add_run 3 10 hz1 hnm (by decide)
      have hz2 := app_le hz1 hnm
      have hr3 : ∀ w, (Op.stringOp .add ((D ++ (⟨#[32]⟩ : ByteArray)) ++ nm) W).run Tryz.prog w = .ok (.string (((D ++ (⟨#[32]⟩ : ByteArray)) ++ nm) ++ W)) w := add_run 13 12 hz2 hW (by decide)
      have hz3 := app_le hz2 hW
      have hr4 : ∀ w, (Op.stringOp .add (((D ++ (⟨#[32]⟩ : ByteArray)) ++ nm) ++ W) (⟨#[10]⟩ : ByteArray)).run Tryz.prog w = .ok (.string ((((D ++ (⟨#[32]⟩ : ByteArray)) ++ nm) ++ W) ++ (⟨#[10]⟩ : ByteArray))) w := add_run 25 1 hz3 (by decide) (by decide)
      have hz4 := app_le hz3 (show (⟨#[10]⟩ : ByteArray).size ≤ 1 by decide)
      have hr5 : ∀ w, (Op.stringOp .add T ((((D ++ (⟨#[32]⟩ : ByteArray)) ++ nm) ++ W) ++ (⟨#[10]⟩ : ByteArray))).run Tryz.prog w = .ok (.string (T ++ ((((D ++ (⟨#[32]⟩ : ByteArray)) ++ nm) ++ W) ++ (⟨#[10]⟩ : ByteArray)))) w := add_run 400 26 hT1 hz4 (by decide)
      clear hz1 hz2 hz3 hz4 hD hW hnm hT1
      go_wp2_with fail
      have hbw := btr hb (bnew (Below.refl wr.heap.size wr) (.cells #[.int .i64 num, .string nm, .int .i64 j] 54))
      have z0 : (wr.alloc (.cells #[.int .i64 num, .string nm, .int .i64 j] 54)).cell? ⟨wr.heap.size, 0, none⟩ = some (.int .i64 num) := (World.cell?_alloc_at _ _ _ _ rfl).trans rfl
      have z1 : (wr.alloc (.cells #[.int .i64 num, .string nm, .int .i64 j] 54)).cell? ⟨wr.heap.size, 1, none⟩ = some (.string nm) := (World.cell?_alloc_at _ _ _ _ rfl).trans rfl
      have z2 : (wr.alloc (.cells #[.int .i64 num, .string nm, .int .i64 j] 54)).cell? ⟨wr.heap.size, 2, none⟩ = some (.int .i64 j) := (World.cell?_alloc_at _ _ _ _ rfl).trans rfl
      have z3 := hof _ hbw
      clear c0 c1 c2 hof
      generalize wr.alloc (.cells #[.int .i64 num, .string nm, .int .i64 j] 54) = W0 at *
      obtain ⟨bx, hbx⟩ : ∃ bx, bx = wr.heap.size := ⟨_, rfl⟩
      rw [← hbx] at z0 z1 z2
      rw [← hbx]
      clear hbx
      have g0 := cell_after z0
      have g1 := cell_after z1
      have g2 := cell_after z2
      have g3 := cell_after z3
      refine wp_region_after (by kernel_rfl) (by kernel_rfl) ?_
      repeat (go_big_quiet_step ((go_at_call 65; exact Calls.after (HI.out _))))
      refine wpQuiet_nil ?_
      intro nq
      have hbq := btr hbw nq.bel
      generalize nq.val = w1 at *
      clear nq g0 g1 g2 g3 z0 z1 z2 z3
      go_wp2
      go_roundw
      case rel => exact ⟨k + 1, _, by omega, by go_num, rfl, Hsz.out, Hnew, hbq⟩
      case measure => simp [intOf]; omega
    · have hkI : ¬ (k : Int) < (xs.length : Int) := by omega
      have HT : Hid (T = ⟨(textG lineM xs).toArray⟩) := of_list (by have := H.out; rwa [List.take_of_length_le (by omega)] at this)
      clear H
      go_wp2
      go_ret
      exact ⟨by rw [← HT.out]; rfl, hb⟩
set_option maxHeartbeats 2000000 in
set_option maxRecDepth 100000 in
theorem l3Text_any (A : Option Addr) (c : Nat) (xs : List Mem) (w : World) (hn : xs.length ≤ 12) (hx : Rd w A (memCells xs)) (hok : ∀ s ∈ xs, memOk s = true) :
    Calls Tryz.prog 40 #[.slice A xs.length c] w fun e w' => e = .returned (.string ⟨(textG lineM xs).toArray⟩) ∧ Below w.heap.size w w' := by
  have hnI : (xs.length : Int) ≤ 12 := by omega
  go_enter Tryz.func40, Tryz.ntmps40
  go_wp2
  go_loopw [3, 4] (fun t i wr => ∃ (k : Nat) (T : ByteArray), k ≤ xs.length ∧ i = .int .i64 k ∧ t = .string T ∧ T.size ≤ 31 * k ∧ Hid (T.data.toList = textG lineM (xs.take k)) ∧ Below w.heap.size w wr) (fun _ i _ => xs.length - (intOf i).toNat)
  case atStart => exact ⟨0, ⟨#[]⟩, by omega, rfl, rfl, Nat.le_refl _, rfl, Below.refl _ _⟩
  case round =>
    obtain ⟨k, T, hk, rfl, rfl, hT, H, hb⟩ := hrel
    have hT1 : T.size ≤ 400 := by omega
    by_cases hlt : k < xs.length
    · obtain ⟨b, off, rfl, c0, c1, c2⟩ := Rd.mem (hx.below hb) hlt
      have hkI : (k : Int) < (xs.length : Int) := by omega
      have hos := hok xs[k] (List.getElem_mem _)
      have Hn := Lib.hid (textM_take hlt)
      have hL := lineM_size hos
      generalize xs[k] = s at *
      have HL : Hid (∀ w1, Below w.heap.size w w1 → Calls Tryz.prog 50 #[.agg #[.int .i64 s.num, .string s.name, .int .i64 s.off]] w1 fun e w' => e = .returned (.string (lineM s)) ∧ Below w1.heap.size w1 w') := fun w1 _ => l3Line_any s w1 (by have := (mem_parts hos).1; omega) (by have := (word_size (mem_parts hos).2.1).2; omega) (by have := (mem_parts hos).2.2; omega)
      generalize lineM s = L at *
      have Hnew : Hid ((T ++ L ++ ⟨#[10]⟩).data.toList = textG lineM (xs.take (k + 1))) := by show _ = _; rw [Hn.out, ← H.out]; simp
      have Hsz : Hid ((T ++ L ++ ⟨#[10]⟩).size ≤ 31 * (k + 1)) := by show _ ≤ _; simp only [ByteArray.size_append]; have : (⟨#[10]⟩ : ByteArray).size = 1 := rfl; omega
      have hr1 : ∀ w, (Op.stringOp .add T L).run Tryz.prog w = .ok (.string (T ++ L)) w := add_run 400 30 (by omega) hL (by decide)
      have hr2 : ∀ w, (Op.stringOp .add (T ++ L) ⟨#[10]⟩).run Tryz.prog w = .ok (.string (T ++ L ++ ⟨#[10]⟩)) w := add_run 430 1 (app_le (m := 400) (n := 30) hT1 hL) (show (⟨#[10]⟩ : ByteArray).size ≤ 1 by decide) (by decide)
      clear Hn H hL hos hT hT1
      go_wp2_with fail
      refine (HL.out _ hb).mono ?_
      rintro e w2 ⟨rfl, hb2⟩
      have hb3 := btr hb hb2
      go_wp2
      go_roundw
      case rel => exact ⟨k + 1, _, by omega, by go_num, rfl, Hsz.out, Hnew, hb3⟩
      case measure => simp [intOf]; omega
    · have hkI : ¬ (k : Int) < (xs.length : Int) := by omega
      have HT : Hid (T = ⟨(textG lineM xs).toArray⟩) := of_list (by have := H.out; rwa [List.take_of_length_le (by omega)] at this)
      clear H
      go_wp2
      go_ret
      exact ⟨by rw [← HT.out]; rfl, hb⟩
theorem implText_any (A : Option Addr) (c : Nat) (xs : List Mem) (w : World) (hn : xs.length ≤ maxLen) (hlc : xs.length ≤ c) (hx : Rd w A (memCells xs)) (hs : ∀ s ∈ xs, s.name.size ≤ maxLen) (hneed0 : OffAt w 0) :
    Calls Tryz.prog 14 #[.slice A xs.length c] w fun e w' => e = .returned (.tuple #[.string (textR xs).1, .bool (textR xs).2]) ∧ Below w.heap.size w w' := by
  have Hv := Lib.hid (isMembers_any A c xs w hn hlc hx hs)
  by_cases hg : goodMem xs = true
  · obtain ⟨hok, h8⟩ := goodM_ok hg
    have HR : textR xs = (⟨(textG lineM xs).toArray⟩, true) := if_pos hg
    have Hl : Hid (∀ w1, Below w.heap.size w w1 → Calls Tryz.prog 39 #[.slice A xs.length c] w1 fun e w' => e = .returned (.string ⟨(textG lineM xs).toArray⟩) ∧ Below w1.heap.size w1 w') := fun w1 hb => membersText_any A c xs w1 h8 (hx.below hb) hok (hneed0.below hb)
    rw [HR]
    rw [hg] at Hv
    generalize (⟨(textG lineM xs).toArray⟩ : ByteArray) = S at *
    clear hg HR hs hok hneed0
    go_enter Tryz.func14, Tryz.ntmps14
    go_wp2_with (first | (go_at_call 10; refine Hv.out.mono ?_; rintro e w1 ⟨rfl, hb1⟩) | (go_at_call 39; refine (Hl.out _ hb1).mono ?_; rintro e w2 ⟨rfl, hb2⟩))
    exact bodyPost_ret (v := .tuple #[.string S, .bool true]) (by simp [results, Tryz.results14, go_sem]) rfl ⟨rfl, btr hb1 hb2⟩
  · have hg' : goodMem xs = false := by simpa using hg
    have HR : textR xs = (⟨#[]⟩, false) := if_neg hg
    rw [HR]
    rw [hg'] at Hv
    clear hg hg' HR hs hx hneed0
    go_enter Tryz.func14, Tryz.ntmps14
    go_wp2_with (first | (go_at_call 10; refine Hv.out.mono ?_; rintro e w1 ⟨rfl, hb1⟩))
    exact bodyPost_ret (v := .tuple #[.string ⟨#[]⟩, .bool false]) (by simp [results, Tryz.results14, go_sem]) rfl ⟨rfl, hb1⟩
theorem specText_any (A : Option Addr) (c : Nat) (xs : List Mem) (w : World) (hn : xs.length ≤ maxLen) (hlc : xs.length ≤ c) (hx : Rd w A (memCells xs)) (hs : ∀ s ∈ xs, s.name.size ≤ maxLen) :
    Calls Tryz.prog 15 #[.slice A xs.length c] w fun e w' => e = .returned (.tuple #[.string (textR xs).1, .bool (textR xs).2]) ∧ Below w.heap.size w w' := by
  have Hv := Lib.hid (l3Good_any A c xs w hn hlc hx hs)
  by_cases hg : goodMem xs = true
  · obtain ⟨hok, h8⟩ := goodM_ok hg
    have HR : textR xs = (⟨(textG lineM xs).toArray⟩, true) := if_pos hg
    have Hl : Hid (∀ w1, Below w.heap.size w w1 → Calls Tryz.prog 40 #[.slice A xs.length c] w1 fun e w' => e = .returned (.string ⟨(textG lineM xs).toArray⟩) ∧ Below w1.heap.size w1 w') := fun w1 hb => l3Text_any A c xs w1 h8 (hx.below hb) hok
    rw [HR]
    rw [hg] at Hv
    generalize (⟨(textG lineM xs).toArray⟩ : ByteArray) = S at *
    clear hg HR hs hok
    go_enter Tryz.func15, Tryz.ntmps15
    go_wp2_with (first | (go_at_call 28; refine Hv.out.mono ?_; rintro e w1 ⟨rfl, hb1⟩) | (go_at_call 40; refine (Hl.out _ hb1).mono ?_; rintro e w2 ⟨rfl, hb2⟩))
    exact bodyPost_ret (v := .tuple #[.string S, .bool true]) (by simp [results, Tryz.results15, go_sem]) rfl ⟨rfl, btr hb1 hb2⟩
  · have hg' : goodMem xs = false := by simpa using hg
    have HR : textR xs = (⟨#[]⟩, false) := if_neg hg
    rw [HR]
    rw [hg'] at Hv
    clear hg hg' HR hs hx
    go_enter Tryz.func15, Tryz.ntmps15
    go_wp2_with (first | (go_at_call 28; refine Hv.out.mono ?_; rintro e w1 ⟨rfl, hb1⟩))
    exact bodyPost_ret (v := .tuple #[.string ⟨#[]⟩, .bool false]) (by simp [results, Tryz.results15, go_sem]) rfl ⟨rfl, hb1⟩
end Go.Proofs.YtngheildmhimoaaGreatDoor
