/-
  The line of a rule: plain laws and contracts of both texts. Conditions: the words for the needs are as listed.
-/
import Derived.Test.YtfaphackdhdcaaaDoorRul
import Derived.Test.YtfaphackdhdcaaaDoorDPar
import Derived.Test.YtfaphackdhdcaaaDoorLoose
import Derived.Test.YtfaphackdhdcaaaDoorApp
import Derived.Lib.SplitLaws
import Derived.Lib.IndexBytes
import Derived.Lib.IndexLaws
import Derived.Lib.Join
import Derived.Lib.ItoaMem
import Derived.Deep.RegionWith
namespace Go.My
open Go.RowKit
/-! ### A text cut at each byte b -/
def splitU (b : UInt8) : List UInt8 → List (List UInt8)
  | [] => [[]]
  | c :: l => if c = b then [] :: splitU b l else match splitU b l with
    | h :: t => (c :: h) :: t
    | [] => [[c]]
theorem splitU_ne (b : UInt8) (l : List UInt8) : splitU b l ≠ [] := by
  cases l with
  | nil => simp [splitU]
  | cons c l =>
    unfold splitU
    split
    · simp
    · split <;> simp
theorem splitU_none {b : UInt8} : ∀ {x : List UInt8}, b ∉ x → splitU b x = [x]
  | [], _ => rfl
  | c :: l, h => by
    have h1 : c ≠ b := fun e => h (by rw [e]; simp)
    have h2 := splitU_none (b := b) (x := l) (fun hm => h (List.mem_cons_of_mem _ hm))
    unfold splitU
    rw [if_neg h1, h2]
theorem splitU_cons {b : UInt8} : ∀ {x r : List UInt8}, b ∉ x → splitU b (x ++ b :: r) = x :: splitU b r
  | [], r, _ => by simp [splitU]
  | c :: l, r, h => by
    have h1 : c ≠ b := fun e => h (by rw [e]; simp)
    have h2 := splitU_cons (b := b) (x := l) (r := r) (fun hm => h (List.mem_cons_of_mem _ hm))
    rw [List.cons_append]
    conv => lhs; unfold splitU
    rw [if_neg h1, h2]
theorem splitU_join {b : UInt8} : ∀ {x : List UInt8} {xs : List (List UInt8)}, b ∉ x → (∀ y ∈ xs, b ∉ y) → splitU b (Lib.join (x :: xs) [b]) = x :: xs
  | x, [], h, _ => by rw [Lib.join_one]; exact splitU_none h
  | x, y :: ys, h, hs => by
    have e : Lib.join (x :: y :: ys) [b] = x ++ b :: Lib.join (y :: ys) [b] := by
      simp [Lib.join_cons, Lib.joinTail]
    rw [e, splitU_cons h, splitU_join (hs y (by simp)) (fun z hz => hs z (by simp [hz]))]
theorem indexByte_notin {b : UInt8} {l : List UInt8} (h : Lib.indexByte l b = -1) : b ∉ l := by
  intro hm
  obtain ⟨i, hi, e⟩ := List.getElem_of_mem hm
  exact Lib.indexByte_none h i (by rw [List.getElem?_eq_getElem hi, e])
theorem indexByte_cut {b : UInt8} {l : List UInt8} {i : Nat} (h : Lib.indexByte l b = (i : Int)) : l = l.take i ++ b :: l.drop (i + 1) ∧ b ∉ l.take i ∧ i < l.length := by
  obtain ⟨h1, h2⟩ := Lib.indexByte_some h
  obtain ⟨hl, e⟩ := List.getElem?_eq_some_iff.1 h1
  refine ⟨?_, ?_, hl⟩
  · rw [← e, List.getElem_cons_drop, List.take_append_drop]
  · intro hm
    obtain ⟨j, hj, e2⟩ := List.getElem_of_mem hm
    have hj2 : j < i := by simp at hj; omega
    refine h2 j hj2 ?_
    rw [List.getElem_take] at e2
    rw [List.getElem?_eq_getElem (by omega), e2]
theorem splitK_one (c : UInt8) : ∀ (n : Nat) (s : List UInt8), s.length ≤ n → Lib.splitK [c] 0 (Lib.count s [c]) s = splitU c s
  | n, s, hn => by
    have hge := Lib.indexByte_ge s c
    by_cases h : Lib.indexByte s c = -1
    · have hno := indexByte_notin h
      rw [splitU_none hno, Lib.count_miss (by rw [Lib.index_one]; exact h)]
      rfl
    · obtain ⟨i, hi⟩ : ∃ i : Nat, Lib.indexByte s c = (i : Int) := ⟨(Lib.indexByte s c).toNat, by omega⟩
      obtain ⟨h1, h2, h3⟩ := indexByte_cut hi
      have hix : Lib.index s [c] = (i : Int) := by rw [Lib.index_one]; exact hi
      have hct := Lib.count_hit (s := s) (sub := [c]) (by simp) hix
      match n, hn with
      | 0, hn => omega
      | n + 1, hn =>
        have hd : (s.drop (i + 1)).length ≤ n := by rw [List.length_drop]; omega
        have ih := splitK_one c n (s.drop (i + 1)) hd
        rw [hct, Nat.add_comm 1, Lib.splitK, if_neg (by rw [hix]; simp), hix]
        conv => rhs; rw [h1, splitU_cons h2]
        simp only [Int.toNat_natCast, Nat.add_zero, List.length_singleton]
        rw [ih]
def bl (xs : List ByteArray) : List (List UInt8) := xs.map (fun x => x.data.toList)
theorem bl_inj {xs ys : List ByteArray} (h : bl xs = bl ys) : xs = ys := by
  induction xs generalizing ys with
  | nil => cases ys with | nil => rfl | cons y ys => simp [bl] at h
  | cons x xs ih =>
    cases ys with
    | nil => simp [bl] at h
    | cons y ys =>
      simp only [bl, List.map_cons, List.cons.injEq] at h
      rw [ih h.2, ByteArray.ext (Array.toList_inj.1 h.1)]
/-! ### A rule's line -/
def numB (n : Int) : ByteArray := ⟨(Lib.itoa n).toArray⟩
def spB : ByteArray := ⟨#[32]⟩
def rankB : ByteArray := ⟨#[32, 114, 97, 110, 107, 32]⟩
def secW : List UInt8 := [115, 101, 99, 111, 110, 100]
def debW : List UInt8 := [100, 101, 98, 97, 116, 101]
def amW : List UInt8 := [97, 109, 101, 110, 100]
def byW : List UInt8 := [98, 121]
def rankW : List UInt8 := [114, 97, 110, 107]
def flagB (b : Bool) (w : List UInt8) (t : ByteArray) : ByteArray := if b = true then t ++ ⟨(32 :: w).toArray⟩ else t
def byB : ByteArray := ⟨#[32, 98, 121, 32]⟩
def need0 : ByteArray := ⟨#[]⟩
def need1 : ByteArray := ⟨#[109, 97, 106, 111, 114, 105, 116, 121]⟩
def need2 : ByteArray := ⟨#[116, 119, 111, 45, 116, 104, 105, 114, 100, 115]⟩
def need3 : ByteArray := ⟨#[97, 108, 108]⟩
def needW (n : Int) : ByteArray := if n = 1 then need1 else if n = 2 then need2 else if n = 3 then need3 else need0
def headB (r : Rul) : ByteArray := numB r.id ++ spB ++ r.name ++ rankB ++ numB r.rank
def lineB (r : Rul) : ByteArray := flagB r.am amW (flagB r.deb debW (flagB r.sec secW (headB r))) ++ byB ++ needW r.need
/-- The words of a rule's line. -/
def flagsW (r : Rul) : List (List UInt8) := (if r.sec = true then [secW] else []) ++ (if r.deb = true then [debW] else []) ++ (if r.am = true then [amW] else [])
def wordsW (r : Rul) : List (List UInt8) := [Lib.itoa r.id, r.name.data.toList, rankW, Lib.itoa r.rank] ++ flagsW r ++ [byW, (needW r.need).data.toList]
theorem app_list (a b : ByteArray) : (a ++ b).data.toList = a.data.toList ++ b.data.toList := by simp [ByteArray.data_append]
theorem line_words (r : Rul) : (lineB r).data.toList = Lib.join (wordsW r) [32] := by
  obtain ⟨id, nm, rk, s, d, a, nd⟩ := r
  cases s <;> cases d <;> cases a <;> simp [lineB, headB, flagB, wordsW, flagsW, Lib.join_cons, Lib.joinTail, numB, spB, rankB, byB, byW, rankW, secW, debW, amW]
theorem itoa_no32 (n : Int) : (32 : UInt8) ∉ Lib.itoa n := by
  intro hm
  have h32 : (32 : UInt8).toNat = 32 := rfl
  unfold Lib.itoa at hm
  split at hm
  · rcases List.mem_cons.1 hm with h | h
    · exact absurd h (by decide)
    · have := dec_digit _ _ h; omega
  · have := dec_digit _ _ hm; omega
theorem word_letter {s : ByteArray} (h : wordB s = true) : ∀ c ∈ s.data.toList, 97 ≤ c.toNat ∧ c.toNat ≤ 122 := by
  intro c hc
  simp only [wordB, Bool.and_eq_true, List.all_eq_true] at h
  simpa [letterB] using h.1 c hc
theorem word_no {s : ByteArray} {b : UInt8} (h : wordB s = true) (hb : b.toNat < 97) : b ∉ s.data.toList := fun hm => by have := word_letter h b hm; omega
theorem word_size {s : ByteArray} (h : wordB s = true) : 1 ≤ s.size ∧ s.size ≤ 10 := by
  simp only [wordB, Bool.and_eq_true, decide_eq_true_eq] at h
  exact h.2
theorem needW_no32 (n : Int) : (32 : UInt8) ∉ (needW n).data.toList := by
  unfold needW
  split
  · decide
  · split
    · decide
    · split <;> decide
theorem flags_no32 (r : Rul) : ∀ y ∈ flagsW r, (32 : UInt8) ∉ y := by
  intro y hy
  simp only [flagsW, List.mem_append] at hy
  rcases hy with (hy | hy) | hy <;> (split at hy <;> simp at hy <;> subst hy <;> decide)
theorem words_split {r : Rul} (h : wordB r.name = true) : splitU 32 (lineB r).data.toList = wordsW r := by
  rw [line_words]
  unfold wordsW
  rw [List.cons_append, List.cons_append]
  refine splitU_join (itoa_no32 _) ?_
  intro y hy
  simp only [List.cons_append, List.mem_cons, List.mem_append, List.nil_append, List.not_mem_nil, or_false] at hy
  rcases hy with rfl | rfl | rfl | hy | rfl | rfl
  · exact word_no h (by decide)
  · decide
  · exact itoa_no32 _
  · exact flags_no32 r y hy
  · decide
  · exact needW_no32 _
/-! ### What a rule's line says -/
def rul0 : Rul := ⟨0, ⟨#[]⟩, 0, false, false, false, 0⟩
/-- The answer to a text: the one valid rule whose line it is, or none. -/
def IsParse (s : ByteArray) (r : Rul) (b : Bool) : Prop := (b = true ∧ rulOk r = true ∧ lineB r = s) ∨ (b = false ∧ r = rul0 ∧ ∀ r', rulOk r' = true → lineB r' ≠ s)
def hasW (w : List UInt8) (X : List ByteArray) : Bool := X.any fun x => x.data.toList == w
def needI (x : ByteArray) : Int := if x.data.toList = [] then 0 else if x.data.toList = need1.data.toList then 1 else if x.data.toList = need2.data.toList then 2 else if x.data.toList = need3.data.toList then 3 else -1
def needS (x : ByteArray) : Int := if x.data.toList = need1.data.toList then 1 else if x.data.toList = need2.data.toList then 2 else if x.data.toList = need3.data.toList then 3 else 0
def at_ (X : List ByteArray) (k : Nat) : ByteArray := X.getD k ⟨#[]⟩
theorem at_eq {X : List ByteArray} {k : Nat} (h : k < X.length) : at_ X k = X[k] := by unfold at_; rw [List.getD_eq_getElem?_getD, List.getElem?_eq_getElem h]; rfl
/-- The rule that the program reads off the words, and the reference. -/
def ruleI (X : List ByteArray) : Rul := ⟨(readR (at_ X 0)).1, at_ X 1, (readR (at_ X 3)).1, hasW secW (X.drop 4), hasW debW (X.drop 4), hasW amW (X.drop 4), needI (at_ X (X.length - 1))⟩
def ruleS (X : List ByteArray) : Rul := ⟨(readR (at_ X 0)).1, at_ X 1, (readR (at_ X 3)).1, hasW secW ((X.take (X.length - 2)).drop 4), hasW debW ((X.take (X.length - 2)).drop 4), hasW amW ((X.take (X.length - 2)).drop 4), needS (at_ X (X.length - 1))⟩
theorem hasW_bl (w : List UInt8) (X : List ByteArray) : hasW w X = (bl X).any (· == w) := by simp [hasW, bl, List.any_map, Function.comp_def]
theorem read_itoa {n : Int} (h0 : -999999 ≤ n) (h1 : n ≤ 999999) : readR (numB n) = (n, true) := read_yes h0 h1 rfl
theorem rul_parts {r : Rul} (h : rulOk r = true) : (1 ≤ r.id ∧ r.id ≤ 20) ∧ wordB r.name = true ∧ (0 ≤ r.rank ∧ r.rank ≤ 9) ∧ (r.need = 1 ∨ r.need = 2 ∨ r.need = 3) := by
  simp only [rulOk, inB, Bool.and_eq_true, decide_eq_true_eq] at h
  refine ⟨h.1.1.1, h.1.1.2, h.1.2, ?_⟩
  omega
theorem ba_ext {a b : ByteArray} (h : a.data.toList = b.data.toList) : a = b := ByteArray.ext (Array.toList_inj.1 h)
theorem bl_at {X : List ByteArray} {ws : List (List UInt8)} (h : bl X = ws) (k : Nat) (hk : k < ws.length) : (at_ X k).data.toList = ws[k] := by
  have hl : X.length = ws.length := by rw [← h]; simp [bl]
  rw [at_eq (by omega)]
  subst h
  simp [bl]
theorem parse_all {r : Rul} {X : List ByteArray} (hr : rulOk r = true) (hX : bl X = wordsW r) :
    (6 ≤ X.length ∧ X.length ≤ 9) ∧ (readR (at_ X 0)).2 = true ∧ (readR (at_ X 3)).2 = true ∧ ruleI X = r ∧ ruleS X = r := by
  obtain ⟨hid, hw, hrk, hnd⟩ := rul_parts hr
  have hl : X.length = (wordsW r).length := by rw [← hX]; simp [bl]
  have h0 : at_ X 0 = numB r.id := ba_ext (by rw [bl_at hX 0 (by simp [wordsW])]; rfl)
  have h1 : at_ X 1 = r.name := ba_ext (by rw [bl_at hX 1 (by simp [wordsW])]; rfl)
  have h3 : at_ X 3 = numB r.rank := ba_ext (by rw [bl_at hX 3 (by simp [wordsW])]; rfl)
  have r0 := read_itoa (n := r.id) (by omega) (by omega)
  have r3 := read_itoa (n := r.rank) (by omega) (by omega)
  have hdrop : bl (X.drop 4) = (wordsW r).drop 4 := by rw [← hX]; simp [bl, List.map_drop]
  have htake : bl ((X.take (X.length - 2)).drop 4) = ((wordsW r).take ((wordsW r).length - 2)).drop 4 := by rw [hl, ← hX]; simp [bl, List.map_drop, List.map_take]
  have hlast : (at_ X (X.length - 1)).data.toList = (wordsW r)[(wordsW r).length - 1]'(by simp [wordsW]) := by
    have := bl_at hX ((wordsW r).length - 1) (by simp [wordsW])
    rwa [hl]
  unfold ruleI ruleS
  rw [h0, h1, h3, r0, r3]
  simp only [hasW_bl, hdrop, htake]
  clear h0 h1 h3 r0 r3 hdrop htake hX
  obtain ⟨id, nm, rk, s, d, a, nd⟩ := r
  simp only at hnd
  have hn : (at_ X (X.length - 1)).data.toList = (needW nd).data.toList := by
    rw [hlast]
    cases s <;> cases d <;> cases a <;> rfl
  refine ⟨?_, trivial, trivial, ?_, ?_⟩
  · rw [hl]; simp only [wordsW, flagsW]; cases s <;> cases d <;> cases a <;> simp
  · have hneed : needI (at_ X (X.length - 1)) = nd := by
      unfold needI; rw [hn]
      rcases hnd with rfl | rfl | rfl <;> decide
    rw [hneed]
    rcases hnd with rfl | rfl | rfl <;> cases s <;> cases d <;> cases a <;> rfl
  · have hneed : needS (at_ X (X.length - 1)) = nd := by
      unfold needS; rw [hn]
      rcases hnd with rfl | rfl | rfl <;> decide
    rw [hneed]
    rcases hnd with rfl | rfl | rfl <;> cases s <;> cases d <;> cases a <;> rfl
theorem line_inj {a b : Rul} (ha : rulOk a = true) (hb : rulOk b = true) (h : lineB a = lineB b) : a = b := by
  have h1 := words_split (rul_parts ha).2.1
  have h2 := words_split (rul_parts hb).2.1
  rw [h, h2] at h1
  have hX : bl ((wordsW b).map fun l => (⟨l.toArray⟩ : ByteArray)) = wordsW b := by simp [bl, Function.comp_def]
  exact ((parse_all ha (hX.trans h1)).2.2.2.1).symm.trans (parse_all hb hX).2.2.2.1
theorem IsParse.unique {s : ByteArray} {r1 r2 : Rul} {b1 b2 : Bool} (h1 : IsParse s r1 b1) (h2 : IsParse s r2 b2) : r1 = r2 ∧ b1 = b2 := by
  rcases h1 with ⟨e1, k1, l1⟩ | ⟨e1, z1, n1⟩ <;> rcases h2 with ⟨e2, k2, l2⟩ | ⟨e2, z2, n2⟩
  · exact ⟨line_inj k1 k2 (l1.trans l2.symm), e1.trans e2.symm⟩
  · exact absurd l1 (n2 _ k1)
  · exact absurd l2 (n1 _ k2)
  · exact ⟨z1.trans z2.symm, e1.trans e2.symm⟩
theorem line_size {r : Rul} (h : rulOk r = true) : (lineB r).size ≤ 80 := by
  obtain ⟨hid, hw, hrk, hnd⟩ := rul_parts h
  have hs := word_size hw
  have h1 := itoa_len (n := r.id) (by omega) (by omega)
  have h2 := itoa_len (n := r.rank) (by omega) (by omega)
  have e1 : (numB r.id).size ≤ 7 := by show (Lib.itoa r.id).toArray.size ≤ 7; simpa using h1
  have e2 : (numB r.rank).size ≤ 7 := by show (Lib.itoa r.rank).toArray.size ≤ 7; simpa using h2
  have e3 : (needW r.need).size ≤ 10 := by rcases hnd with h | h | h <;> rw [h] <;> decide
  have k1 : ∀ b w t, (flagB b w t).size ≤ t.size + 1 + w.length := by
    intro b w t; unfold flagB; split
    · rw [ByteArray.size_append]; show t.size + (32 :: w).toArray.size ≤ _; simp; omega
    · omega
  have a1 := k1 r.am amW (flagB r.deb debW (flagB r.sec secW (headB r)))
  have a2 := k1 r.deb debW (flagB r.sec secW (headB r))
  have a3 := k1 r.sec secW (headB r)
  have hh : (headB r).size ≤ 7 + 1 + 10 + 6 + 7 := by
    unfold headB
    simp only [ByteArray.size_append]
    have : spB.size = 1 := rfl
    have : rankB.size = 6 := rfl
    omega
  unfold lineB
  simp only [ByteArray.size_append]
  have : byB.size = 4 := rfl
  have : amW.length = 5 := rfl
  have : debW.length = 6 := rfl
  have : secW.length = 6 := rfl
  omega
theorem cell_bw {w w' : World} {p : Addr} {v : Value} (h : w.cell? p = some v) (hb : Below w.heap.size w w') : w'.cell? p = some v := (hb.cell (World.block_lt_of_cell? w _ h)).trans h
theorem add_run {P : Program} {a b : ByteArray} (m n : Nat) (ha : a.size ≤ m) (hb : b.size ≤ n) (h : m + n ≤ 8388608) : ∀ w, (Op.stringOp .add a b).run P w = .ok (.string (a ++ b)) w := fun w => run_string_add w a b (by omega) (by omega)
theorem app_le {a b : ByteArray} {m n : Nat} (ha : a.size ≤ m) (hb : b.size ≤ n) : (a ++ b).size ≤ m + n := by rw [ByteArray.size_append]; omega
theorem numB_small {n : Int} (h0 : 0 ≤ n) (h1 : n < 100) : (numB n).size ≤ 2 := by
  show (Lib.itoa n).toArray.size ≤ 2
  unfold Lib.itoa
  rw [if_neg (by omega)]
  simpa using dec_len_le 1 n.toNat (by omega)
/-- The table of the needs' words holds them. -/
def NeedAt (w : World) (g : Nat) : Prop := ∀ k : Nat, k < 4 → w.cell? ⟨g, k, none⟩ = some (.string (needW k))
theorem NeedAt.below {w w' : World} {g : Nat} (h : NeedAt w g) (hb : Below w.heap.size w w') : NeedAt w' g := fun k hk => (hb.cell (World.block_lt_of_cell? w _ (h k hk))).trans (h k hk)
/-- What RuleLine answers. -/
def lineR (r : Rul) : ByteArray × Bool := if rulOk r = true then (lineB r, true) else (⟨#[]⟩, false)
end Go.My
namespace Go.Proofs.YtfaphackdhdcaaaDoor
open Go.RowKit Go.My
theorem l2Needs_any (w : World) : Calls Tryd.prog 58 #[] w fun e w' => ∃ b, e = .returned (.slice (some ⟨b, 0, none⟩) 4 4) ∧ NeedAt w' b ∧ Below w.heap.size w w' := by
  go_enter Tryd.func58, Tryd.ntmps58
  go_wp2
  go_ret
  refine ⟨_, rfl, fun k hk => ?_, bnew (Below.refl _ _) _⟩
  match k, hk with
  | 0, _ => exact (World.cell?_alloc_at _ _ _ _ rfl).trans rfl
  | 1, _ => exact (World.cell?_alloc_at _ _ _ _ rfl).trans rfl
  | 2, _ => exact (World.cell?_alloc_at _ _ _ _ rfl).trans rfl
  | 3, _ => exact (World.cell?_alloc_at _ _ _ _ rfl).trans rfl
set_option maxHeartbeats 8000000 in
set_option maxRecDepth 100000 in
theorem ruleLine_any (r : Rul) (w : World) (hr : rulOk r = true) (hneed0 : NeedAt w 0) :
    Calls Tryd.prog 34 #[.agg #[.int .i64 r.id, .string r.name, .int .i64 r.rank, .bool r.sec, .bool r.deb, .bool r.am, .int .i64 r.need]] w fun e w' => e = .returned (.string (lineB r)) ∧ Below w.heap.size w w' := by
  obtain ⟨hid, hw, hrk, hnd⟩ := rul_parts hr
  have hnm := (word_size hw).2
  have HI : Hid (∀ (n : Int) w1, 0 ≤ n ∧ n < 100 → Calls Tryd.prog 59 #[.int .i64 n] w1 fun e w' => e = .returned (.string (numB n)) ∧ Below w1.heap.size w1 w') := fun n w1 hn => by
    obtain ⟨k, rfl⟩ : ∃ k : Nat, n = k := ⟨n.toNat, by omega⟩
    refine (Tryd.strconv_Itoa_small k (by omega) w1).mono fun e w2 h => ⟨by rw [h.1, numB, Lib.itoa_nonneg], by rw [h.2]; exact Below.refl _ _⟩
  have hD1 := numB_small (n := r.id) (by omega) (by omega)
  have hD2 := numB_small (n := r.rank) (by omega) (by omega)
  have hW : (needW r.need).size ≤ 10 := by rcases hnd with h | h | h <;> rw [h] <;> decide
  obtain ⟨k, hk, hk4⟩ : ∃ k : Nat, r.need = (k : Int) ∧ k < 4 := ⟨r.need.toNat, by omega, by omega⟩
  have hneed : ∀ w1, Below w.heap.size w w1 → w1.cell? ⟨0, k, none⟩ = some (.string (needW r.need)) := fun w1 hb => by
    rw [hk]; exact hneed0.below hb k hk4
  clear hr hw hnd hneed0
  obtain ⟨id, nm, rk, s, d, a, nd⟩ := r
  simp only at *
  have hkI : (k : Int) < 4 := by omega
  subst hk
  cases s with
  | false =>
    cases d with
    | false =>
      cases a with
      | false =>
        have HT : Hid (lineB ⟨id, nm, rk, false, false, false, k⟩ = (((((((numB id ++ (⟨#[32]⟩ : ByteArray)) ++ nm) ++ (⟨#[32, 114, 97, 110, 107, 32]⟩ : ByteArray)) ++ numB rk)) ++ (⟨#[32, 98, 121, 32]⟩ : ByteArray)) ++ needW k)) := rfl
        generalize lineB ⟨id, nm, rk, false, false, false, k⟩ = LB at *
        generalize needW k = W at *
        generalize hD1e : numB id = D1 at *
        generalize hD2e : numB rk = D2 at *
        have hrD0 : ∀ w, (Op.stringOp .add D1 (⟨#[32]⟩ : ByteArray)).run Tryd.prog w = .ok (.string (D1 ++ (⟨#[32]⟩ : ByteArray))) w := add_run 2 1 hD1 (by decide) (by decide)
        have hzD0 := app_le hD1 (show (⟨#[32]⟩ : ByteArray).size ≤ 1 from (by decide))
        have hrD1 : ∀ w, (Op.stringOp .add (D1 ++ (⟨#[32]⟩ : ByteArray)) nm).run Tryd.prog w = .ok (.string ((D1 ++ (⟨#[32]⟩ : ByteArray)) ++ nm)) w := add_run 3 10 hzD0 hnm (by decide)
        have hzD1 := app_le hzD0 (show nm.size ≤ 10 from hnm)
        have hrD2 : ∀ w, (Op.stringOp .add ((D1 ++ (⟨#[32]⟩ : ByteArray)) ++ nm) (⟨#[32, 114, 97, 110, 107, 32]⟩ : ByteArray)).run Tryd.prog w = .ok (.string (((D1 ++ (⟨#[32]⟩ : ByteArray)) ++ nm) ++ (⟨#[32, 114, 97, 110, 107, 32]⟩ : ByteArray))) w := add_run 13 6 hzD1 (by decide) (by decide)
        have hzD2 := app_le hzD1 (show (⟨#[32, 114, 97, 110, 107, 32]⟩ : ByteArray).size ≤ 6 from (by decide))
        have hrD3 : ∀ w, (Op.stringOp .add (((D1 ++ (⟨#[32]⟩ : ByteArray)) ++ nm) ++ (⟨#[32, 114, 97, 110, 107, 32]⟩ : ByteArray)) D2).run Tryd.prog w = .ok (.string ((((D1 ++ (⟨#[32]⟩ : ByteArray)) ++ nm) ++ (⟨#[32, 114, 97, 110, 107, 32]⟩ : ByteArray)) ++ D2)) w := add_run 19 2 hzD2 hD2 (by decide)
        have hzD3 := app_le hzD2 (show D2.size ≤ 2 from hD2)
        have hT0 : ((((D1 ++ (⟨#[32]⟩ : ByteArray)) ++ nm) ++ (⟨#[32, 114, 97, 110, 107, 32]⟩ : ByteArray)) ++ D2).size ≤ 21 := hzD3
        clear hzD0 hzD1 hzD2 hzD3
        obtain ⟨T0, hT0e⟩ : ∃ T0 : ByteArray, T0 = ((((D1 ++ (⟨#[32]⟩ : ByteArray)) ++ nm) ++ (⟨#[32, 114, 97, 110, 107, 32]⟩ : ByteArray)) ++ D2) := ⟨_, rfl⟩
        rw [← hT0e] at HT hT0
        have HT0 := Lib.hid hT0e
        clear hT0e
        have hrT0 : ∀ w, (Op.stringOp .add T0 (⟨#[32, 98, 121, 32]⟩ : ByteArray)).run Tryd.prog w = .ok (.string (T0 ++ (⟨#[32, 98, 121, 32]⟩ : ByteArray))) w := add_run 21 4 hT0 (by decide) (by decide)
        have hzT0 := app_le hT0 (show (⟨#[32, 98, 121, 32]⟩ : ByteArray).size ≤ 4 from (by decide))
        have hrT1 : ∀ w, (Op.stringOp .add (T0 ++ (⟨#[32, 98, 121, 32]⟩ : ByteArray)) W).run Tryd.prog w = .ok (.string ((T0 ++ (⟨#[32, 98, 121, 32]⟩ : ByteArray)) ++ W)) w := add_run 25 10 hzT0 hW (by decide)
        have hzT1 := app_le hzT0 (show W.size ≤ 10 from hW)
        clear hzT0 hzT1
        go_enter Tryd.func34, Tryd.ntmps34
        go_wp2_with fail
        have hb0 : Below w.heap.size w (w.alloc (.cells #[.int .i64 id, .string nm, .int .i64 rk, .bool false, .bool false, .bool false, .int .i64 k] 27)) := bnew (Below.refl _ _) _
        have z0 : (w.alloc (.cells #[.int .i64 id, .string nm, .int .i64 rk, .bool false, .bool false, .bool false, .int .i64 k] 27)).cell? ⟨w.heap.size, 0, none⟩ = some (.int .i64 id) := (World.cell?_alloc_at _ _ _ _ rfl).trans rfl
        have z1 : (w.alloc (.cells #[.int .i64 id, .string nm, .int .i64 rk, .bool false, .bool false, .bool false, .int .i64 k] 27)).cell? ⟨w.heap.size, 1, none⟩ = some (.string nm) := (World.cell?_alloc_at _ _ _ _ rfl).trans rfl
        have z2 : (w.alloc (.cells #[.int .i64 id, .string nm, .int .i64 rk, .bool false, .bool false, .bool false, .int .i64 k] 27)).cell? ⟨w.heap.size, 2, none⟩ = some (.int .i64 rk) := (World.cell?_alloc_at _ _ _ _ rfl).trans rfl
        have z3 : (w.alloc (.cells #[.int .i64 id, .string nm, .int .i64 rk, .bool false, .bool false, .bool false, .int .i64 k] 27)).cell? ⟨w.heap.size, 3, none⟩ = some (.bool false) := (World.cell?_alloc_at _ _ _ _ rfl).trans rfl
        have z4 : (w.alloc (.cells #[.int .i64 id, .string nm, .int .i64 rk, .bool false, .bool false, .bool false, .int .i64 k] 27)).cell? ⟨w.heap.size, 4, none⟩ = some (.bool false) := (World.cell?_alloc_at _ _ _ _ rfl).trans rfl
        have z5 : (w.alloc (.cells #[.int .i64 id, .string nm, .int .i64 rk, .bool false, .bool false, .bool false, .int .i64 k] 27)).cell? ⟨w.heap.size, 5, none⟩ = some (.bool false) := (World.cell?_alloc_at _ _ _ _ rfl).trans rfl
        have z6 : (w.alloc (.cells #[.int .i64 id, .string nm, .int .i64 rk, .bool false, .bool false, .bool false, .int .i64 k] 27)).cell? ⟨w.heap.size, 6, none⟩ = some (.int .i64 k) := (World.cell?_alloc_at _ _ _ _ rfl).trans rfl
        generalize w.alloc (.cells #[.int .i64 id, .string nm, .int .i64 rk, .bool false, .bool false, .bool false, .int .i64 k] 27) = W0 at *
        obtain ⟨bx, hbx⟩ : ∃ bx, bx = w.heap.size := ⟨_, rfl⟩
        rw [← hbx] at z0 z1 z2 z3 z4 z5 z6
        rw [← hbx]
        clear hbx
        have g0 := cell_after z0
        have g1 := cell_after z1
        have g2 := cell_after z2
        refine wp_region_after (by kernel_rfl) (by kernel_rfl) ?_
        repeat (go_big_quiet_step ((go_at_call 59; exact Calls.after (HI.out _ _ (by omega)))))
        refine wpQuiet_nil ?_
        intro nq
        rw [← HT0.out]
        have hbq := btr hb0 nq.bel
        have y3 := cell_bw z3 nq.bel
        have y4 := cell_bw z4 nq.bel
        have y5 := cell_bw z5 nq.bel
        have y6 := cell_bw z6 nq.bel
        generalize nq.val = w1 at *
        clear nq g0 g1 g2 z0 z1 z2 z3 z4 z5 z6 HT0
        have c7 := hneed w1 hbq
        go_wp2
        go_ret
        exact ⟨by rw [HT.out]; rfl, hbq⟩
      | true =>
        have HT : Hid (lineB ⟨id, nm, rk, false, false, true, k⟩ = ((((((((numB id ++ (⟨#[32]⟩ : ByteArray)) ++ nm) ++ (⟨#[32, 114, 97, 110, 107, 32]⟩ : ByteArray)) ++ numB rk)) ++ (⟨#[32, 97, 109, 101, 110, 100]⟩ : ByteArray)) ++ (⟨#[32, 98, 121, 32]⟩ : ByteArray)) ++ needW k)) := rfl
        generalize lineB ⟨id, nm, rk, false, false, true, k⟩ = LB at *
        generalize needW k = W at *
        generalize hD1e : numB id = D1 at *
        generalize hD2e : numB rk = D2 at *
        have hrD0 : ∀ w, (Op.stringOp .add D1 (⟨#[32]⟩ : ByteArray)).run Tryd.prog w = .ok (.string (D1 ++ (⟨#[32]⟩ : ByteArray))) w := add_run 2 1 hD1 (by decide) (by decide)
        have hzD0 := app_le hD1 (show (⟨#[32]⟩ : ByteArray).size ≤ 1 from (by decide))
        have hrD1 : ∀ w, (Op.stringOp .add (D1 ++ (⟨#[32]⟩ : ByteArray)) nm).run Tryd.prog w = .ok (.string ((D1 ++ (⟨#[32]⟩ : ByteArray)) ++ nm)) w := add_run 3 10 hzD0 hnm (by decide)
        have hzD1 := app_le hzD0 (show nm.size ≤ 10 from hnm)
        have hrD2 : ∀ w, (Op.stringOp .add ((D1 ++ (⟨#[32]⟩ : ByteArray)) ++ nm) (⟨#[32, 114, 97, 110, 107, 32]⟩ : ByteArray)).run Tryd.prog w = .ok (.string (((D1 ++ (⟨#[32]⟩ : ByteArray)) ++ nm) ++ (⟨#[32, 114, 97, 110, 107, 32]⟩ : ByteArray))) w := add_run 13 6 hzD1 (by decide) (by decide)
        have hzD2 := app_le hzD1 (show (⟨#[32, 114, 97, 110, 107, 32]⟩ : ByteArray).size ≤ 6 from (by decide))
        have hrD3 : ∀ w, (Op.stringOp .add (((D1 ++ (⟨#[32]⟩ : ByteArray)) ++ nm) ++ (⟨#[32, 114, 97, 110, 107, 32]⟩ : ByteArray)) D2).run Tryd.prog w = .ok (.string ((((D1 ++ (⟨#[32]⟩ : ByteArray)) ++ nm) ++ (⟨#[32, 114, 97, 110, 107, 32]⟩ : ByteArray)) ++ D2)) w := add_run 19 2 hzD2 hD2 (by decide)
        have hzD3 := app_le hzD2 (show D2.size ≤ 2 from hD2)
        have hT0 : ((((D1 ++ (⟨#[32]⟩ : ByteArray)) ++ nm) ++ (⟨#[32, 114, 97, 110, 107, 32]⟩ : ByteArray)) ++ D2).size ≤ 21 := hzD3
        clear hzD0 hzD1 hzD2 hzD3
        obtain ⟨T0, hT0e⟩ : ∃ T0 : ByteArray, T0 = ((((D1 ++ (⟨#[32]⟩ : ByteArray)) ++ nm) ++ (⟨#[32, 114, 97, 110, 107, 32]⟩ : ByteArray)) ++ D2) := ⟨_, rfl⟩
        rw [← hT0e] at HT hT0
        have HT0 := Lib.hid hT0e
        clear hT0e
        have hrT0 : ∀ w, (Op.stringOp .add T0 (⟨#[32, 97, 109, 101, 110, 100]⟩ : ByteArray)).run Tryd.prog w = .ok (.string (T0 ++ (⟨#[32, 97, 109, 101, 110, 100]⟩ : ByteArray))) w := add_run 21 6 hT0 (by decide) (by decide)
        have hzT0 := app_le hT0 (show (⟨#[32, 97, 109, 101, 110, 100]⟩ : ByteArray).size ≤ 6 from (by decide))
        have hrT1 : ∀ w, (Op.stringOp .add (T0 ++ (⟨#[32, 97, 109, 101, 110, 100]⟩ : ByteArray)) (⟨#[32, 98, 121, 32]⟩ : ByteArray)).run Tryd.prog w = .ok (.string ((T0 ++ (⟨#[32, 97, 109, 101, 110, 100]⟩ : ByteArray)) ++ (⟨#[32, 98, 121, 32]⟩ : ByteArray))) w := add_run 27 4 hzT0 (by decide) (by decide)
        have hzT1 := app_le hzT0 (show (⟨#[32, 98, 121, 32]⟩ : ByteArray).size ≤ 4 from (by decide))
        have hrT2 : ∀ w, (Op.stringOp .add ((T0 ++ (⟨#[32, 97, 109, 101, 110, 100]⟩ : ByteArray)) ++ (⟨#[32, 98, 121, 32]⟩ : ByteArray)) W).run Tryd.prog w = .ok (.string (((T0 ++ (⟨#[32, 97, 109, 101, 110, 100]⟩ : ByteArray)) ++ (⟨#[32, 98, 121, 32]⟩ : ByteArray)) ++ W)) w := add_run 31 10 hzT1 hW (by decide)
        have hzT2 := app_le hzT1 (show W.size ≤ 10 from hW)
        clear hzT0 hzT1 hzT2
        go_enter Tryd.func34, Tryd.ntmps34
        go_wp2_with fail
        have hb0 : Below w.heap.size w (w.alloc (.cells #[.int .i64 id, .string nm, .int .i64 rk, .bool false, .bool false, .bool true, .int .i64 k] 27)) := bnew (Below.refl _ _) _
        have z0 : (w.alloc (.cells #[.int .i64 id, .string nm, .int .i64 rk, .bool false, .bool false, .bool true, .int .i64 k] 27)).cell? ⟨w.heap.size, 0, none⟩ = some (.int .i64 id) := (World.cell?_alloc_at _ _ _ _ rfl).trans rfl
        have z1 : (w.alloc (.cells #[.int .i64 id, .string nm, .int .i64 rk, .bool false, .bool false, .bool true, .int .i64 k] 27)).cell? ⟨w.heap.size, 1, none⟩ = some (.string nm) := (World.cell?_alloc_at _ _ _ _ rfl).trans rfl
        have z2 : (w.alloc (.cells #[.int .i64 id, .string nm, .int .i64 rk, .bool false, .bool false, .bool true, .int .i64 k] 27)).cell? ⟨w.heap.size, 2, none⟩ = some (.int .i64 rk) := (World.cell?_alloc_at _ _ _ _ rfl).trans rfl
        have z3 : (w.alloc (.cells #[.int .i64 id, .string nm, .int .i64 rk, .bool false, .bool false, .bool true, .int .i64 k] 27)).cell? ⟨w.heap.size, 3, none⟩ = some (.bool false) := (World.cell?_alloc_at _ _ _ _ rfl).trans rfl
        have z4 : (w.alloc (.cells #[.int .i64 id, .string nm, .int .i64 rk, .bool false, .bool false, .bool true, .int .i64 k] 27)).cell? ⟨w.heap.size, 4, none⟩ = some (.bool false) := (World.cell?_alloc_at _ _ _ _ rfl).trans rfl
        have z5 : (w.alloc (.cells #[.int .i64 id, .string nm, .int .i64 rk, .bool false, .bool false, .bool true, .int .i64 k] 27)).cell? ⟨w.heap.size, 5, none⟩ = some (.bool true) := (World.cell?_alloc_at _ _ _ _ rfl).trans rfl
        have z6 : (w.alloc (.cells #[.int .i64 id, .string nm, .int .i64 rk, .bool false, .bool false, .bool true, .int .i64 k] 27)).cell? ⟨w.heap.size, 6, none⟩ = some (.int .i64 k) := (World.cell?_alloc_at _ _ _ _ rfl).trans rfl
        generalize w.alloc (.cells #[.int .i64 id, .string nm, .int .i64 rk, .bool false, .bool false, .bool true, .int .i64 k] 27) = W0 at *
        obtain ⟨bx, hbx⟩ : ∃ bx, bx = w.heap.size := ⟨_, rfl⟩
        rw [← hbx] at z0 z1 z2 z3 z4 z5 z6
        rw [← hbx]
        clear hbx
        have g0 := cell_after z0
        have g1 := cell_after z1
        have g2 := cell_after z2
        refine wp_region_after (by kernel_rfl) (by kernel_rfl) ?_
        repeat (go_big_quiet_step ((go_at_call 59; exact Calls.after (HI.out _ _ (by omega)))))
        refine wpQuiet_nil ?_
        intro nq
        rw [← HT0.out]
        have hbq := btr hb0 nq.bel
        have y3 := cell_bw z3 nq.bel
        have y4 := cell_bw z4 nq.bel
        have y5 := cell_bw z5 nq.bel
        have y6 := cell_bw z6 nq.bel
        generalize nq.val = w1 at *
        clear nq g0 g1 g2 z0 z1 z2 z3 z4 z5 z6 HT0
        have c7 := hneed w1 hbq
        go_wp2
        go_ret
        exact ⟨by rw [HT.out]; rfl, hbq⟩
    | true =>
      cases a with
      | false =>
        have HT : Hid (lineB ⟨id, nm, rk, false, true, false, k⟩ = ((((((((numB id ++ (⟨#[32]⟩ : ByteArray)) ++ nm) ++ (⟨#[32, 114, 97, 110, 107, 32]⟩ : ByteArray)) ++ numB rk)) ++ (⟨#[32, 100, 101, 98, 97, 116, 101]⟩ : ByteArray)) ++ (⟨#[32, 98, 121, 32]⟩ : ByteArray)) ++ needW k)) := rfl
        generalize lineB ⟨id, nm, rk, false, true, false, k⟩ = LB at *
        generalize needW k = W at *
        generalize hD1e : numB id = D1 at *
        generalize hD2e : numB rk = D2 at *
        have hrD0 : ∀ w, (Op.stringOp .add D1 (⟨#[32]⟩ : ByteArray)).run Tryd.prog w = .ok (.string (D1 ++ (⟨#[32]⟩ : ByteArray))) w := add_run 2 1 hD1 (by decide) (by decide)
        have hzD0 := app_le hD1 (show (⟨#[32]⟩ : ByteArray).size ≤ 1 from (by decide))
        have hrD1 : ∀ w, (Op.stringOp .add (D1 ++ (⟨#[32]⟩ : ByteArray)) nm).run Tryd.prog w = .ok (.string ((D1 ++ (⟨#[32]⟩ : ByteArray)) ++ nm)) w := add_run 3 10 hzD0 hnm (by decide)
        have hzD1 := app_le hzD0 (show nm.size ≤ 10 from hnm)
        have hrD2 : ∀ w, (Op.stringOp .add ((D1 ++ (⟨#[32]⟩ : ByteArray)) ++ nm) (⟨#[32, 114, 97, 110, 107, 32]⟩ : ByteArray)).run Tryd.prog w = .ok (.string (((D1 ++ (⟨#[32]⟩ : ByteArray)) ++ nm) ++ (⟨#[32, 114, 97, 110, 107, 32]⟩ : ByteArray))) w := add_run 13 6 hzD1 (by decide) (by decide)
        have hzD2 := app_le hzD1 (show (⟨#[32, 114, 97, 110, 107, 32]⟩ : ByteArray).size ≤ 6 from (by decide))
        have hrD3 : ∀ w, (Op.stringOp .add (((D1 ++ (⟨#[32]⟩ : ByteArray)) ++ nm) ++ (⟨#[32, 114, 97, 110, 107, 32]⟩ : ByteArray)) D2).run Tryd.prog w = .ok (.string ((((D1 ++ (⟨#[32]⟩ : ByteArray)) ++ nm) ++ (⟨#[32, 114, 97, 110, 107, 32]⟩ : ByteArray)) ++ D2)) w := add_run 19 2 hzD2 hD2 (by decide)
        have hzD3 := app_le hzD2 (show D2.size ≤ 2 from hD2)
        have hT0 : ((((D1 ++ (⟨#[32]⟩ : ByteArray)) ++ nm) ++ (⟨#[32, 114, 97, 110, 107, 32]⟩ : ByteArray)) ++ D2).size ≤ 21 := hzD3
        clear hzD0 hzD1 hzD2 hzD3
        obtain ⟨T0, hT0e⟩ : ∃ T0 : ByteArray, T0 = ((((D1 ++ (⟨#[32]⟩ : ByteArray)) ++ nm) ++ (⟨#[32, 114, 97, 110, 107, 32]⟩ : ByteArray)) ++ D2) := ⟨_, rfl⟩
        rw [← hT0e] at HT hT0
        have HT0 := Lib.hid hT0e
        clear hT0e
        have hrT0 : ∀ w, (Op.stringOp .add T0 (⟨#[32, 100, 101, 98, 97, 116, 101]⟩ : ByteArray)).run Tryd.prog w = .ok (.string (T0 ++ (⟨#[32, 100, 101, 98, 97, 116, 101]⟩ : ByteArray))) w := add_run 21 7 hT0 (by decide) (by decide)
        have hzT0 := app_le hT0 (show (⟨#[32, 100, 101, 98, 97, 116, 101]⟩ : ByteArray).size ≤ 7 from (by decide))
        have hrT1 : ∀ w, (Op.stringOp .add (T0 ++ (⟨#[32, 100, 101, 98, 97, 116, 101]⟩ : ByteArray)) (⟨#[32, 98, 121, 32]⟩ : ByteArray)).run Tryd.prog w = .ok (.string ((T0 ++ (⟨#[32, 100, 101, 98, 97, 116, 101]⟩ : ByteArray)) ++ (⟨#[32, 98, 121, 32]⟩ : ByteArray))) w := add_run 28 4 hzT0 (by decide) (by decide)
        have hzT1 := app_le hzT0 (show (⟨#[32, 98, 121, 32]⟩ : ByteArray).size ≤ 4 from (by decide))
        have hrT2 : ∀ w, (Op.stringOp .add ((T0 ++ (⟨#[32, 100, 101, 98, 97, 116, 101]⟩ : ByteArray)) ++ (⟨#[32, 98, 121, 32]⟩ : ByteArray)) W).run Tryd.prog w = .ok (.string (((T0 ++ (⟨#[32, 100, 101, 98, 97, 116, 101]⟩ : ByteArray)) ++ (⟨#[32, 98, 121, 32]⟩ : ByteArray)) ++ W)) w := add_run 32 10 hzT1 hW (by decide)
        have hzT2 := app_le hzT1 (show W.size ≤ 10 from hW)
        clear hzT0 hzT1 hzT2
        go_enter Tryd.func34, Tryd.ntmps34
        go_wp2_with fail
        have hb0 : Below w.heap.size w (w.alloc (.cells #[.int .i64 id, .string nm, .int .i64 rk, .bool false, .bool true, .bool false, .int .i64 k] 27)) := bnew (Below.refl _ _) _
        have z0 : (w.alloc (.cells #[.int .i64 id, .string nm, .int .i64 rk, .bool false, .bool true, .bool false, .int .i64 k] 27)).cell? ⟨w.heap.size, 0, none⟩ = some (.int .i64 id) := (World.cell?_alloc_at _ _ _ _ rfl).trans rfl
        have z1 : (w.alloc (.cells #[.int .i64 id, .string nm, .int .i64 rk, .bool false, .bool true, .bool false, .int .i64 k] 27)).cell? ⟨w.heap.size, 1, none⟩ = some (.string nm) := (World.cell?_alloc_at _ _ _ _ rfl).trans rfl
        have z2 : (w.alloc (.cells #[.int .i64 id, .string nm, .int .i64 rk, .bool false, .bool true, .bool false, .int .i64 k] 27)).cell? ⟨w.heap.size, 2, none⟩ = some (.int .i64 rk) := (World.cell?_alloc_at _ _ _ _ rfl).trans rfl
        have z3 : (w.alloc (.cells #[.int .i64 id, .string nm, .int .i64 rk, .bool false, .bool true, .bool false, .int .i64 k] 27)).cell? ⟨w.heap.size, 3, none⟩ = some (.bool false) := (World.cell?_alloc_at _ _ _ _ rfl).trans rfl
        have z4 : (w.alloc (.cells #[.int .i64 id, .string nm, .int .i64 rk, .bool false, .bool true, .bool false, .int .i64 k] 27)).cell? ⟨w.heap.size, 4, none⟩ = some (.bool true) := (World.cell?_alloc_at _ _ _ _ rfl).trans rfl
        have z5 : (w.alloc (.cells #[.int .i64 id, .string nm, .int .i64 rk, .bool false, .bool true, .bool false, .int .i64 k] 27)).cell? ⟨w.heap.size, 5, none⟩ = some (.bool false) := (World.cell?_alloc_at _ _ _ _ rfl).trans rfl
        have z6 : (w.alloc (.cells #[.int .i64 id, .string nm, .int .i64 rk, .bool false, .bool true, .bool false, .int .i64 k] 27)).cell? ⟨w.heap.size, 6, none⟩ = some (.int .i64 k) := (World.cell?_alloc_at _ _ _ _ rfl).trans rfl
        generalize w.alloc (.cells #[.int .i64 id, .string nm, .int .i64 rk, .bool false, .bool true, .bool false, .int .i64 k] 27) = W0 at *
        obtain ⟨bx, hbx⟩ : ∃ bx, bx = w.heap.size := ⟨_, rfl⟩
        rw [← hbx] at z0 z1 z2 z3 z4 z5 z6
        rw [← hbx]
        clear hbx
        have g0 := cell_after z0
        have g1 := cell_after z1
        have g2 := cell_after z2
        refine wp_region_after (by kernel_rfl) (by kernel_rfl) ?_
        repeat (go_big_quiet_step ((go_at_call 59; exact Calls.after (HI.out _ _ (by omega)))))
        refine wpQuiet_nil ?_
        intro nq
        rw [← HT0.out]
        have hbq := btr hb0 nq.bel
        have y3 := cell_bw z3 nq.bel
        have y4 := cell_bw z4 nq.bel
        have y5 := cell_bw z5 nq.bel
        have y6 := cell_bw z6 nq.bel
        generalize nq.val = w1 at *
        clear nq g0 g1 g2 z0 z1 z2 z3 z4 z5 z6 HT0
        have c7 := hneed w1 hbq
        go_wp2
        go_ret
        exact ⟨by rw [HT.out]; rfl, hbq⟩
      | true =>
        have HT : Hid (lineB ⟨id, nm, rk, false, true, true, k⟩ = (((((((((numB id ++ (⟨#[32]⟩ : ByteArray)) ++ nm) ++ (⟨#[32, 114, 97, 110, 107, 32]⟩ : ByteArray)) ++ numB rk)) ++ (⟨#[32, 100, 101, 98, 97, 116, 101]⟩ : ByteArray)) ++ (⟨#[32, 97, 109, 101, 110, 100]⟩ : ByteArray)) ++ (⟨#[32, 98, 121, 32]⟩ : ByteArray)) ++ needW k)) := rfl
        generalize lineB ⟨id, nm, rk, false, true, true, k⟩ = LB at *
        generalize needW k = W at *
        generalize hD1e : numB id = D1 at *
        generalize hD2e : numB rk = D2 at *
        have hrD0 : ∀ w, (Op.stringOp .add D1 (⟨#[32]⟩ : ByteArray)).run Tryd.prog w = .ok (.string (D1 ++ (⟨#[32]⟩ : ByteArray))) w := add_run 2 1 hD1 (by decide) (by decide)
        have hzD0 := app_le hD1 (show (⟨#[32]⟩ : ByteArray).size ≤ 1 from (by decide))
        have hrD1 : ∀ w, (Op.stringOp .add (D1 ++ (⟨#[32]⟩ : ByteArray)) nm).run Tryd.prog w = .ok (.string ((D1 ++ (⟨#[32]⟩ : ByteArray)) ++ nm)) w := add_run 3 10 hzD0 hnm (by decide)
        have hzD1 := app_le hzD0 (show nm.size ≤ 10 from hnm)
        have hrD2 : ∀ w, (Op.stringOp .add ((D1 ++ (⟨#[32]⟩ : ByteArray)) ++ nm) (⟨#[32, 114, 97, 110, 107, 32]⟩ : ByteArray)).run Tryd.prog w = .ok (.string (((D1 ++ (⟨#[32]⟩ : ByteArray)) ++ nm) ++ (⟨#[32, 114, 97, 110, 107, 32]⟩ : ByteArray))) w := add_run 13 6 hzD1 (by decide) (by decide)
        have hzD2 := app_le hzD1 (show (⟨#[32, 114, 97, 110, 107, 32]⟩ : ByteArray).size ≤ 6 from (by decide))
        have hrD3 : ∀ w, (Op.stringOp .add (((D1 ++ (⟨#[32]⟩ : ByteArray)) ++ nm) ++ (⟨#[32, 114, 97, 110, 107, 32]⟩ : ByteArray)) D2).run Tryd.prog w = .ok (.string ((((D1 ++ (⟨#[32]⟩ : ByteArray)) ++ nm) ++ (⟨#[32, 114, 97, 110, 107, 32]⟩ : ByteArray)) ++ D2)) w := add_run 19 2 hzD2 hD2 (by decide)
        have hzD3 := app_le hzD2 (show D2.size ≤ 2 from hD2)
        have hT0 : ((((D1 ++ (⟨#[32]⟩ : ByteArray)) ++ nm) ++ (⟨#[32, 114, 97, 110, 107, 32]⟩ : ByteArray)) ++ D2).size ≤ 21 := hzD3
        clear hzD0 hzD1 hzD2 hzD3
        obtain ⟨T0, hT0e⟩ : ∃ T0 : ByteArray, T0 = ((((D1 ++ (⟨#[32]⟩ : ByteArray)) ++ nm) ++ (⟨#[32, 114, 97, 110, 107, 32]⟩ : ByteArray)) ++ D2) := ⟨_, rfl⟩
        rw [← hT0e] at HT hT0
        have HT0 := Lib.hid hT0e
        clear hT0e
        have hrT0 : ∀ w, (Op.stringOp .add T0 (⟨#[32, 100, 101, 98, 97, 116, 101]⟩ : ByteArray)).run Tryd.prog w = .ok (.string (T0 ++ (⟨#[32, 100, 101, 98, 97, 116, 101]⟩ : ByteArray))) w := add_run 21 7 hT0 (by decide) (by decide)
        have hzT0 := app_le hT0 (show (⟨#[32, 100, 101, 98, 97, 116, 101]⟩ : ByteArray).size ≤ 7 from (by decide))
        have hrT1 : ∀ w, (Op.stringOp .add (T0 ++ (⟨#[32, 100, 101, 98, 97, 116, 101]⟩ : ByteArray)) (⟨#[32, 97, 109, 101, 110, 100]⟩ : ByteArray)).run Tryd.prog w = .ok (.string ((T0 ++ (⟨#[32, 100, 101, 98, 97, 116, 101]⟩ : ByteArray)) ++ (⟨#[32, 97, 109, 101, 110, 100]⟩ : ByteArray))) w := add_run 28 6 hzT0 (by decide) (by decide)
        have hzT1 := app_le hzT0 (show (⟨#[32, 97, 109, 101, 110, 100]⟩ : ByteArray).size ≤ 6 from (by decide))
        have hrT2 : ∀ w, (Op.stringOp .add ((T0 ++ (⟨#[32, 100, 101, 98, 97, 116, 101]⟩ : ByteArray)) ++ (⟨#[32, 97, 109, 101, 110, 100]⟩ : ByteArray)) (⟨#[32, 98, 121, 32]⟩ : ByteArray)).run Tryd.prog w = .ok (.string (((T0 ++ (⟨#[32, 100, 101, 98, 97, 116, 101]⟩ : ByteArray)) ++ (⟨#[32, 97, 109, 101, 110, 100]⟩ : ByteArray)) ++ (⟨#[32, 98, 121, 32]⟩ : ByteArray))) w := add_run 34 4 hzT1 (by decide) (by decide)
        have hzT2 := app_le hzT1 (show (⟨#[32, 98, 121, 32]⟩ : ByteArray).size ≤ 4 from (by decide))
        have hrT3 : ∀ w, (Op.stringOp .add (((T0 ++ (⟨#[32, 100, 101, 98, 97, 116, 101]⟩ : ByteArray)) ++ (⟨#[32, 97, 109, 101, 110, 100]⟩ : ByteArray)) ++ (⟨#[32, 98, 121, 32]⟩ : ByteArray)) W).run Tryd.prog w = .ok (.string ((((T0 ++ (⟨#[32, 100, 101, 98, 97, 116, 101]⟩ : ByteArray)) ++ (⟨#[32, 97, 109, 101, 110, 100]⟩ : ByteArray)) ++ (⟨#[32, 98, 121, 32]⟩ : ByteArray)) ++ W)) w := add_run 38 10 hzT2 hW (by decide)
        have hzT3 := app_le hzT2 (show W.size ≤ 10 from hW)
        clear hzT0 hzT1 hzT2 hzT3
        go_enter Tryd.func34, Tryd.ntmps34
        go_wp2_with fail
        have hb0 : Below w.heap.size w (w.alloc (.cells #[.int .i64 id, .string nm, .int .i64 rk, .bool false, .bool true, .bool true, .int .i64 k] 27)) := bnew (Below.refl _ _) _
        have z0 : (w.alloc (.cells #[.int .i64 id, .string nm, .int .i64 rk, .bool false, .bool true, .bool true, .int .i64 k] 27)).cell? ⟨w.heap.size, 0, none⟩ = some (.int .i64 id) := (World.cell?_alloc_at _ _ _ _ rfl).trans rfl
        have z1 : (w.alloc (.cells #[.int .i64 id, .string nm, .int .i64 rk, .bool false, .bool true, .bool true, .int .i64 k] 27)).cell? ⟨w.heap.size, 1, none⟩ = some (.string nm) := (World.cell?_alloc_at _ _ _ _ rfl).trans rfl
        have z2 : (w.alloc (.cells #[.int .i64 id, .string nm, .int .i64 rk, .bool false, .bool true, .bool true, .int .i64 k] 27)).cell? ⟨w.heap.size, 2, none⟩ = some (.int .i64 rk) := (World.cell?_alloc_at _ _ _ _ rfl).trans rfl
        have z3 : (w.alloc (.cells #[.int .i64 id, .string nm, .int .i64 rk, .bool false, .bool true, .bool true, .int .i64 k] 27)).cell? ⟨w.heap.size, 3, none⟩ = some (.bool false) := (World.cell?_alloc_at _ _ _ _ rfl).trans rfl
        have z4 : (w.alloc (.cells #[.int .i64 id, .string nm, .int .i64 rk, .bool false, .bool true, .bool true, .int .i64 k] 27)).cell? ⟨w.heap.size, 4, none⟩ = some (.bool true) := (World.cell?_alloc_at _ _ _ _ rfl).trans rfl
        have z5 : (w.alloc (.cells #[.int .i64 id, .string nm, .int .i64 rk, .bool false, .bool true, .bool true, .int .i64 k] 27)).cell? ⟨w.heap.size, 5, none⟩ = some (.bool true) := (World.cell?_alloc_at _ _ _ _ rfl).trans rfl
        have z6 : (w.alloc (.cells #[.int .i64 id, .string nm, .int .i64 rk, .bool false, .bool true, .bool true, .int .i64 k] 27)).cell? ⟨w.heap.size, 6, none⟩ = some (.int .i64 k) := (World.cell?_alloc_at _ _ _ _ rfl).trans rfl
        generalize w.alloc (.cells #[.int .i64 id, .string nm, .int .i64 rk, .bool false, .bool true, .bool true, .int .i64 k] 27) = W0 at *
        obtain ⟨bx, hbx⟩ : ∃ bx, bx = w.heap.size := ⟨_, rfl⟩
        rw [← hbx] at z0 z1 z2 z3 z4 z5 z6
        rw [← hbx]
        clear hbx
        have g0 := cell_after z0
        have g1 := cell_after z1
        have g2 := cell_after z2
        refine wp_region_after (by kernel_rfl) (by kernel_rfl) ?_
        repeat (go_big_quiet_step ((go_at_call 59; exact Calls.after (HI.out _ _ (by omega)))))
        refine wpQuiet_nil ?_
        intro nq
        rw [← HT0.out]
        have hbq := btr hb0 nq.bel
        have y3 := cell_bw z3 nq.bel
        have y4 := cell_bw z4 nq.bel
        have y5 := cell_bw z5 nq.bel
        have y6 := cell_bw z6 nq.bel
        generalize nq.val = w1 at *
        clear nq g0 g1 g2 z0 z1 z2 z3 z4 z5 z6 HT0
        have c7 := hneed w1 hbq
        go_wp2
        go_ret
        exact ⟨by rw [HT.out]; rfl, hbq⟩
  | true =>
    cases d with
    | false =>
      cases a with
      | false =>
        have HT : Hid (lineB ⟨id, nm, rk, true, false, false, k⟩ = ((((((((numB id ++ (⟨#[32]⟩ : ByteArray)) ++ nm) ++ (⟨#[32, 114, 97, 110, 107, 32]⟩ : ByteArray)) ++ numB rk)) ++ (⟨#[32, 115, 101, 99, 111, 110, 100]⟩ : ByteArray)) ++ (⟨#[32, 98, 121, 32]⟩ : ByteArray)) ++ needW k)) := rfl
        generalize lineB ⟨id, nm, rk, true, false, false, k⟩ = LB at *
        generalize needW k = W at *
        generalize hD1e : numB id = D1 at *
        generalize hD2e : numB rk = D2 at *
        have hrD0 : ∀ w, (Op.stringOp .add D1 (⟨#[32]⟩ : ByteArray)).run Tryd.prog w = .ok (.string (D1 ++ (⟨#[32]⟩ : ByteArray))) w := add_run 2 1 hD1 (by decide) (by decide)
        have hzD0 := app_le hD1 (show (⟨#[32]⟩ : ByteArray).size ≤ 1 from (by decide))
        have hrD1 : ∀ w, (Op.stringOp .add (D1 ++ (⟨#[32]⟩ : ByteArray)) nm).run Tryd.prog w = .ok (.string ((D1 ++ (⟨#[32]⟩ : ByteArray)) ++ nm)) w := add_run 3 10 hzD0 hnm (by decide)
        have hzD1 := app_le hzD0 (show nm.size ≤ 10 from hnm)
        have hrD2 : ∀ w, (Op.stringOp .add ((D1 ++ (⟨#[32]⟩ : ByteArray)) ++ nm) (⟨#[32, 114, 97, 110, 107, 32]⟩ : ByteArray)).run Tryd.prog w = .ok (.string (((D1 ++ (⟨#[32]⟩ : ByteArray)) ++ nm) ++ (⟨#[32, 114, 97, 110, 107, 32]⟩ : ByteArray))) w := add_run 13 6 hzD1 (by decide) (by decide)
        have hzD2 := app_le hzD1 (show (⟨#[32, 114, 97, 110, 107, 32]⟩ : ByteArray).size ≤ 6 from (by decide))
        have hrD3 : ∀ w, (Op.stringOp .add (((D1 ++ (⟨#[32]⟩ : ByteArray)) ++ nm) ++ (⟨#[32, 114, 97, 110, 107, 32]⟩ : ByteArray)) D2).run Tryd.prog w = .ok (.string ((((D1 ++ (⟨#[32]⟩ : ByteArray)) ++ nm) ++ (⟨#[32, 114, 97, 110, 107, 32]⟩ : ByteArray)) ++ D2)) w := add_run 19 2 hzD2 hD2 (by decide)
        have hzD3 := app_le hzD2 (show D2.size ≤ 2 from hD2)
        have hT0 : ((((D1 ++ (⟨#[32]⟩ : ByteArray)) ++ nm) ++ (⟨#[32, 114, 97, 110, 107, 32]⟩ : ByteArray)) ++ D2).size ≤ 21 := hzD3
        clear hzD0 hzD1 hzD2 hzD3
        obtain ⟨T0, hT0e⟩ : ∃ T0 : ByteArray, T0 = ((((D1 ++ (⟨#[32]⟩ : ByteArray)) ++ nm) ++ (⟨#[32, 114, 97, 110, 107, 32]⟩ : ByteArray)) ++ D2) := ⟨_, rfl⟩
        rw [← hT0e] at HT hT0
        have HT0 := Lib.hid hT0e
        clear hT0e
        have hrT0 : ∀ w, (Op.stringOp .add T0 (⟨#[32, 115, 101, 99, 111, 110, 100]⟩ : ByteArray)).run Tryd.prog w = .ok (.string (T0 ++ (⟨#[32, 115, 101, 99, 111, 110, 100]⟩ : ByteArray))) w := add_run 21 7 hT0 (by decide) (by decide)
        have hzT0 := app_le hT0 (show (⟨#[32, 115, 101, 99, 111, 110, 100]⟩ : ByteArray).size ≤ 7 from (by decide))
        have hrT1 : ∀ w, (Op.stringOp .add (T0 ++ (⟨#[32, 115, 101, 99, 111, 110, 100]⟩ : ByteArray)) (⟨#[32, 98, 121, 32]⟩ : ByteArray)).run Tryd.prog w = .ok (.string ((T0 ++ (⟨#[32, 115, 101, 99, 111, 110, 100]⟩ : ByteArray)) ++ (⟨#[32, 98, 121, 32]⟩ : ByteArray))) w := add_run 28 4 hzT0 (by decide) (by decide)
        have hzT1 := app_le hzT0 (show (⟨#[32, 98, 121, 32]⟩ : ByteArray).size ≤ 4 from (by decide))
        have hrT2 : ∀ w, (Op.stringOp .add ((T0 ++ (⟨#[32, 115, 101, 99, 111, 110, 100]⟩ : ByteArray)) ++ (⟨#[32, 98, 121, 32]⟩ : ByteArray)) W).run Tryd.prog w = .ok (.string (((T0 ++ (⟨#[32, 115, 101, 99, 111, 110, 100]⟩ : ByteArray)) ++ (⟨#[32, 98, 121, 32]⟩ : ByteArray)) ++ W)) w := add_run 32 10 hzT1 hW (by decide)
        have hzT2 := app_le hzT1 (show W.size ≤ 10 from hW)
        clear hzT0 hzT1 hzT2
        go_enter Tryd.func34, Tryd.ntmps34
        go_wp2_with fail
        have hb0 : Below w.heap.size w (w.alloc (.cells #[.int .i64 id, .string nm, .int .i64 rk, .bool true, .bool false, .bool false, .int .i64 k] 27)) := bnew (Below.refl _ _) _
        have z0 : (w.alloc (.cells #[.int .i64 id, .string nm, .int .i64 rk, .bool true, .bool false, .bool false, .int .i64 k] 27)).cell? ⟨w.heap.size, 0, none⟩ = some (.int .i64 id) := (World.cell?_alloc_at _ _ _ _ rfl).trans rfl
        have z1 : (w.alloc (.cells #[.int .i64 id, .string nm, .int .i64 rk, .bool true, .bool false, .bool false, .int .i64 k] 27)).cell? ⟨w.heap.size, 1, none⟩ = some (.string nm) := (World.cell?_alloc_at _ _ _ _ rfl).trans rfl
        have z2 : (w.alloc (.cells #[.int .i64 id, .string nm, .int .i64 rk, .bool true, .bool false, .bool false, .int .i64 k] 27)).cell? ⟨w.heap.size, 2, none⟩ = some (.int .i64 rk) := (World.cell?_alloc_at _ _ _ _ rfl).trans rfl
        have z3 : (w.alloc (.cells #[.int .i64 id, .string nm, .int .i64 rk, .bool true, .bool false, .bool false, .int .i64 k] 27)).cell? ⟨w.heap.size, 3, none⟩ = some (.bool true) := (World.cell?_alloc_at _ _ _ _ rfl).trans rfl
        have z4 : (w.alloc (.cells #[.int .i64 id, .string nm, .int .i64 rk, .bool true, .bool false, .bool false, .int .i64 k] 27)).cell? ⟨w.heap.size, 4, none⟩ = some (.bool false) := (World.cell?_alloc_at _ _ _ _ rfl).trans rfl
        have z5 : (w.alloc (.cells #[.int .i64 id, .string nm, .int .i64 rk, .bool true, .bool false, .bool false, .int .i64 k] 27)).cell? ⟨w.heap.size, 5, none⟩ = some (.bool false) := (World.cell?_alloc_at _ _ _ _ rfl).trans rfl
        have z6 : (w.alloc (.cells #[.int .i64 id, .string nm, .int .i64 rk, .bool true, .bool false, .bool false, .int .i64 k] 27)).cell? ⟨w.heap.size, 6, none⟩ = some (.int .i64 k) := (World.cell?_alloc_at _ _ _ _ rfl).trans rfl
        generalize w.alloc (.cells #[.int .i64 id, .string nm, .int .i64 rk, .bool true, .bool false, .bool false, .int .i64 k] 27) = W0 at *
        obtain ⟨bx, hbx⟩ : ∃ bx, bx = w.heap.size := ⟨_, rfl⟩
        rw [← hbx] at z0 z1 z2 z3 z4 z5 z6
        rw [← hbx]
        clear hbx
        have g0 := cell_after z0
        have g1 := cell_after z1
        have g2 := cell_after z2
        refine wp_region_after (by kernel_rfl) (by kernel_rfl) ?_
        repeat (go_big_quiet_step ((go_at_call 59; exact Calls.after (HI.out _ _ (by omega)))))
        refine wpQuiet_nil ?_
        intro nq
        rw [← HT0.out]
        have hbq := btr hb0 nq.bel
        have y3 := cell_bw z3 nq.bel
        have y4 := cell_bw z4 nq.bel
        have y5 := cell_bw z5 nq.bel
        have y6 := cell_bw z6 nq.bel
        generalize nq.val = w1 at *
        clear nq g0 g1 g2 z0 z1 z2 z3 z4 z5 z6 HT0
        have c7 := hneed w1 hbq
        go_wp2
        go_ret
        exact ⟨by rw [HT.out]; rfl, hbq⟩
      | true =>
        have HT : Hid (lineB ⟨id, nm, rk, true, false, true, k⟩ = (((((((((numB id ++ (⟨#[32]⟩ : ByteArray)) ++ nm) ++ (⟨#[32, 114, 97, 110, 107, 32]⟩ : ByteArray)) ++ numB rk)) ++ (⟨#[32, 115, 101, 99, 111, 110, 100]⟩ : ByteArray)) ++ (⟨#[32, 97, 109, 101, 110, 100]⟩ : ByteArray)) ++ (⟨#[32, 98, 121, 32]⟩ : ByteArray)) ++ needW k)) := rfl
        generalize lineB ⟨id, nm, rk, true, false, true, k⟩ = LB at *
        generalize needW k = W at *
        generalize hD1e : numB id = D1 at *
        generalize hD2e : numB rk = D2 at *
        have hrD0 : ∀ w, (Op.stringOp .add D1 (⟨#[32]⟩ : ByteArray)).run Tryd.prog w = .ok (.string (D1 ++ (⟨#[32]⟩ : ByteArray))) w := add_run 2 1 hD1 (by decide) (by decide)
        have hzD0 := app_le hD1 (show (⟨#[32]⟩ : ByteArray).size ≤ 1 from (by decide))
        have hrD1 : ∀ w, (Op.stringOp .add (D1 ++ (⟨#[32]⟩ : ByteArray)) nm).run Tryd.prog w = .ok (.string ((D1 ++ (⟨#[32]⟩ : ByteArray)) ++ nm)) w := add_run 3 10 hzD0 hnm (by decide)
        have hzD1 := app_le hzD0 (show nm.size ≤ 10 from hnm)
        have hrD2 : ∀ w, (Op.stringOp .add ((D1 ++ (⟨#[32]⟩ : ByteArray)) ++ nm) (⟨#[32, 114, 97, 110, 107, 32]⟩ : ByteArray)).run Tryd.prog w = .ok (.string (((D1 ++ (⟨#[32]⟩ : ByteArray)) ++ nm) ++ (⟨#[32, 114, 97, 110, 107, 32]⟩ : ByteArray))) w := add_run 13 6 hzD1 (by decide) (by decide)
        have hzD2 := app_le hzD1 (show (⟨#[32, 114, 97, 110, 107, 32]⟩ : ByteArray).size ≤ 6 from (by decide))
        have hrD3 : ∀ w, (Op.stringOp .add (((D1 ++ (⟨#[32]⟩ : ByteArray)) ++ nm) ++ (⟨#[32, 114, 97, 110, 107, 32]⟩ : ByteArray)) D2).run Tryd.prog w = .ok (.string ((((D1 ++ (⟨#[32]⟩ : ByteArray)) ++ nm) ++ (⟨#[32, 114, 97, 110, 107, 32]⟩ : ByteArray)) ++ D2)) w := add_run 19 2 hzD2 hD2 (by decide)
        have hzD3 := app_le hzD2 (show D2.size ≤ 2 from hD2)
        have hT0 : ((((D1 ++ (⟨#[32]⟩ : ByteArray)) ++ nm) ++ (⟨#[32, 114, 97, 110, 107, 32]⟩ : ByteArray)) ++ D2).size ≤ 21 := hzD3
        clear hzD0 hzD1 hzD2 hzD3
        obtain ⟨T0, hT0e⟩ : ∃ T0 : ByteArray, T0 = ((((D1 ++ (⟨#[32]⟩ : ByteArray)) ++ nm) ++ (⟨#[32, 114, 97, 110, 107, 32]⟩ : ByteArray)) ++ D2) := ⟨_, rfl⟩
        rw [← hT0e] at HT hT0
        have HT0 := Lib.hid hT0e
        clear hT0e
        have hrT0 : ∀ w, (Op.stringOp .add T0 (⟨#[32, 115, 101, 99, 111, 110, 100]⟩ : ByteArray)).run Tryd.prog w = .ok (.string (T0 ++ (⟨#[32, 115, 101, 99, 111, 110, 100]⟩ : ByteArray))) w := add_run 21 7 hT0 (by decide) (by decide)
        have hzT0 := app_le hT0 (show (⟨#[32, 115, 101, 99, 111, 110, 100]⟩ : ByteArray).size ≤ 7 from (by decide))
        have hrT1 : ∀ w, (Op.stringOp .add (T0 ++ (⟨#[32, 115, 101, 99, 111, 110, 100]⟩ : ByteArray)) (⟨#[32, 97, 109, 101, 110, 100]⟩ : ByteArray)).run Tryd.prog w = .ok (.string ((T0 ++ (⟨#[32, 115, 101, 99, 111, 110, 100]⟩ : ByteArray)) ++ (⟨#[32, 97, 109, 101, 110, 100]⟩ : ByteArray))) w := add_run 28 6 hzT0 (by decide) (by decide)
        have hzT1 := app_le hzT0 (show (⟨#[32, 97, 109, 101, 110, 100]⟩ : ByteArray).size ≤ 6 from (by decide))
        have hrT2 : ∀ w, (Op.stringOp .add ((T0 ++ (⟨#[32, 115, 101, 99, 111, 110, 100]⟩ : ByteArray)) ++ (⟨#[32, 97, 109, 101, 110, 100]⟩ : ByteArray)) (⟨#[32, 98, 121, 32]⟩ : ByteArray)).run Tryd.prog w = .ok (.string (((T0 ++ (⟨#[32, 115, 101, 99, 111, 110, 100]⟩ : ByteArray)) ++ (⟨#[32, 97, 109, 101, 110, 100]⟩ : ByteArray)) ++ (⟨#[32, 98, 121, 32]⟩ : ByteArray))) w := add_run 34 4 hzT1 (by decide) (by decide)
        have hzT2 := app_le hzT1 (show (⟨#[32, 98, 121, 32]⟩ : ByteArray).size ≤ 4 from (by decide))
        have hrT3 : ∀ w, (Op.stringOp .add (((T0 ++ (⟨#[32, 115, 101, 99, 111, 110, 100]⟩ : ByteArray)) ++ (⟨#[32, 97, 109, 101, 110, 100]⟩ : ByteArray)) ++ (⟨#[32, 98, 121, 32]⟩ : ByteArray)) W).run Tryd.prog w = .ok (.string ((((T0 ++ (⟨#[32, 115, 101, 99, 111, 110, 100]⟩ : ByteArray)) ++ (⟨#[32, 97, 109, 101, 110, 100]⟩ : ByteArray)) ++ (⟨#[32, 98, 121, 32]⟩ : ByteArray)) ++ W)) w := add_run 38 10 hzT2 hW (by decide)
        have hzT3 := app_le hzT2 (show W.size ≤ 10 from hW)
        clear hzT0 hzT1 hzT2 hzT3
        go_enter Tryd.func34, Tryd.ntmps34
        go_wp2_with fail
        have hb0 : Below w.heap.size w (w.alloc (.cells #[.int .i64 id, .string nm, .int .i64 rk, .bool true, .bool false, .bool true, .int .i64 k] 27)) := bnew (Below.refl _ _) _
        have z0 : (w.alloc (.cells #[.int .i64 id, .string nm, .int .i64 rk, .bool true, .bool false, .bool true, .int .i64 k] 27)).cell? ⟨w.heap.size, 0, none⟩ = some (.int .i64 id) := (World.cell?_alloc_at _ _ _ _ rfl).trans rfl
        have z1 : (w.alloc (.cells #[.int .i64 id, .string nm, .int .i64 rk, .bool true, .bool false, .bool true, .int .i64 k] 27)).cell? ⟨w.heap.size, 1, none⟩ = some (.string nm) := (World.cell?_alloc_at _ _ _ _ rfl).trans rfl
        have z2 : (w.alloc (.cells #[.int .i64 id, .string nm, .int .i64 rk, .bool true, .bool false, .bool true, .int .i64 k] 27)).cell? ⟨w.heap.size, 2, none⟩ = some (.int .i64 rk) := (World.cell?_alloc_at _ _ _ _ rfl).trans rfl
        have z3 : (w.alloc (.cells #[.int .i64 id, .string nm, .int .i64 rk, .bool true, .bool false, .bool true, .int .i64 k] 27)).cell? ⟨w.heap.size, 3, none⟩ = some (.bool true) := (World.cell?_alloc_at _ _ _ _ rfl).trans rfl
        have z4 : (w.alloc (.cells #[.int .i64 id, .string nm, .int .i64 rk, .bool true, .bool false, .bool true, .int .i64 k] 27)).cell? ⟨w.heap.size, 4, none⟩ = some (.bool false) := (World.cell?_alloc_at _ _ _ _ rfl).trans rfl
        have z5 : (w.alloc (.cells #[.int .i64 id, .string nm, .int .i64 rk, .bool true, .bool false, .bool true, .int .i64 k] 27)).cell? ⟨w.heap.size, 5, none⟩ = some (.bool true) := (World.cell?_alloc_at _ _ _ _ rfl).trans rfl
        have z6 : (w.alloc (.cells #[.int .i64 id, .string nm, .int .i64 rk, .bool true, .bool false, .bool true, .int .i64 k] 27)).cell? ⟨w.heap.size, 6, none⟩ = some (.int .i64 k) := (World.cell?_alloc_at _ _ _ _ rfl).trans rfl
        generalize w.alloc (.cells #[.int .i64 id, .string nm, .int .i64 rk, .bool true, .bool false, .bool true, .int .i64 k] 27) = W0 at *
        obtain ⟨bx, hbx⟩ : ∃ bx, bx = w.heap.size := ⟨_, rfl⟩
        rw [← hbx] at z0 z1 z2 z3 z4 z5 z6
        rw [← hbx]
        clear hbx
        have g0 := cell_after z0
        have g1 := cell_after z1
        have g2 := cell_after z2
        refine wp_region_after (by kernel_rfl) (by kernel_rfl) ?_
        repeat (go_big_quiet_step ((go_at_call 59; exact Calls.after (HI.out _ _ (by omega)))))
        refine wpQuiet_nil ?_
        intro nq
        rw [← HT0.out]
        have hbq := btr hb0 nq.bel
        have y3 := cell_bw z3 nq.bel
        have y4 := cell_bw z4 nq.bel
        have y5 := cell_bw z5 nq.bel
        have y6 := cell_bw z6 nq.bel
        generalize nq.val = w1 at *
        clear nq g0 g1 g2 z0 z1 z2 z3 z4 z5 z6 HT0
        have c7 := hneed w1 hbq
        go_wp2
        go_ret
        exact ⟨by rw [HT.out]; rfl, hbq⟩
    | true =>
      cases a with
      | false =>
        have HT : Hid (lineB ⟨id, nm, rk, true, true, false, k⟩ = (((((((((numB id ++ (⟨#[32]⟩ : ByteArray)) ++ nm) ++ (⟨#[32, 114, 97, 110, 107, 32]⟩ : ByteArray)) ++ numB rk)) ++ (⟨#[32, 115, 101, 99, 111, 110, 100]⟩ : ByteArray)) ++ (⟨#[32, 100, 101, 98, 97, 116, 101]⟩ : ByteArray)) ++ (⟨#[32, 98, 121, 32]⟩ : ByteArray)) ++ needW k)) := rfl
        generalize lineB ⟨id, nm, rk, true, true, false, k⟩ = LB at *
        generalize needW k = W at *
        generalize hD1e : numB id = D1 at *
        generalize hD2e : numB rk = D2 at *
        have hrD0 : ∀ w, (Op.stringOp .add D1 (⟨#[32]⟩ : ByteArray)).run Tryd.prog w = .ok (.string (D1 ++ (⟨#[32]⟩ : ByteArray))) w := add_run 2 1 hD1 (by decide) (by decide)
        have hzD0 := app_le hD1 (show (⟨#[32]⟩ : ByteArray).size ≤ 1 from (by decide))
        have hrD1 : ∀ w, (Op.stringOp .add (D1 ++ (⟨#[32]⟩ : ByteArray)) nm).run Tryd.prog w = .ok (.string ((D1 ++ (⟨#[32]⟩ : ByteArray)) ++ nm)) w := add_run 3 10 hzD0 hnm (by decide)
        have hzD1 := app_le hzD0 (show nm.size ≤ 10 from hnm)
        have hrD2 : ∀ w, (Op.stringOp .add ((D1 ++ (⟨#[32]⟩ : ByteArray)) ++ nm) (⟨#[32, 114, 97, 110, 107, 32]⟩ : ByteArray)).run Tryd.prog w = .ok (.string (((D1 ++ (⟨#[32]⟩ : ByteArray)) ++ nm) ++ (⟨#[32, 114, 97, 110, 107, 32]⟩ : ByteArray))) w := add_run 13 6 hzD1 (by decide) (by decide)
        have hzD2 := app_le hzD1 (show (⟨#[32, 114, 97, 110, 107, 32]⟩ : ByteArray).size ≤ 6 from (by decide))
        have hrD3 : ∀ w, (Op.stringOp .add (((D1 ++ (⟨#[32]⟩ : ByteArray)) ++ nm) ++ (⟨#[32, 114, 97, 110, 107, 32]⟩ : ByteArray)) D2).run Tryd.prog w = .ok (.string ((((D1 ++ (⟨#[32]⟩ : ByteArray)) ++ nm) ++ (⟨#[32, 114, 97, 110, 107, 32]⟩ : ByteArray)) ++ D2)) w := add_run 19 2 hzD2 hD2 (by decide)
        have hzD3 := app_le hzD2 (show D2.size ≤ 2 from hD2)
        have hT0 : ((((D1 ++ (⟨#[32]⟩ : ByteArray)) ++ nm) ++ (⟨#[32, 114, 97, 110, 107, 32]⟩ : ByteArray)) ++ D2).size ≤ 21 := hzD3
        clear hzD0 hzD1 hzD2 hzD3
        obtain ⟨T0, hT0e⟩ : ∃ T0 : ByteArray, T0 = ((((D1 ++ (⟨#[32]⟩ : ByteArray)) ++ nm) ++ (⟨#[32, 114, 97, 110, 107, 32]⟩ : ByteArray)) ++ D2) := ⟨_, rfl⟩
        rw [← hT0e] at HT hT0
        have HT0 := Lib.hid hT0e
        clear hT0e
        have hrT0 : ∀ w, (Op.stringOp .add T0 (⟨#[32, 115, 101, 99, 111, 110, 100]⟩ : ByteArray)).run Tryd.prog w = .ok (.string (T0 ++ (⟨#[32, 115, 101, 99, 111, 110, 100]⟩ : ByteArray))) w := add_run 21 7 hT0 (by decide) (by decide)
        have hzT0 := app_le hT0 (show (⟨#[32, 115, 101, 99, 111, 110, 100]⟩ : ByteArray).size ≤ 7 from (by decide))
        have hrT1 : ∀ w, (Op.stringOp .add (T0 ++ (⟨#[32, 115, 101, 99, 111, 110, 100]⟩ : ByteArray)) (⟨#[32, 100, 101, 98, 97, 116, 101]⟩ : ByteArray)).run Tryd.prog w = .ok (.string ((T0 ++ (⟨#[32, 115, 101, 99, 111, 110, 100]⟩ : ByteArray)) ++ (⟨#[32, 100, 101, 98, 97, 116, 101]⟩ : ByteArray))) w := add_run 28 7 hzT0 (by decide) (by decide)
        have hzT1 := app_le hzT0 (show (⟨#[32, 100, 101, 98, 97, 116, 101]⟩ : ByteArray).size ≤ 7 from (by decide))
        have hrT2 : ∀ w, (Op.stringOp .add ((T0 ++ (⟨#[32, 115, 101, 99, 111, 110, 100]⟩ : ByteArray)) ++ (⟨#[32, 100, 101, 98, 97, 116, 101]⟩ : ByteArray)) (⟨#[32, 98, 121, 32]⟩ : ByteArray)).run Tryd.prog w = .ok (.string (((T0 ++ (⟨#[32, 115, 101, 99, 111, 110, 100]⟩ : ByteArray)) ++ (⟨#[32, 100, 101, 98, 97, 116, 101]⟩ : ByteArray)) ++ (⟨#[32, 98, 121, 32]⟩ : ByteArray))) w := add_run 35 4 hzT1 (by decide) (by decide)
        have hzT2 := app_le hzT1 (show (⟨#[32, 98, 121, 32]⟩ : ByteArray).size ≤ 4 from (by decide))
        have hrT3 : ∀ w, (Op.stringOp .add (((T0 ++ (⟨#[32, 115, 101, 99, 111, 110, 100]⟩ : ByteArray)) ++ (⟨#[32, 100, 101, 98, 97, 116, 101]⟩ : ByteArray)) ++ (⟨#[32, 98, 121, 32]⟩ : ByteArray)) W).run Tryd.prog w = .ok (.string ((((T0 ++ (⟨#[32, 115, 101, 99, 111, 110, 100]⟩ : ByteArray)) ++ (⟨#[32, 100, 101, 98, 97, 116, 101]⟩ : ByteArray)) ++ (⟨#[32, 98, 121, 32]⟩ : ByteArray)) ++ W)) w := add_run 39 10 hzT2 hW (by decide)
        have hzT3 := app_le hzT2 (show W.size ≤ 10 from hW)
        clear hzT0 hzT1 hzT2 hzT3
        go_enter Tryd.func34, Tryd.ntmps34
        go_wp2_with fail
        have hb0 : Below w.heap.size w (w.alloc (.cells #[.int .i64 id, .string nm, .int .i64 rk, .bool true, .bool true, .bool false, .int .i64 k] 27)) := bnew (Below.refl _ _) _
        have z0 : (w.alloc (.cells #[.int .i64 id, .string nm, .int .i64 rk, .bool true, .bool true, .bool false, .int .i64 k] 27)).cell? ⟨w.heap.size, 0, none⟩ = some (.int .i64 id) := (World.cell?_alloc_at _ _ _ _ rfl).trans rfl
        have z1 : (w.alloc (.cells #[.int .i64 id, .string nm, .int .i64 rk, .bool true, .bool true, .bool false, .int .i64 k] 27)).cell? ⟨w.heap.size, 1, none⟩ = some (.string nm) := (World.cell?_alloc_at _ _ _ _ rfl).trans rfl
        have z2 : (w.alloc (.cells #[.int .i64 id, .string nm, .int .i64 rk, .bool true, .bool true, .bool false, .int .i64 k] 27)).cell? ⟨w.heap.size, 2, none⟩ = some (.int .i64 rk) := (World.cell?_alloc_at _ _ _ _ rfl).trans rfl
        have z3 : (w.alloc (.cells #[.int .i64 id, .string nm, .int .i64 rk, .bool true, .bool true, .bool false, .int .i64 k] 27)).cell? ⟨w.heap.size, 3, none⟩ = some (.bool true) := (World.cell?_alloc_at _ _ _ _ rfl).trans rfl
        have z4 : (w.alloc (.cells #[.int .i64 id, .string nm, .int .i64 rk, .bool true, .bool true, .bool false, .int .i64 k] 27)).cell? ⟨w.heap.size, 4, none⟩ = some (.bool true) := (World.cell?_alloc_at _ _ _ _ rfl).trans rfl
        have z5 : (w.alloc (.cells #[.int .i64 id, .string nm, .int .i64 rk, .bool true, .bool true, .bool false, .int .i64 k] 27)).cell? ⟨w.heap.size, 5, none⟩ = some (.bool false) := (World.cell?_alloc_at _ _ _ _ rfl).trans rfl
        have z6 : (w.alloc (.cells #[.int .i64 id, .string nm, .int .i64 rk, .bool true, .bool true, .bool false, .int .i64 k] 27)).cell? ⟨w.heap.size, 6, none⟩ = some (.int .i64 k) := (World.cell?_alloc_at _ _ _ _ rfl).trans rfl
        generalize w.alloc (.cells #[.int .i64 id, .string nm, .int .i64 rk, .bool true, .bool true, .bool false, .int .i64 k] 27) = W0 at *
        obtain ⟨bx, hbx⟩ : ∃ bx, bx = w.heap.size := ⟨_, rfl⟩
        rw [← hbx] at z0 z1 z2 z3 z4 z5 z6
        rw [← hbx]
        clear hbx
        have g0 := cell_after z0
        have g1 := cell_after z1
        have g2 := cell_after z2
        refine wp_region_after (by kernel_rfl) (by kernel_rfl) ?_
        repeat (go_big_quiet_step ((go_at_call 59; exact Calls.after (HI.out _ _ (by omega)))))
        refine wpQuiet_nil ?_
        intro nq
        rw [← HT0.out]
        have hbq := btr hb0 nq.bel
        have y3 := cell_bw z3 nq.bel
        have y4 := cell_bw z4 nq.bel
        have y5 := cell_bw z5 nq.bel
        have y6 := cell_bw z6 nq.bel
        generalize nq.val = w1 at *
        clear nq g0 g1 g2 z0 z1 z2 z3 z4 z5 z6 HT0
        have c7 := hneed w1 hbq
        go_wp2
        go_ret
        exact ⟨by rw [HT.out]; rfl, hbq⟩
      | true =>
        have HT : Hid (lineB ⟨id, nm, rk, true, true, true, k⟩ = ((((((((((numB id ++ (⟨#[32]⟩ : ByteArray)) ++ nm) ++ (⟨#[32, 114, 97, 110, 107, 32]⟩ : ByteArray)) ++ numB rk)) ++ (⟨#[32, 115, 101, 99, 111, 110, 100]⟩ : ByteArray)) ++ (⟨#[32, 100, 101, 98, 97, 116, 101]⟩ : ByteArray)) ++ (⟨#[32, 97, 109, 101, 110, 100]⟩ : ByteArray)) ++ (⟨#[32, 98, 121, 32]⟩ : ByteArray)) ++ needW k)) := rfl
        generalize lineB ⟨id, nm, rk, true, true, true, k⟩ = LB at *
        generalize needW k = W at *
        generalize hD1e : numB id = D1 at *
        generalize hD2e : numB rk = D2 at *
        have hrD0 : ∀ w, (Op.stringOp .add D1 (⟨#[32]⟩ : ByteArray)).run Tryd.prog w = .ok (.string (D1 ++ (⟨#[32]⟩ : ByteArray))) w := add_run 2 1 hD1 (by decide) (by decide)
        have hzD0 := app_le hD1 (show (⟨#[32]⟩ : ByteArray).size ≤ 1 from (by decide))
        have hrD1 : ∀ w, (Op.stringOp .add (D1 ++ (⟨#[32]⟩ : ByteArray)) nm).run Tryd.prog w = .ok (.string ((D1 ++ (⟨#[32]⟩ : ByteArray)) ++ nm)) w := add_run 3 10 hzD0 hnm (by decide)
        have hzD1 := app_le hzD0 (show nm.size ≤ 10 from hnm)
        have hrD2 : ∀ w, (Op.stringOp .add ((D1 ++ (⟨#[32]⟩ : ByteArray)) ++ nm) (⟨#[32, 114, 97, 110, 107, 32]⟩ : ByteArray)).run Tryd.prog w = .ok (.string (((D1 ++ (⟨#[32]⟩ : ByteArray)) ++ nm) ++ (⟨#[32, 114, 97, 110, 107, 32]⟩ : ByteArray))) w := add_run 13 6 hzD1 (by decide) (by decide)
        have hzD2 := app_le hzD1 (show (⟨#[32, 114, 97, 110, 107, 32]⟩ : ByteArray).size ≤ 6 from (by decide))
        have hrD3 : ∀ w, (Op.stringOp .add (((D1 ++ (⟨#[32]⟩ : ByteArray)) ++ nm) ++ (⟨#[32, 114, 97, 110, 107, 32]⟩ : ByteArray)) D2).run Tryd.prog w = .ok (.string ((((D1 ++ (⟨#[32]⟩ : ByteArray)) ++ nm) ++ (⟨#[32, 114, 97, 110, 107, 32]⟩ : ByteArray)) ++ D2)) w := add_run 19 2 hzD2 hD2 (by decide)
        have hzD3 := app_le hzD2 (show D2.size ≤ 2 from hD2)
        have hT0 : ((((D1 ++ (⟨#[32]⟩ : ByteArray)) ++ nm) ++ (⟨#[32, 114, 97, 110, 107, 32]⟩ : ByteArray)) ++ D2).size ≤ 21 := hzD3
        clear hzD0 hzD1 hzD2 hzD3
        obtain ⟨T0, hT0e⟩ : ∃ T0 : ByteArray, T0 = ((((D1 ++ (⟨#[32]⟩ : ByteArray)) ++ nm) ++ (⟨#[32, 114, 97, 110, 107, 32]⟩ : ByteArray)) ++ D2) := ⟨_, rfl⟩
        rw [← hT0e] at HT hT0
        have HT0 := Lib.hid hT0e
        clear hT0e
        have hrT0 : ∀ w, (Op.stringOp .add T0 (⟨#[32, 115, 101, 99, 111, 110, 100]⟩ : ByteArray)).run Tryd.prog w = .ok (.string (T0 ++ (⟨#[32, 115, 101, 99, 111, 110, 100]⟩ : ByteArray))) w := add_run 21 7 hT0 (by decide) (by decide)
        have hzT0 := app_le hT0 (show (⟨#[32, 115, 101, 99, 111, 110, 100]⟩ : ByteArray).size ≤ 7 from (by decide))
        have hrT1 : ∀ w, (Op.stringOp .add (T0 ++ (⟨#[32, 115, 101, 99, 111, 110, 100]⟩ : ByteArray)) (⟨#[32, 100, 101, 98, 97, 116, 101]⟩ : ByteArray)).run Tryd.prog w = .ok (.string ((T0 ++ (⟨#[32, 115, 101, 99, 111, 110, 100]⟩ : ByteArray)) ++ (⟨#[32, 100, 101, 98, 97, 116, 101]⟩ : ByteArray))) w := add_run 28 7 hzT0 (by decide) (by decide)
        have hzT1 := app_le hzT0 (show (⟨#[32, 100, 101, 98, 97, 116, 101]⟩ : ByteArray).size ≤ 7 from (by decide))
        have hrT2 : ∀ w, (Op.stringOp .add ((T0 ++ (⟨#[32, 115, 101, 99, 111, 110, 100]⟩ : ByteArray)) ++ (⟨#[32, 100, 101, 98, 97, 116, 101]⟩ : ByteArray)) (⟨#[32, 97, 109, 101, 110, 100]⟩ : ByteArray)).run Tryd.prog w = .ok (.string (((T0 ++ (⟨#[32, 115, 101, 99, 111, 110, 100]⟩ : ByteArray)) ++ (⟨#[32, 100, 101, 98, 97, 116, 101]⟩ : ByteArray)) ++ (⟨#[32, 97, 109, 101, 110, 100]⟩ : ByteArray))) w := add_run 35 6 hzT1 (by decide) (by decide)
        have hzT2 := app_le hzT1 (show (⟨#[32, 97, 109, 101, 110, 100]⟩ : ByteArray).size ≤ 6 from (by decide))
        have hrT3 : ∀ w, (Op.stringOp .add (((T0 ++ (⟨#[32, 115, 101, 99, 111, 110, 100]⟩ : ByteArray)) ++ (⟨#[32, 100, 101, 98, 97, 116, 101]⟩ : ByteArray)) ++ (⟨#[32, 97, 109, 101, 110, 100]⟩ : ByteArray)) (⟨#[32, 98, 121, 32]⟩ : ByteArray)).run Tryd.prog w = .ok (.string ((((T0 ++ (⟨#[32, 115, 101, 99, 111, 110, 100]⟩ : ByteArray)) ++ (⟨#[32, 100, 101, 98, 97, 116, 101]⟩ : ByteArray)) ++ (⟨#[32, 97, 109, 101, 110, 100]⟩ : ByteArray)) ++ (⟨#[32, 98, 121, 32]⟩ : ByteArray))) w := add_run 41 4 hzT2 (by decide) (by decide)
        have hzT3 := app_le hzT2 (show (⟨#[32, 98, 121, 32]⟩ : ByteArray).size ≤ 4 from (by decide))
        have hrT4 : ∀ w, (Op.stringOp .add ((((T0 ++ (⟨#[32, 115, 101, 99, 111, 110, 100]⟩ : ByteArray)) ++ (⟨#[32, 100, 101, 98, 97, 116, 101]⟩ : ByteArray)) ++ (⟨#[32, 97, 109, 101, 110, 100]⟩ : ByteArray)) ++ (⟨#[32, 98, 121, 32]⟩ : ByteArray)) W).run Tryd.prog w = .ok (.string (((((T0 ++ (⟨#[32, 115, 101, 99, 111, 110, 100]⟩ : ByteArray)) ++ (⟨#[32, 100, 101, 98, 97, 116, 101]⟩ : ByteArray)) ++ (⟨#[32, 97, 109, 101, 110, 100]⟩ : ByteArray)) ++ (⟨#[32, 98, 121, 32]⟩ : ByteArray)) ++ W)) w := add_run 45 10 hzT3 hW (by decide)
        have hzT4 := app_le hzT3 (show W.size ≤ 10 from hW)
        clear hzT0 hzT1 hzT2 hzT3 hzT4
        go_enter Tryd.func34, Tryd.ntmps34
        go_wp2_with fail
        have hb0 : Below w.heap.size w (w.alloc (.cells #[.int .i64 id, .string nm, .int .i64 rk, .bool true, .bool true, .bool true, .int .i64 k] 27)) := bnew (Below.refl _ _) _
        have z0 : (w.alloc (.cells #[.int .i64 id, .string nm, .int .i64 rk, .bool true, .bool true, .bool true, .int .i64 k] 27)).cell? ⟨w.heap.size, 0, none⟩ = some (.int .i64 id) := (World.cell?_alloc_at _ _ _ _ rfl).trans rfl
        have z1 : (w.alloc (.cells #[.int .i64 id, .string nm, .int .i64 rk, .bool true, .bool true, .bool true, .int .i64 k] 27)).cell? ⟨w.heap.size, 1, none⟩ = some (.string nm) := (World.cell?_alloc_at _ _ _ _ rfl).trans rfl
        have z2 : (w.alloc (.cells #[.int .i64 id, .string nm, .int .i64 rk, .bool true, .bool true, .bool true, .int .i64 k] 27)).cell? ⟨w.heap.size, 2, none⟩ = some (.int .i64 rk) := (World.cell?_alloc_at _ _ _ _ rfl).trans rfl
        have z3 : (w.alloc (.cells #[.int .i64 id, .string nm, .int .i64 rk, .bool true, .bool true, .bool true, .int .i64 k] 27)).cell? ⟨w.heap.size, 3, none⟩ = some (.bool true) := (World.cell?_alloc_at _ _ _ _ rfl).trans rfl
        have z4 : (w.alloc (.cells #[.int .i64 id, .string nm, .int .i64 rk, .bool true, .bool true, .bool true, .int .i64 k] 27)).cell? ⟨w.heap.size, 4, none⟩ = some (.bool true) := (World.cell?_alloc_at _ _ _ _ rfl).trans rfl
        have z5 : (w.alloc (.cells #[.int .i64 id, .string nm, .int .i64 rk, .bool true, .bool true, .bool true, .int .i64 k] 27)).cell? ⟨w.heap.size, 5, none⟩ = some (.bool true) := (World.cell?_alloc_at _ _ _ _ rfl).trans rfl
        have z6 : (w.alloc (.cells #[.int .i64 id, .string nm, .int .i64 rk, .bool true, .bool true, .bool true, .int .i64 k] 27)).cell? ⟨w.heap.size, 6, none⟩ = some (.int .i64 k) := (World.cell?_alloc_at _ _ _ _ rfl).trans rfl
        generalize w.alloc (.cells #[.int .i64 id, .string nm, .int .i64 rk, .bool true, .bool true, .bool true, .int .i64 k] 27) = W0 at *
        obtain ⟨bx, hbx⟩ : ∃ bx, bx = w.heap.size := ⟨_, rfl⟩
        rw [← hbx] at z0 z1 z2 z3 z4 z5 z6
        rw [← hbx]
        clear hbx
        have g0 := cell_after z0
        have g1 := cell_after z1
        have g2 := cell_after z2
        refine wp_region_after (by kernel_rfl) (by kernel_rfl) ?_
        repeat (go_big_quiet_step ((go_at_call 59; exact Calls.after (HI.out _ _ (by omega)))))
        refine wpQuiet_nil ?_
        intro nq
        rw [← HT0.out]
        have hbq := btr hb0 nq.bel
        have y3 := cell_bw z3 nq.bel
        have y4 := cell_bw z4 nq.bel
        have y5 := cell_bw z5 nq.bel
        have y6 := cell_bw z6 nq.bel
        generalize nq.val = w1 at *
        clear nq g0 g1 g2 z0 z1 z2 z3 z4 z5 z6 HT0
        have c7 := hneed w1 hbq
        go_wp2
        go_ret
        exact ⟨by rw [HT.out]; rfl, hbq⟩
set_option maxHeartbeats 8000000 in
set_option maxRecDepth 100000 in
theorem l2Line_any (r : Rul) (w : World) (hr : rulOk r = true) :
    Calls Tryd.prog 33 #[.agg #[.int .i64 r.id, .string r.name, .int .i64 r.rank, .bool r.sec, .bool r.deb, .bool r.am, .int .i64 r.need]] w fun e w' => e = .returned (.string (lineB r)) ∧ Below w.heap.size w w' := by
  obtain ⟨hid, hw, hrk, hnd⟩ := rul_parts hr
  have hnm := (word_size hw).2
  have HI : Hid (∀ (n : Int) w1, 0 ≤ n ∧ n < 100 → Calls Tryd.prog 57 #[.int .i64 n] w1 fun e w' => e = .returned (.string (numB n)) ∧ Below w1.heap.size w1 w') := fun n w1 hn => by
    obtain ⟨k, rfl⟩ : ∃ k : Nat, n = k := ⟨n.toNat, by omega⟩
    refine (num_any k (by omega) w1).mono fun e w2 h => ⟨by rw [h.1, numB, Lib.itoa_nonneg], h.2⟩
  have hD1 := numB_small (n := r.id) (by omega) (by omega)
  have hD2 := numB_small (n := r.rank) (by omega) (by omega)
  have hW : (needW r.need).size ≤ 10 := by rcases hnd with h | h | h <;> rw [h] <;> decide
  obtain ⟨k, hk, hk4⟩ : ∃ k : Nat, r.need = (k : Int) ∧ k < 4 := ⟨r.need.toNat, by omega, by omega⟩
  have HN : Hid (∀ w1, Calls Tryd.prog 58 #[] w1 fun e w' => ∃ b, e = .returned (.slice (some ⟨b, 0, none⟩) 4 4) ∧ w'.cell? ⟨b, k, none⟩ = some (.string (needW r.need)) ∧ Below w1.heap.size w1 w') := fun w1 => (l2Needs_any w1).mono fun e w2 h => by
    obtain ⟨b, h1, h2, h3⟩ := h
    exact ⟨b, h1, by rw [hk]; exact h2 k hk4, h3⟩
  clear hr hw hnd
  obtain ⟨id, nm, rk, s, d, a, nd⟩ := r
  simp only at *
  have hkI : (k : Int) < 4 := by omega
  subst hk
  cases s with
  | false =>
    cases d with
    | false =>
      cases a with
      | false =>
        have HT : Hid (lineB ⟨id, nm, rk, false, false, false, k⟩ = (((((((numB id ++ (⟨#[32]⟩ : ByteArray)) ++ nm) ++ (⟨#[32, 114, 97, 110, 107, 32]⟩ : ByteArray)) ++ numB rk)) ++ (⟨#[32, 98, 121, 32]⟩ : ByteArray)) ++ needW k)) := rfl
        generalize lineB ⟨id, nm, rk, false, false, false, k⟩ = LB at *
        generalize needW k = W at *
        generalize hD1e : numB id = D1 at *
        generalize hD2e : numB rk = D2 at *
        have hrD0 : ∀ w, (Op.stringOp .add D1 (⟨#[32]⟩ : ByteArray)).run Tryd.prog w = .ok (.string (D1 ++ (⟨#[32]⟩ : ByteArray))) w := add_run 2 1 hD1 (by decide) (by decide)
        have hzD0 := app_le hD1 (show (⟨#[32]⟩ : ByteArray).size ≤ 1 from (by decide))
        have hrD1 : ∀ w, (Op.stringOp .add (D1 ++ (⟨#[32]⟩ : ByteArray)) nm).run Tryd.prog w = .ok (.string ((D1 ++ (⟨#[32]⟩ : ByteArray)) ++ nm)) w := add_run 3 10 hzD0 hnm (by decide)
        have hzD1 := app_le hzD0 (show nm.size ≤ 10 from hnm)
        have hrD2 : ∀ w, (Op.stringOp .add ((D1 ++ (⟨#[32]⟩ : ByteArray)) ++ nm) (⟨#[32, 114, 97, 110, 107, 32]⟩ : ByteArray)).run Tryd.prog w = .ok (.string (((D1 ++ (⟨#[32]⟩ : ByteArray)) ++ nm) ++ (⟨#[32, 114, 97, 110, 107, 32]⟩ : ByteArray))) w := add_run 13 6 hzD1 (by decide) (by decide)
        have hzD2 := app_le hzD1 (show (⟨#[32, 114, 97, 110, 107, 32]⟩ : ByteArray).size ≤ 6 from (by decide))
        have hrD3 : ∀ w, (Op.stringOp .add (((D1 ++ (⟨#[32]⟩ : ByteArray)) ++ nm) ++ (⟨#[32, 114, 97, 110, 107, 32]⟩ : ByteArray)) D2).run Tryd.prog w = .ok (.string ((((D1 ++ (⟨#[32]⟩ : ByteArray)) ++ nm) ++ (⟨#[32, 114, 97, 110, 107, 32]⟩ : ByteArray)) ++ D2)) w := add_run 19 2 hzD2 hD2 (by decide)
        have hzD3 := app_le hzD2 (show D2.size ≤ 2 from hD2)
        have hT0 : ((((D1 ++ (⟨#[32]⟩ : ByteArray)) ++ nm) ++ (⟨#[32, 114, 97, 110, 107, 32]⟩ : ByteArray)) ++ D2).size ≤ 21 := hzD3
        clear hzD0 hzD1 hzD2 hzD3
        obtain ⟨T0, hT0e⟩ : ∃ T0 : ByteArray, T0 = ((((D1 ++ (⟨#[32]⟩ : ByteArray)) ++ nm) ++ (⟨#[32, 114, 97, 110, 107, 32]⟩ : ByteArray)) ++ D2) := ⟨_, rfl⟩
        rw [← hT0e] at HT hT0
        have HT0 := Lib.hid hT0e
        clear hT0e
        have hrT0 : ∀ w, (Op.stringOp .add T0 (⟨#[32, 98, 121, 32]⟩ : ByteArray)).run Tryd.prog w = .ok (.string (T0 ++ (⟨#[32, 98, 121, 32]⟩ : ByteArray))) w := add_run 21 4 hT0 (by decide) (by decide)
        have hzT0 := app_le hT0 (show (⟨#[32, 98, 121, 32]⟩ : ByteArray).size ≤ 4 from (by decide))
        have hrT1 : ∀ w, (Op.stringOp .add (T0 ++ (⟨#[32, 98, 121, 32]⟩ : ByteArray)) W).run Tryd.prog w = .ok (.string ((T0 ++ (⟨#[32, 98, 121, 32]⟩ : ByteArray)) ++ W)) w := add_run 25 10 hzT0 hW (by decide)
        have hzT1 := app_le hzT0 (show W.size ≤ 10 from hW)
        clear hzT0 hzT1
        go_enter Tryd.func33, Tryd.ntmps33
        go_wp2_with fail
        have hb0 : Below w.heap.size w (w.alloc (.cells #[.int .i64 id, .string nm, .int .i64 rk, .bool false, .bool false, .bool false, .int .i64 k] 27)) := bnew (Below.refl _ _) _
        have z0 : (w.alloc (.cells #[.int .i64 id, .string nm, .int .i64 rk, .bool false, .bool false, .bool false, .int .i64 k] 27)).cell? ⟨w.heap.size, 0, none⟩ = some (.int .i64 id) := (World.cell?_alloc_at _ _ _ _ rfl).trans rfl
        have z1 : (w.alloc (.cells #[.int .i64 id, .string nm, .int .i64 rk, .bool false, .bool false, .bool false, .int .i64 k] 27)).cell? ⟨w.heap.size, 1, none⟩ = some (.string nm) := (World.cell?_alloc_at _ _ _ _ rfl).trans rfl
        have z2 : (w.alloc (.cells #[.int .i64 id, .string nm, .int .i64 rk, .bool false, .bool false, .bool false, .int .i64 k] 27)).cell? ⟨w.heap.size, 2, none⟩ = some (.int .i64 rk) := (World.cell?_alloc_at _ _ _ _ rfl).trans rfl
        have z3 : (w.alloc (.cells #[.int .i64 id, .string nm, .int .i64 rk, .bool false, .bool false, .bool false, .int .i64 k] 27)).cell? ⟨w.heap.size, 3, none⟩ = some (.bool false) := (World.cell?_alloc_at _ _ _ _ rfl).trans rfl
        have z4 : (w.alloc (.cells #[.int .i64 id, .string nm, .int .i64 rk, .bool false, .bool false, .bool false, .int .i64 k] 27)).cell? ⟨w.heap.size, 4, none⟩ = some (.bool false) := (World.cell?_alloc_at _ _ _ _ rfl).trans rfl
        have z5 : (w.alloc (.cells #[.int .i64 id, .string nm, .int .i64 rk, .bool false, .bool false, .bool false, .int .i64 k] 27)).cell? ⟨w.heap.size, 5, none⟩ = some (.bool false) := (World.cell?_alloc_at _ _ _ _ rfl).trans rfl
        have z6 : (w.alloc (.cells #[.int .i64 id, .string nm, .int .i64 rk, .bool false, .bool false, .bool false, .int .i64 k] 27)).cell? ⟨w.heap.size, 6, none⟩ = some (.int .i64 k) := (World.cell?_alloc_at _ _ _ _ rfl).trans rfl
        generalize w.alloc (.cells #[.int .i64 id, .string nm, .int .i64 rk, .bool false, .bool false, .bool false, .int .i64 k] 27) = W0 at *
        obtain ⟨bx, hbx⟩ : ∃ bx, bx = w.heap.size := ⟨_, rfl⟩
        rw [← hbx] at z0 z1 z2 z3 z4 z5 z6
        rw [← hbx]
        clear hbx
        have g0 := cell_after z0
        have g1 := cell_after z1
        have g2 := cell_after z2
        refine wp_region_after (by kernel_rfl) (by kernel_rfl) ?_
        repeat (go_big_quiet_step ((go_at_call 57; exact Calls.after (HI.out _ _ (by omega)))))
        refine wpQuiet_nil ?_
        intro nq
        rw [← HT0.out]
        have hbq := btr hb0 nq.bel
        have y3 := cell_bw z3 nq.bel
        have y4 := cell_bw z4 nq.bel
        have y5 := cell_bw z5 nq.bel
        have y6 := cell_bw z6 nq.bel
        generalize nq.val = w1 at *
        clear nq g0 g1 g2 z0 z1 z2 z3 z4 z5 z6 HT0
        have v6 : w1.drew.cell? ⟨bx, 6, none⟩ = some (.int .i64 k) := y6
        go_wp2_with fail
        go_region_with ((go_at_call 58; refine (HN.out _).mono ?_; rintro en w8 ⟨b8, rfl, hc8, hb8⟩; have c8 := hc8; have v6 := cell_bw v6 hb8; have hb9 := btr hbq (btr (Below.refl _ _).drew hb8)))
        all_goals (go_wp2; go_ret; exact ⟨by rw [HT.out]; rfl, hb9⟩)
      | true =>
        have HT : Hid (lineB ⟨id, nm, rk, false, false, true, k⟩ = ((((((((numB id ++ (⟨#[32]⟩ : ByteArray)) ++ nm) ++ (⟨#[32, 114, 97, 110, 107, 32]⟩ : ByteArray)) ++ numB rk)) ++ (⟨#[32, 97, 109, 101, 110, 100]⟩ : ByteArray)) ++ (⟨#[32, 98, 121, 32]⟩ : ByteArray)) ++ needW k)) := rfl
        generalize lineB ⟨id, nm, rk, false, false, true, k⟩ = LB at *
        generalize needW k = W at *
        generalize hD1e : numB id = D1 at *
        generalize hD2e : numB rk = D2 at *
        have hrD0 : ∀ w, (Op.stringOp .add D1 (⟨#[32]⟩ : ByteArray)).run Tryd.prog w = .ok (.string (D1 ++ (⟨#[32]⟩ : ByteArray))) w := add_run 2 1 hD1 (by decide) (by decide)
        have hzD0 := app_le hD1 (show (⟨#[32]⟩ : ByteArray).size ≤ 1 from (by decide))
        have hrD1 : ∀ w, (Op.stringOp .add (D1 ++ (⟨#[32]⟩ : ByteArray)) nm).run Tryd.prog w = .ok (.string ((D1 ++ (⟨#[32]⟩ : ByteArray)) ++ nm)) w := add_run 3 10 hzD0 hnm (by decide)
        have hzD1 := app_le hzD0 (show nm.size ≤ 10 from hnm)
        have hrD2 : ∀ w, (Op.stringOp .add ((D1 ++ (⟨#[32]⟩ : ByteArray)) ++ nm) (⟨#[32, 114, 97, 110, 107, 32]⟩ : ByteArray)).run Tryd.prog w = .ok (.string (((D1 ++ (⟨#[32]⟩ : ByteArray)) ++ nm) ++ (⟨#[32, 114, 97, 110, 107, 32]⟩ : ByteArray))) w := add_run 13 6 hzD1 (by decide) (by decide)
        have hzD2 := app_le hzD1 (show (⟨#[32, 114, 97, 110, 107, 32]⟩ : ByteArray).size ≤ 6 from (by decide))
        have hrD3 : ∀ w, (Op.stringOp .add (((D1 ++ (⟨#[32]⟩ : ByteArray)) ++ nm) ++ (⟨#[32, 114, 97, 110, 107, 32]⟩ : ByteArray)) D2).run Tryd.prog w = .ok (.string ((((D1 ++ (⟨#[32]⟩ : ByteArray)) ++ nm) ++ (⟨#[32, 114, 97, 110, 107, 32]⟩ : ByteArray)) ++ D2)) w := add_run 19 2 hzD2 hD2 (by decide)
        have hzD3 := app_le hzD2 (show D2.size ≤ 2 from hD2)
        have hT0 : ((((D1 ++ (⟨#[32]⟩ : ByteArray)) ++ nm) ++ (⟨#[32, 114, 97, 110, 107, 32]⟩ : ByteArray)) ++ D2).size ≤ 21 := hzD3
        clear hzD0 hzD1 hzD2 hzD3
        obtain ⟨T0, hT0e⟩ : ∃ T0 : ByteArray, T0 = ((((D1 ++ (⟨#[32]⟩ : ByteArray)) ++ nm) ++ (⟨#[32, 114, 97, 110, 107, 32]⟩ : ByteArray)) ++ D2) := ⟨_, rfl⟩
        rw [← hT0e] at HT hT0
        have HT0 := Lib.hid hT0e
        clear hT0e
        have hrT0 : ∀ w, (Op.stringOp .add T0 (⟨#[32, 97, 109, 101, 110, 100]⟩ : ByteArray)).run Tryd.prog w = .ok (.string (T0 ++ (⟨#[32, 97, 109, 101, 110, 100]⟩ : ByteArray))) w := add_run 21 6 hT0 (by decide) (by decide)
        have hzT0 := app_le hT0 (show (⟨#[32, 97, 109, 101, 110, 100]⟩ : ByteArray).size ≤ 6 from (by decide))
        have hrT1 : ∀ w, (Op.stringOp .add (T0 ++ (⟨#[32, 97, 109, 101, 110, 100]⟩ : ByteArray)) (⟨#[32, 98, 121, 32]⟩ : ByteArray)).run Tryd.prog w = .ok (.string ((T0 ++ (⟨#[32, 97, 109, 101, 110, 100]⟩ : ByteArray)) ++ (⟨#[32, 98, 121, 32]⟩ : ByteArray))) w := add_run 27 4 hzT0 (by decide) (by decide)
        have hzT1 := app_le hzT0 (show (⟨#[32, 98, 121, 32]⟩ : ByteArray).size ≤ 4 from (by decide))
        have hrT2 : ∀ w, (Op.stringOp .add ((T0 ++ (⟨#[32, 97, 109, 101, 110, 100]⟩ : ByteArray)) ++ (⟨#[32, 98, 121, 32]⟩ : ByteArray)) W).run Tryd.prog w = .ok (.string (((T0 ++ (⟨#[32, 97, 109, 101, 110, 100]⟩ : ByteArray)) ++ (⟨#[32, 98, 121, 32]⟩ : ByteArray)) ++ W)) w := add_run 31 10 hzT1 hW (by decide)
        have hzT2 := app_le hzT1 (show W.size ≤ 10 from hW)
        clear hzT0 hzT1 hzT2
        go_enter Tryd.func33, Tryd.ntmps33
        go_wp2_with fail
        have hb0 : Below w.heap.size w (w.alloc (.cells #[.int .i64 id, .string nm, .int .i64 rk, .bool false, .bool false, .bool true, .int .i64 k] 27)) := bnew (Below.refl _ _) _
        have z0 : (w.alloc (.cells #[.int .i64 id, .string nm, .int .i64 rk, .bool false, .bool false, .bool true, .int .i64 k] 27)).cell? ⟨w.heap.size, 0, none⟩ = some (.int .i64 id) := (World.cell?_alloc_at _ _ _ _ rfl).trans rfl
        have z1 : (w.alloc (.cells #[.int .i64 id, .string nm, .int .i64 rk, .bool false, .bool false, .bool true, .int .i64 k] 27)).cell? ⟨w.heap.size, 1, none⟩ = some (.string nm) := (World.cell?_alloc_at _ _ _ _ rfl).trans rfl
        have z2 : (w.alloc (.cells #[.int .i64 id, .string nm, .int .i64 rk, .bool false, .bool false, .bool true, .int .i64 k] 27)).cell? ⟨w.heap.size, 2, none⟩ = some (.int .i64 rk) := (World.cell?_alloc_at _ _ _ _ rfl).trans rfl
        have z3 : (w.alloc (.cells #[.int .i64 id, .string nm, .int .i64 rk, .bool false, .bool false, .bool true, .int .i64 k] 27)).cell? ⟨w.heap.size, 3, none⟩ = some (.bool false) := (World.cell?_alloc_at _ _ _ _ rfl).trans rfl
        have z4 : (w.alloc (.cells #[.int .i64 id, .string nm, .int .i64 rk, .bool false, .bool false, .bool true, .int .i64 k] 27)).cell? ⟨w.heap.size, 4, none⟩ = some (.bool false) := (World.cell?_alloc_at _ _ _ _ rfl).trans rfl
        have z5 : (w.alloc (.cells #[.int .i64 id, .string nm, .int .i64 rk, .bool false, .bool false, .bool true, .int .i64 k] 27)).cell? ⟨w.heap.size, 5, none⟩ = some (.bool true) := (World.cell?_alloc_at _ _ _ _ rfl).trans rfl
        have z6 : (w.alloc (.cells #[.int .i64 id, .string nm, .int .i64 rk, .bool false, .bool false, .bool true, .int .i64 k] 27)).cell? ⟨w.heap.size, 6, none⟩ = some (.int .i64 k) := (World.cell?_alloc_at _ _ _ _ rfl).trans rfl
        generalize w.alloc (.cells #[.int .i64 id, .string nm, .int .i64 rk, .bool false, .bool false, .bool true, .int .i64 k] 27) = W0 at *
        obtain ⟨bx, hbx⟩ : ∃ bx, bx = w.heap.size := ⟨_, rfl⟩
        rw [← hbx] at z0 z1 z2 z3 z4 z5 z6
        rw [← hbx]
        clear hbx
        have g0 := cell_after z0
        have g1 := cell_after z1
        have g2 := cell_after z2
        refine wp_region_after (by kernel_rfl) (by kernel_rfl) ?_
        repeat (go_big_quiet_step ((go_at_call 57; exact Calls.after (HI.out _ _ (by omega)))))
        refine wpQuiet_nil ?_
        intro nq
        rw [← HT0.out]
        have hbq := btr hb0 nq.bel
        have y3 := cell_bw z3 nq.bel
        have y4 := cell_bw z4 nq.bel
        have y5 := cell_bw z5 nq.bel
        have y6 := cell_bw z6 nq.bel
        generalize nq.val = w1 at *
        clear nq g0 g1 g2 z0 z1 z2 z3 z4 z5 z6 HT0
        have v6 : w1.drew.cell? ⟨bx, 6, none⟩ = some (.int .i64 k) := y6
        go_wp2_with fail
        go_region_with ((go_at_call 58; refine (HN.out _).mono ?_; rintro en w8 ⟨b8, rfl, hc8, hb8⟩; have c8 := hc8; have v6 := cell_bw v6 hb8; have hb9 := btr hbq (btr (Below.refl _ _).drew hb8)))
        all_goals (go_wp2; go_ret; exact ⟨by rw [HT.out]; rfl, hb9⟩)
    | true =>
      cases a with
      | false =>
        have HT : Hid (lineB ⟨id, nm, rk, false, true, false, k⟩ = ((((((((numB id ++ (⟨#[32]⟩ : ByteArray)) ++ nm) ++ (⟨#[32, 114, 97, 110, 107, 32]⟩ : ByteArray)) ++ numB rk)) ++ (⟨#[32, 100, 101, 98, 97, 116, 101]⟩ : ByteArray)) ++ (⟨#[32, 98, 121, 32]⟩ : ByteArray)) ++ needW k)) := rfl
        generalize lineB ⟨id, nm, rk, false, true, false, k⟩ = LB at *
        generalize needW k = W at *
        generalize hD1e : numB id = D1 at *
        generalize hD2e : numB rk = D2 at *
        have hrD0 : ∀ w, (Op.stringOp .add D1 (⟨#[32]⟩ : ByteArray)).run Tryd.prog w = .ok (.string (D1 ++ (⟨#[32]⟩ : ByteArray))) w := add_run 2 1 hD1 (by decide) (by decide)
        have hzD0 := app_le hD1 (show (⟨#[32]⟩ : ByteArray).size ≤ 1 from (by decide))
        have hrD1 : ∀ w, (Op.stringOp .add (D1 ++ (⟨#[32]⟩ : ByteArray)) nm).run Tryd.prog w = .ok (.string ((D1 ++ (⟨#[32]⟩ : ByteArray)) ++ nm)) w := add_run 3 10 hzD0 hnm (by decide)
        have hzD1 := app_le hzD0 (show nm.size ≤ 10 from hnm)
        have hrD2 : ∀ w, (Op.stringOp .add ((D1 ++ (⟨#[32]⟩ : ByteArray)) ++ nm) (⟨#[32, 114, 97, 110, 107, 32]⟩ : ByteArray)).run Tryd.prog w = .ok (.string (((D1 ++ (⟨#[32]⟩ : ByteArray)) ++ nm) ++ (⟨#[32, 114, 97, 110, 107, 32]⟩ : ByteArray))) w := add_run 13 6 hzD1 (by decide) (by decide)
        have hzD2 := app_le hzD1 (show (⟨#[32, 114, 97, 110, 107, 32]⟩ : ByteArray).size ≤ 6 from (by decide))
        have hrD3 : ∀ w, (Op.stringOp .add (((D1 ++ (⟨#[32]⟩ : ByteArray)) ++ nm) ++ (⟨#[32, 114, 97, 110, 107, 32]⟩ : ByteArray)) D2).run Tryd.prog w = .ok (.string ((((D1 ++ (⟨#[32]⟩ : ByteArray)) ++ nm) ++ (⟨#[32, 114, 97, 110, 107, 32]⟩ : ByteArray)) ++ D2)) w := add_run 19 2 hzD2 hD2 (by decide)
        have hzD3 := app_le hzD2 (show D2.size ≤ 2 from hD2)
        have hT0 : ((((D1 ++ (⟨#[32]⟩ : ByteArray)) ++ nm) ++ (⟨#[32, 114, 97, 110, 107, 32]⟩ : ByteArray)) ++ D2).size ≤ 21 := hzD3
        clear hzD0 hzD1 hzD2 hzD3
        obtain ⟨T0, hT0e⟩ : ∃ T0 : ByteArray, T0 = ((((D1 ++ (⟨#[32]⟩ : ByteArray)) ++ nm) ++ (⟨#[32, 114, 97, 110, 107, 32]⟩ : ByteArray)) ++ D2) := ⟨_, rfl⟩
        rw [← hT0e] at HT hT0
        have HT0 := Lib.hid hT0e
        clear hT0e
        have hrT0 : ∀ w, (Op.stringOp .add T0 (⟨#[32, 100, 101, 98, 97, 116, 101]⟩ : ByteArray)).run Tryd.prog w = .ok (.string (T0 ++ (⟨#[32, 100, 101, 98, 97, 116, 101]⟩ : ByteArray))) w := add_run 21 7 hT0 (by decide) (by decide)
        have hzT0 := app_le hT0 (show (⟨#[32, 100, 101, 98, 97, 116, 101]⟩ : ByteArray).size ≤ 7 from (by decide))
        have hrT1 : ∀ w, (Op.stringOp .add (T0 ++ (⟨#[32, 100, 101, 98, 97, 116, 101]⟩ : ByteArray)) (⟨#[32, 98, 121, 32]⟩ : ByteArray)).run Tryd.prog w = .ok (.string ((T0 ++ (⟨#[32, 100, 101, 98, 97, 116, 101]⟩ : ByteArray)) ++ (⟨#[32, 98, 121, 32]⟩ : ByteArray))) w := add_run 28 4 hzT0 (by decide) (by decide)
        have hzT1 := app_le hzT0 (show (⟨#[32, 98, 121, 32]⟩ : ByteArray).size ≤ 4 from (by decide))
        have hrT2 : ∀ w, (Op.stringOp .add ((T0 ++ (⟨#[32, 100, 101, 98, 97, 116, 101]⟩ : ByteArray)) ++ (⟨#[32, 98, 121, 32]⟩ : ByteArray)) W).run Tryd.prog w = .ok (.string (((T0 ++ (⟨#[32, 100, 101, 98, 97, 116, 101]⟩ : ByteArray)) ++ (⟨#[32, 98, 121, 32]⟩ : ByteArray)) ++ W)) w := add_run 32 10 hzT1 hW (by decide)
        have hzT2 := app_le hzT1 (show W.size ≤ 10 from hW)
        clear hzT0 hzT1 hzT2
        go_enter Tryd.func33, Tryd.ntmps33
        go_wp2_with fail
        have hb0 : Below w.heap.size w (w.alloc (.cells #[.int .i64 id, .string nm, .int .i64 rk, .bool false, .bool true, .bool false, .int .i64 k] 27)) := bnew (Below.refl _ _) _
        have z0 : (w.alloc (.cells #[.int .i64 id, .string nm, .int .i64 rk, .bool false, .bool true, .bool false, .int .i64 k] 27)).cell? ⟨w.heap.size, 0, none⟩ = some (.int .i64 id) := (World.cell?_alloc_at _ _ _ _ rfl).trans rfl
        have z1 : (w.alloc (.cells #[.int .i64 id, .string nm, .int .i64 rk, .bool false, .bool true, .bool false, .int .i64 k] 27)).cell? ⟨w.heap.size, 1, none⟩ = some (.string nm) := (World.cell?_alloc_at _ _ _ _ rfl).trans rfl
        have z2 : (w.alloc (.cells #[.int .i64 id, .string nm, .int .i64 rk, .bool false, .bool true, .bool false, .int .i64 k] 27)).cell? ⟨w.heap.size, 2, none⟩ = some (.int .i64 rk) := (World.cell?_alloc_at _ _ _ _ rfl).trans rfl
        have z3 : (w.alloc (.cells #[.int .i64 id, .string nm, .int .i64 rk, .bool false, .bool true, .bool false, .int .i64 k] 27)).cell? ⟨w.heap.size, 3, none⟩ = some (.bool false) := (World.cell?_alloc_at _ _ _ _ rfl).trans rfl
        have z4 : (w.alloc (.cells #[.int .i64 id, .string nm, .int .i64 rk, .bool false, .bool true, .bool false, .int .i64 k] 27)).cell? ⟨w.heap.size, 4, none⟩ = some (.bool true) := (World.cell?_alloc_at _ _ _ _ rfl).trans rfl
        have z5 : (w.alloc (.cells #[.int .i64 id, .string nm, .int .i64 rk, .bool false, .bool true, .bool false, .int .i64 k] 27)).cell? ⟨w.heap.size, 5, none⟩ = some (.bool false) := (World.cell?_alloc_at _ _ _ _ rfl).trans rfl
        have z6 : (w.alloc (.cells #[.int .i64 id, .string nm, .int .i64 rk, .bool false, .bool true, .bool false, .int .i64 k] 27)).cell? ⟨w.heap.size, 6, none⟩ = some (.int .i64 k) := (World.cell?_alloc_at _ _ _ _ rfl).trans rfl
        generalize w.alloc (.cells #[.int .i64 id, .string nm, .int .i64 rk, .bool false, .bool true, .bool false, .int .i64 k] 27) = W0 at *
        obtain ⟨bx, hbx⟩ : ∃ bx, bx = w.heap.size := ⟨_, rfl⟩
        rw [← hbx] at z0 z1 z2 z3 z4 z5 z6
        rw [← hbx]
        clear hbx
        have g0 := cell_after z0
        have g1 := cell_after z1
        have g2 := cell_after z2
        refine wp_region_after (by kernel_rfl) (by kernel_rfl) ?_
        repeat (go_big_quiet_step ((go_at_call 57; exact Calls.after (HI.out _ _ (by omega)))))
        refine wpQuiet_nil ?_
        intro nq
        rw [← HT0.out]
        have hbq := btr hb0 nq.bel
        have y3 := cell_bw z3 nq.bel
        have y4 := cell_bw z4 nq.bel
        have y5 := cell_bw z5 nq.bel
        have y6 := cell_bw z6 nq.bel
        generalize nq.val = w1 at *
        clear nq g0 g1 g2 z0 z1 z2 z3 z4 z5 z6 HT0
        have v6 : w1.drew.cell? ⟨bx, 6, none⟩ = some (.int .i64 k) := y6
        go_wp2_with fail
        go_region_with ((go_at_call 58; refine (HN.out _).mono ?_; rintro en w8 ⟨b8, rfl, hc8, hb8⟩; have c8 := hc8; have v6 := cell_bw v6 hb8; have hb9 := btr hbq (btr (Below.refl _ _).drew hb8)))
        all_goals (go_wp2; go_ret; exact ⟨by rw [HT.out]; rfl, hb9⟩)
      | true =>
        have HT : Hid (lineB ⟨id, nm, rk, false, true, true, k⟩ = (((((((((numB id ++ (⟨#[32]⟩ : ByteArray)) ++ nm) ++ (⟨#[32, 114, 97, 110, 107, 32]⟩ : ByteArray)) ++ numB rk)) ++ (⟨#[32, 100, 101, 98, 97, 116, 101]⟩ : ByteArray)) ++ (⟨#[32, 97, 109, 101, 110, 100]⟩ : ByteArray)) ++ (⟨#[32, 98, 121, 32]⟩ : ByteArray)) ++ needW k)) := rfl
        generalize lineB ⟨id, nm, rk, false, true, true, k⟩ = LB at *
        generalize needW k = W at *
        generalize hD1e : numB id = D1 at *
        generalize hD2e : numB rk = D2 at *
        have hrD0 : ∀ w, (Op.stringOp .add D1 (⟨#[32]⟩ : ByteArray)).run Tryd.prog w = .ok (.string (D1 ++ (⟨#[32]⟩ : ByteArray))) w := add_run 2 1 hD1 (by decide) (by decide)
        have hzD0 := app_le hD1 (show (⟨#[32]⟩ : ByteArray).size ≤ 1 from (by decide))
        have hrD1 : ∀ w, (Op.stringOp .add (D1 ++ (⟨#[32]⟩ : ByteArray)) nm).run Tryd.prog w = .ok (.string ((D1 ++ (⟨#[32]⟩ : ByteArray)) ++ nm)) w := add_run 3 10 hzD0 hnm (by decide)
        have hzD1 := app_le hzD0 (show nm.size ≤ 10 from hnm)
        have hrD2 : ∀ w, (Op.stringOp .add ((D1 ++ (⟨#[32]⟩ : ByteArray)) ++ nm) (⟨#[32, 114, 97, 110, 107, 32]⟩ : ByteArray)).run Tryd.prog w = .ok (.string (((D1 ++ (⟨#[32]⟩ : ByteArray)) ++ nm) ++ (⟨#[32, 114, 97, 110, 107, 32]⟩ : ByteArray))) w := add_run 13 6 hzD1 (by decide) (by decide)
        have hzD2 := app_le hzD1 (show (⟨#[32, 114, 97, 110, 107, 32]⟩ : ByteArray).size ≤ 6 from (by decide))
        have hrD3 : ∀ w, (Op.stringOp .add (((D1 ++ (⟨#[32]⟩ : ByteArray)) ++ nm) ++ (⟨#[32, 114, 97, 110, 107, 32]⟩ : ByteArray)) D2).run Tryd.prog w = .ok (.string ((((D1 ++ (⟨#[32]⟩ : ByteArray)) ++ nm) ++ (⟨#[32, 114, 97, 110, 107, 32]⟩ : ByteArray)) ++ D2)) w := add_run 19 2 hzD2 hD2 (by decide)
        have hzD3 := app_le hzD2 (show D2.size ≤ 2 from hD2)
        have hT0 : ((((D1 ++ (⟨#[32]⟩ : ByteArray)) ++ nm) ++ (⟨#[32, 114, 97, 110, 107, 32]⟩ : ByteArray)) ++ D2).size ≤ 21 := hzD3
        clear hzD0 hzD1 hzD2 hzD3
        obtain ⟨T0, hT0e⟩ : ∃ T0 : ByteArray, T0 = ((((D1 ++ (⟨#[32]⟩ : ByteArray)) ++ nm) ++ (⟨#[32, 114, 97, 110, 107, 32]⟩ : ByteArray)) ++ D2) := ⟨_, rfl⟩
        rw [← hT0e] at HT hT0
        have HT0 := Lib.hid hT0e
        clear hT0e
        have hrT0 : ∀ w, (Op.stringOp .add T0 (⟨#[32, 100, 101, 98, 97, 116, 101]⟩ : ByteArray)).run Tryd.prog w = .ok (.string (T0 ++ (⟨#[32, 100, 101, 98, 97, 116, 101]⟩ : ByteArray))) w := add_run 21 7 hT0 (by decide) (by decide)
        have hzT0 := app_le hT0 (show (⟨#[32, 100, 101, 98, 97, 116, 101]⟩ : ByteArray).size ≤ 7 from (by decide))
        have hrT1 : ∀ w, (Op.stringOp .add (T0 ++ (⟨#[32, 100, 101, 98, 97, 116, 101]⟩ : ByteArray)) (⟨#[32, 97, 109, 101, 110, 100]⟩ : ByteArray)).run Tryd.prog w = .ok (.string ((T0 ++ (⟨#[32, 100, 101, 98, 97, 116, 101]⟩ : ByteArray)) ++ (⟨#[32, 97, 109, 101, 110, 100]⟩ : ByteArray))) w := add_run 28 6 hzT0 (by decide) (by decide)
        have hzT1 := app_le hzT0 (show (⟨#[32, 97, 109, 101, 110, 100]⟩ : ByteArray).size ≤ 6 from (by decide))
        have hrT2 : ∀ w, (Op.stringOp .add ((T0 ++ (⟨#[32, 100, 101, 98, 97, 116, 101]⟩ : ByteArray)) ++ (⟨#[32, 97, 109, 101, 110, 100]⟩ : ByteArray)) (⟨#[32, 98, 121, 32]⟩ : ByteArray)).run Tryd.prog w = .ok (.string (((T0 ++ (⟨#[32, 100, 101, 98, 97, 116, 101]⟩ : ByteArray)) ++ (⟨#[32, 97, 109, 101, 110, 100]⟩ : ByteArray)) ++ (⟨#[32, 98, 121, 32]⟩ : ByteArray))) w := add_run 34 4 hzT1 (by decide) (by decide)
        have hzT2 := app_le hzT1 (show (⟨#[32, 98, 121, 32]⟩ : ByteArray).size ≤ 4 from (by decide))
        have hrT3 : ∀ w, (Op.stringOp .add (((T0 ++ (⟨#[32, 100, 101, 98, 97, 116, 101]⟩ : ByteArray)) ++ (⟨#[32, 97, 109, 101, 110, 100]⟩ : ByteArray)) ++ (⟨#[32, 98, 121, 32]⟩ : ByteArray)) W).run Tryd.prog w = .ok (.string ((((T0 ++ (⟨#[32, 100, 101, 98, 97, 116, 101]⟩ : ByteArray)) ++ (⟨#[32, 97, 109, 101, 110, 100]⟩ : ByteArray)) ++ (⟨#[32, 98, 121, 32]⟩ : ByteArray)) ++ W)) w := add_run 38 10 hzT2 hW (by decide)
        have hzT3 := app_le hzT2 (show W.size ≤ 10 from hW)
        clear hzT0 hzT1 hzT2 hzT3
        go_enter Tryd.func33, Tryd.ntmps33
        go_wp2_with fail
        have hb0 : Below w.heap.size w (w.alloc (.cells #[.int .i64 id, .string nm, .int .i64 rk, .bool false, .bool true, .bool true, .int .i64 k] 27)) := bnew (Below.refl _ _) _
        have z0 : (w.alloc (.cells #[.int .i64 id, .string nm, .int .i64 rk, .bool false, .bool true, .bool true, .int .i64 k] 27)).cell? ⟨w.heap.size, 0, none⟩ = some (.int .i64 id) := (World.cell?_alloc_at _ _ _ _ rfl).trans rfl
        have z1 : (w.alloc (.cells #[.int .i64 id, .string nm, .int .i64 rk, .bool false, .bool true, .bool true, .int .i64 k] 27)).cell? ⟨w.heap.size, 1, none⟩ = some (.string nm) := (World.cell?_alloc_at _ _ _ _ rfl).trans rfl
        have z2 : (w.alloc (.cells #[.int .i64 id, .string nm, .int .i64 rk, .bool false, .bool true, .bool true, .int .i64 k] 27)).cell? ⟨w.heap.size, 2, none⟩ = some (.int .i64 rk) := (World.cell?_alloc_at _ _ _ _ rfl).trans rfl
        have z3 : (w.alloc (.cells #[.int .i64 id, .string nm, .int .i64 rk, .bool false, .bool true, .bool true, .int .i64 k] 27)).cell? ⟨w.heap.size, 3, none⟩ = some (.bool false) := (World.cell?_alloc_at _ _ _ _ rfl).trans rfl
        have z4 : (w.alloc (.cells #[.int .i64 id, .string nm, .int .i64 rk, .bool false, .bool true, .bool true, .int .i64 k] 27)).cell? ⟨w.heap.size, 4, none⟩ = some (.bool true) := (World.cell?_alloc_at _ _ _ _ rfl).trans rfl
        have z5 : (w.alloc (.cells #[.int .i64 id, .string nm, .int .i64 rk, .bool false, .bool true, .bool true, .int .i64 k] 27)).cell? ⟨w.heap.size, 5, none⟩ = some (.bool true) := (World.cell?_alloc_at _ _ _ _ rfl).trans rfl
        have z6 : (w.alloc (.cells #[.int .i64 id, .string nm, .int .i64 rk, .bool false, .bool true, .bool true, .int .i64 k] 27)).cell? ⟨w.heap.size, 6, none⟩ = some (.int .i64 k) := (World.cell?_alloc_at _ _ _ _ rfl).trans rfl
        generalize w.alloc (.cells #[.int .i64 id, .string nm, .int .i64 rk, .bool false, .bool true, .bool true, .int .i64 k] 27) = W0 at *
        obtain ⟨bx, hbx⟩ : ∃ bx, bx = w.heap.size := ⟨_, rfl⟩
        rw [← hbx] at z0 z1 z2 z3 z4 z5 z6
        rw [← hbx]
        clear hbx
        have g0 := cell_after z0
        have g1 := cell_after z1
        have g2 := cell_after z2
        refine wp_region_after (by kernel_rfl) (by kernel_rfl) ?_
        repeat (go_big_quiet_step ((go_at_call 57; exact Calls.after (HI.out _ _ (by omega)))))
        refine wpQuiet_nil ?_
        intro nq
        rw [← HT0.out]
        have hbq := btr hb0 nq.bel
        have y3 := cell_bw z3 nq.bel
        have y4 := cell_bw z4 nq.bel
        have y5 := cell_bw z5 nq.bel
        have y6 := cell_bw z6 nq.bel
        generalize nq.val = w1 at *
        clear nq g0 g1 g2 z0 z1 z2 z3 z4 z5 z6 HT0
        have v6 : w1.drew.cell? ⟨bx, 6, none⟩ = some (.int .i64 k) := y6
        go_wp2_with fail
        go_region_with ((go_at_call 58; refine (HN.out _).mono ?_; rintro en w8 ⟨b8, rfl, hc8, hb8⟩; have c8 := hc8; have v6 := cell_bw v6 hb8; have hb9 := btr hbq (btr (Below.refl _ _).drew hb8)))
        all_goals (go_wp2; go_ret; exact ⟨by rw [HT.out]; rfl, hb9⟩)
  | true =>
    cases d with
    | false =>
      cases a with
      | false =>
        have HT : Hid (lineB ⟨id, nm, rk, true, false, false, k⟩ = ((((((((numB id ++ (⟨#[32]⟩ : ByteArray)) ++ nm) ++ (⟨#[32, 114, 97, 110, 107, 32]⟩ : ByteArray)) ++ numB rk)) ++ (⟨#[32, 115, 101, 99, 111, 110, 100]⟩ : ByteArray)) ++ (⟨#[32, 98, 121, 32]⟩ : ByteArray)) ++ needW k)) := rfl
        generalize lineB ⟨id, nm, rk, true, false, false, k⟩ = LB at *
        generalize needW k = W at *
        generalize hD1e : numB id = D1 at *
        generalize hD2e : numB rk = D2 at *
        have hrD0 : ∀ w, (Op.stringOp .add D1 (⟨#[32]⟩ : ByteArray)).run Tryd.prog w = .ok (.string (D1 ++ (⟨#[32]⟩ : ByteArray))) w := add_run 2 1 hD1 (by decide) (by decide)
        have hzD0 := app_le hD1 (show (⟨#[32]⟩ : ByteArray).size ≤ 1 from (by decide))
        have hrD1 : ∀ w, (Op.stringOp .add (D1 ++ (⟨#[32]⟩ : ByteArray)) nm).run Tryd.prog w = .ok (.string ((D1 ++ (⟨#[32]⟩ : ByteArray)) ++ nm)) w := add_run 3 10 hzD0 hnm (by decide)
        have hzD1 := app_le hzD0 (show nm.size ≤ 10 from hnm)
        have hrD2 : ∀ w, (Op.stringOp .add ((D1 ++ (⟨#[32]⟩ : ByteArray)) ++ nm) (⟨#[32, 114, 97, 110, 107, 32]⟩ : ByteArray)).run Tryd.prog w = .ok (.string (((D1 ++ (⟨#[32]⟩ : ByteArray)) ++ nm) ++ (⟨#[32, 114, 97, 110, 107, 32]⟩ : ByteArray))) w := add_run 13 6 hzD1 (by decide) (by decide)
        have hzD2 := app_le hzD1 (show (⟨#[32, 114, 97, 110, 107, 32]⟩ : ByteArray).size ≤ 6 from (by decide))
        have hrD3 : ∀ w, (Op.stringOp .add (((D1 ++ (⟨#[32]⟩ : ByteArray)) ++ nm) ++ (⟨#[32, 114, 97, 110, 107, 32]⟩ : ByteArray)) D2).run Tryd.prog w = .ok (.string ((((D1 ++ (⟨#[32]⟩ : ByteArray)) ++ nm) ++ (⟨#[32, 114, 97, 110, 107, 32]⟩ : ByteArray)) ++ D2)) w := add_run 19 2 hzD2 hD2 (by decide)
        have hzD3 := app_le hzD2 (show D2.size ≤ 2 from hD2)
        have hT0 : ((((D1 ++ (⟨#[32]⟩ : ByteArray)) ++ nm) ++ (⟨#[32, 114, 97, 110, 107, 32]⟩ : ByteArray)) ++ D2).size ≤ 21 := hzD3
        clear hzD0 hzD1 hzD2 hzD3
        obtain ⟨T0, hT0e⟩ : ∃ T0 : ByteArray, T0 = ((((D1 ++ (⟨#[32]⟩ : ByteArray)) ++ nm) ++ (⟨#[32, 114, 97, 110, 107, 32]⟩ : ByteArray)) ++ D2) := ⟨_, rfl⟩
        rw [← hT0e] at HT hT0
        have HT0 := Lib.hid hT0e
        clear hT0e
        have hrT0 : ∀ w, (Op.stringOp .add T0 (⟨#[32, 115, 101, 99, 111, 110, 100]⟩ : ByteArray)).run Tryd.prog w = .ok (.string (T0 ++ (⟨#[32, 115, 101, 99, 111, 110, 100]⟩ : ByteArray))) w := add_run 21 7 hT0 (by decide) (by decide)
        have hzT0 := app_le hT0 (show (⟨#[32, 115, 101, 99, 111, 110, 100]⟩ : ByteArray).size ≤ 7 from (by decide))
        have hrT1 : ∀ w, (Op.stringOp .add (T0 ++ (⟨#[32, 115, 101, 99, 111, 110, 100]⟩ : ByteArray)) (⟨#[32, 98, 121, 32]⟩ : ByteArray)).run Tryd.prog w = .ok (.string ((T0 ++ (⟨#[32, 115, 101, 99, 111, 110, 100]⟩ : ByteArray)) ++ (⟨#[32, 98, 121, 32]⟩ : ByteArray))) w := add_run 28 4 hzT0 (by decide) (by decide)
        have hzT1 := app_le hzT0 (show (⟨#[32, 98, 121, 32]⟩ : ByteArray).size ≤ 4 from (by decide))
        have hrT2 : ∀ w, (Op.stringOp .add ((T0 ++ (⟨#[32, 115, 101, 99, 111, 110, 100]⟩ : ByteArray)) ++ (⟨#[32, 98, 121, 32]⟩ : ByteArray)) W).run Tryd.prog w = .ok (.string (((T0 ++ (⟨#[32, 115, 101, 99, 111, 110, 100]⟩ : ByteArray)) ++ (⟨#[32, 98, 121, 32]⟩ : ByteArray)) ++ W)) w := add_run 32 10 hzT1 hW (by decide)
        have hzT2 := app_le hzT1 (show W.size ≤ 10 from hW)
        clear hzT0 hzT1 hzT2
        go_enter Tryd.func33, Tryd.ntmps33
        go_wp2_with fail
        have hb0 : Below w.heap.size w (w.alloc (.cells #[.int .i64 id, .string nm, .int .i64 rk, .bool true, .bool false, .bool false, .int .i64 k] 27)) := bnew (Below.refl _ _) _
        have z0 : (w.alloc (.cells #[.int .i64 id, .string nm, .int .i64 rk, .bool true, .bool false, .bool false, .int .i64 k] 27)).cell? ⟨w.heap.size, 0, none⟩ = some (.int .i64 id) := (World.cell?_alloc_at _ _ _ _ rfl).trans rfl
        have z1 : (w.alloc (.cells #[.int .i64 id, .string nm, .int .i64 rk, .bool true, .bool false, .bool false, .int .i64 k] 27)).cell? ⟨w.heap.size, 1, none⟩ = some (.string nm) := (World.cell?_alloc_at _ _ _ _ rfl).trans rfl
        have z2 : (w.alloc (.cells #[.int .i64 id, .string nm, .int .i64 rk, .bool true, .bool false, .bool false, .int .i64 k] 27)).cell? ⟨w.heap.size, 2, none⟩ = some (.int .i64 rk) := (World.cell?_alloc_at _ _ _ _ rfl).trans rfl
        have z3 : (w.alloc (.cells #[.int .i64 id, .string nm, .int .i64 rk, .bool true, .bool false, .bool false, .int .i64 k] 27)).cell? ⟨w.heap.size, 3, none⟩ = some (.bool true) := (World.cell?_alloc_at _ _ _ _ rfl).trans rfl
        have z4 : (w.alloc (.cells #[.int .i64 id, .string nm, .int .i64 rk, .bool true, .bool false, .bool false, .int .i64 k] 27)).cell? ⟨w.heap.size, 4, none⟩ = some (.bool false) := (World.cell?_alloc_at _ _ _ _ rfl).trans rfl
        have z5 : (w.alloc (.cells #[.int .i64 id, .string nm, .int .i64 rk, .bool true, .bool false, .bool false, .int .i64 k] 27)).cell? ⟨w.heap.size, 5, none⟩ = some (.bool false) := (World.cell?_alloc_at _ _ _ _ rfl).trans rfl
        have z6 : (w.alloc (.cells #[.int .i64 id, .string nm, .int .i64 rk, .bool true, .bool false, .bool false, .int .i64 k] 27)).cell? ⟨w.heap.size, 6, none⟩ = some (.int .i64 k) := (World.cell?_alloc_at _ _ _ _ rfl).trans rfl
        generalize w.alloc (.cells #[.int .i64 id, .string nm, .int .i64 rk, .bool true, .bool false, .bool false, .int .i64 k] 27) = W0 at *
        obtain ⟨bx, hbx⟩ : ∃ bx, bx = w.heap.size := ⟨_, rfl⟩
        rw [← hbx] at z0 z1 z2 z3 z4 z5 z6
        rw [← hbx]
        clear hbx
        have g0 := cell_after z0
        have g1 := cell_after z1
        have g2 := cell_after z2
        refine wp_region_after (by kernel_rfl) (by kernel_rfl) ?_
        repeat (go_big_quiet_step ((go_at_call 57; exact Calls.after (HI.out _ _ (by omega)))))
        refine wpQuiet_nil ?_
        intro nq
        rw [← HT0.out]
        have hbq := btr hb0 nq.bel
        have y3 := cell_bw z3 nq.bel
        have y4 := cell_bw z4 nq.bel
        have y5 := cell_bw z5 nq.bel
        have y6 := cell_bw z6 nq.bel
        generalize nq.val = w1 at *
        clear nq g0 g1 g2 z0 z1 z2 z3 z4 z5 z6 HT0
        have v6 : w1.drew.cell? ⟨bx, 6, none⟩ = some (.int .i64 k) := y6
        go_wp2_with fail
        go_region_with ((go_at_call 58; refine (HN.out _).mono ?_; rintro en w8 ⟨b8, rfl, hc8, hb8⟩; have c8 := hc8; have v6 := cell_bw v6 hb8; have hb9 := btr hbq (btr (Below.refl _ _).drew hb8)))
        all_goals (go_wp2; go_ret; exact ⟨by rw [HT.out]; rfl, hb9⟩)
      | true =>
        have HT : Hid (lineB ⟨id, nm, rk, true, false, true, k⟩ = (((((((((numB id ++ (⟨#[32]⟩ : ByteArray)) ++ nm) ++ (⟨#[32, 114, 97, 110, 107, 32]⟩ : ByteArray)) ++ numB rk)) ++ (⟨#[32, 115, 101, 99, 111, 110, 100]⟩ : ByteArray)) ++ (⟨#[32, 97, 109, 101, 110, 100]⟩ : ByteArray)) ++ (⟨#[32, 98, 121, 32]⟩ : ByteArray)) ++ needW k)) := rfl
        generalize lineB ⟨id, nm, rk, true, false, true, k⟩ = LB at *
        generalize needW k = W at *
        generalize hD1e : numB id = D1 at *
        generalize hD2e : numB rk = D2 at *
        have hrD0 : ∀ w, (Op.stringOp .add D1 (⟨#[32]⟩ : ByteArray)).run Tryd.prog w = .ok (.string (D1 ++ (⟨#[32]⟩ : ByteArray))) w := add_run 2 1 hD1 (by decide) (by decide)
        have hzD0 := app_le hD1 (show (⟨#[32]⟩ : ByteArray).size ≤ 1 from (by decide))
        have hrD1 : ∀ w, (Op.stringOp .add (D1 ++ (⟨#[32]⟩ : ByteArray)) nm).run Tryd.prog w = .ok (.string ((D1 ++ (⟨#[32]⟩ : ByteArray)) ++ nm)) w := add_run 3 10 hzD0 hnm (by decide)
        have hzD1 := app_le hzD0 (show nm.size ≤ 10 from hnm)
        have hrD2 : ∀ w, (Op.stringOp .add ((D1 ++ (⟨#[32]⟩ : ByteArray)) ++ nm) (⟨#[32, 114, 97, 110, 107, 32]⟩ : ByteArray)).run Tryd.prog w = .ok (.string (((D1 ++ (⟨#[32]⟩ : ByteArray)) ++ nm) ++ (⟨#[32, 114, 97, 110, 107, 32]⟩ : ByteArray))) w := add_run 13 6 hzD1 (by decide) (by decide)
        have hzD2 := app_le hzD1 (show (⟨#[32, 114, 97, 110, 107, 32]⟩ : ByteArray).size ≤ 6 from (by decide))
        have hrD3 : ∀ w, (Op.stringOp .add (((D1 ++ (⟨#[32]⟩ : ByteArray)) ++ nm) ++ (⟨#[32, 114, 97, 110, 107, 32]⟩ : ByteArray)) D2).run Tryd.prog w = .ok (.string ((((D1 ++ (⟨#[32]⟩ : ByteArray)) ++ nm) ++ (⟨#[32, 114, 97, 110, 107, 32]⟩ : ByteArray)) ++ D2)) w := add_run 19 2 hzD2 hD2 (by decide)
        have hzD3 := app_le hzD2 (show D2.size ≤ 2 from hD2)
        have hT0 : ((((D1 ++ (⟨#[32]⟩ : ByteArray)) ++ nm) ++ (⟨#[32, 114, 97, 110, 107, 32]⟩ : ByteArray)) ++ D2).size ≤ 21 := hzD3
        clear hzD0 hzD1 hzD2 hzD3
        obtain ⟨T0, hT0e⟩ : ∃ T0 : ByteArray, T0 = ((((D1 ++ (⟨#[32]⟩ : ByteArray)) ++ nm) ++ (⟨#[32, 114, 97, 110, 107, 32]⟩ : ByteArray)) ++ D2) := ⟨_, rfl⟩
        rw [← hT0e] at HT hT0
        have HT0 := Lib.hid hT0e
        clear hT0e
        have hrT0 : ∀ w, (Op.stringOp .add T0 (⟨#[32, 115, 101, 99, 111, 110, 100]⟩ : ByteArray)).run Tryd.prog w = .ok (.string (T0 ++ (⟨#[32, 115, 101, 99, 111, 110, 100]⟩ : ByteArray))) w := add_run 21 7 hT0 (by decide) (by decide)
        have hzT0 := app_le hT0 (show (⟨#[32, 115, 101, 99, 111, 110, 100]⟩ : ByteArray).size ≤ 7 from (by decide))
        have hrT1 : ∀ w, (Op.stringOp .add (T0 ++ (⟨#[32, 115, 101, 99, 111, 110, 100]⟩ : ByteArray)) (⟨#[32, 97, 109, 101, 110, 100]⟩ : ByteArray)).run Tryd.prog w = .ok (.string ((T0 ++ (⟨#[32, 115, 101, 99, 111, 110, 100]⟩ : ByteArray)) ++ (⟨#[32, 97, 109, 101, 110, 100]⟩ : ByteArray))) w := add_run 28 6 hzT0 (by decide) (by decide)
        have hzT1 := app_le hzT0 (show (⟨#[32, 97, 109, 101, 110, 100]⟩ : ByteArray).size ≤ 6 from (by decide))
        have hrT2 : ∀ w, (Op.stringOp .add ((T0 ++ (⟨#[32, 115, 101, 99, 111, 110, 100]⟩ : ByteArray)) ++ (⟨#[32, 97, 109, 101, 110, 100]⟩ : ByteArray)) (⟨#[32, 98, 121, 32]⟩ : ByteArray)).run Tryd.prog w = .ok (.string (((T0 ++ (⟨#[32, 115, 101, 99, 111, 110, 100]⟩ : ByteArray)) ++ (⟨#[32, 97, 109, 101, 110, 100]⟩ : ByteArray)) ++ (⟨#[32, 98, 121, 32]⟩ : ByteArray))) w := add_run 34 4 hzT1 (by decide) (by decide)
        have hzT2 := app_le hzT1 (show (⟨#[32, 98, 121, 32]⟩ : ByteArray).size ≤ 4 from (by decide))
        have hrT3 : ∀ w, (Op.stringOp .add (((T0 ++ (⟨#[32, 115, 101, 99, 111, 110, 100]⟩ : ByteArray)) ++ (⟨#[32, 97, 109, 101, 110, 100]⟩ : ByteArray)) ++ (⟨#[32, 98, 121, 32]⟩ : ByteArray)) W).run Tryd.prog w = .ok (.string ((((T0 ++ (⟨#[32, 115, 101, 99, 111, 110, 100]⟩ : ByteArray)) ++ (⟨#[32, 97, 109, 101, 110, 100]⟩ : ByteArray)) ++ (⟨#[32, 98, 121, 32]⟩ : ByteArray)) ++ W)) w := add_run 38 10 hzT2 hW (by decide)
        have hzT3 := app_le hzT2 (show W.size ≤ 10 from hW)
        clear hzT0 hzT1 hzT2 hzT3
        go_enter Tryd.func33, Tryd.ntmps33
        go_wp2_with fail
        have hb0 : Below w.heap.size w (w.alloc (.cells #[.int .i64 id, .string nm, .int .i64 rk, .bool true, .bool false, .bool true, .int .i64 k] 27)) := bnew (Below.refl _ _) _
        have z0 : (w.alloc (.cells #[.int .i64 id, .string nm, .int .i64 rk, .bool true, .bool false, .bool true, .int .i64 k] 27)).cell? ⟨w.heap.size, 0, none⟩ = some (.int .i64 id) := (World.cell?_alloc_at _ _ _ _ rfl).trans rfl
        have z1 : (w.alloc (.cells #[.int .i64 id, .string nm, .int .i64 rk, .bool true, .bool false, .bool true, .int .i64 k] 27)).cell? ⟨w.heap.size, 1, none⟩ = some (.string nm) := (World.cell?_alloc_at _ _ _ _ rfl).trans rfl
        have z2 : (w.alloc (.cells #[.int .i64 id, .string nm, .int .i64 rk, .bool true, .bool false, .bool true, .int .i64 k] 27)).cell? ⟨w.heap.size, 2, none⟩ = some (.int .i64 rk) := (World.cell?_alloc_at _ _ _ _ rfl).trans rfl
        have z3 : (w.alloc (.cells #[.int .i64 id, .string nm, .int .i64 rk, .bool true, .bool false, .bool true, .int .i64 k] 27)).cell? ⟨w.heap.size, 3, none⟩ = some (.bool true) := (World.cell?_alloc_at _ _ _ _ rfl).trans rfl
        have z4 : (w.alloc (.cells #[.int .i64 id, .string nm, .int .i64 rk, .bool true, .bool false, .bool true, .int .i64 k] 27)).cell? ⟨w.heap.size, 4, none⟩ = some (.bool false) := (World.cell?_alloc_at _ _ _ _ rfl).trans rfl
        have z5 : (w.alloc (.cells #[.int .i64 id, .string nm, .int .i64 rk, .bool true, .bool false, .bool true, .int .i64 k] 27)).cell? ⟨w.heap.size, 5, none⟩ = some (.bool true) := (World.cell?_alloc_at _ _ _ _ rfl).trans rfl
        have z6 : (w.alloc (.cells #[.int .i64 id, .string nm, .int .i64 rk, .bool true, .bool false, .bool true, .int .i64 k] 27)).cell? ⟨w.heap.size, 6, none⟩ = some (.int .i64 k) := (World.cell?_alloc_at _ _ _ _ rfl).trans rfl
        generalize w.alloc (.cells #[.int .i64 id, .string nm, .int .i64 rk, .bool true, .bool false, .bool true, .int .i64 k] 27) = W0 at *
        obtain ⟨bx, hbx⟩ : ∃ bx, bx = w.heap.size := ⟨_, rfl⟩
        rw [← hbx] at z0 z1 z2 z3 z4 z5 z6
        rw [← hbx]
        clear hbx
        have g0 := cell_after z0
        have g1 := cell_after z1
        have g2 := cell_after z2
        refine wp_region_after (by kernel_rfl) (by kernel_rfl) ?_
        repeat (go_big_quiet_step ((go_at_call 57; exact Calls.after (HI.out _ _ (by omega)))))
        refine wpQuiet_nil ?_
        intro nq
        rw [← HT0.out]
        have hbq := btr hb0 nq.bel
        have y3 := cell_bw z3 nq.bel
        have y4 := cell_bw z4 nq.bel
        have y5 := cell_bw z5 nq.bel
        have y6 := cell_bw z6 nq.bel
        generalize nq.val = w1 at *
        clear nq g0 g1 g2 z0 z1 z2 z3 z4 z5 z6 HT0
        have v6 : w1.drew.cell? ⟨bx, 6, none⟩ = some (.int .i64 k) := y6
        go_wp2_with fail
        go_region_with ((go_at_call 58; refine (HN.out _).mono ?_; rintro en w8 ⟨b8, rfl, hc8, hb8⟩; have c8 := hc8; have v6 := cell_bw v6 hb8; have hb9 := btr hbq (btr (Below.refl _ _).drew hb8)))
        all_goals (go_wp2; go_ret; exact ⟨by rw [HT.out]; rfl, hb9⟩)
    | true =>
      cases a with
      | false =>
        have HT : Hid (lineB ⟨id, nm, rk, true, true, false, k⟩ = (((((((((numB id ++ (⟨#[32]⟩ : ByteArray)) ++ nm) ++ (⟨#[32, 114, 97, 110, 107, 32]⟩ : ByteArray)) ++ numB rk)) ++ (⟨#[32, 115, 101, 99, 111, 110, 100]⟩ : ByteArray)) ++ (⟨#[32, 100, 101, 98, 97, 116, 101]⟩ : ByteArray)) ++ (⟨#[32, 98, 121, 32]⟩ : ByteArray)) ++ needW k)) := rfl
        generalize lineB ⟨id, nm, rk, true, true, false, k⟩ = LB at *
        generalize needW k = W at *
        generalize hD1e : numB id = D1 at *
        generalize hD2e : numB rk = D2 at *
        have hrD0 : ∀ w, (Op.stringOp .add D1 (⟨#[32]⟩ : ByteArray)).run Tryd.prog w = .ok (.string (D1 ++ (⟨#[32]⟩ : ByteArray))) w := add_run 2 1 hD1 (by decide) (by decide)
        have hzD0 := app_le hD1 (show (⟨#[32]⟩ : ByteArray).size ≤ 1 from (by decide))
        have hrD1 : ∀ w, (Op.stringOp .add (D1 ++ (⟨#[32]⟩ : ByteArray)) nm).run Tryd.prog w = .ok (.string ((D1 ++ (⟨#[32]⟩ : ByteArray)) ++ nm)) w := add_run 3 10 hzD0 hnm (by decide)
        have hzD1 := app_le hzD0 (show nm.size ≤ 10 from hnm)
        have hrD2 : ∀ w, (Op.stringOp .add ((D1 ++ (⟨#[32]⟩ : ByteArray)) ++ nm) (⟨#[32, 114, 97, 110, 107, 32]⟩ : ByteArray)).run Tryd.prog w = .ok (.string (((D1 ++ (⟨#[32]⟩ : ByteArray)) ++ nm) ++ (⟨#[32, 114, 97, 110, 107, 32]⟩ : ByteArray))) w := add_run 13 6 hzD1 (by decide) (by decide)
        have hzD2 := app_le hzD1 (show (⟨#[32, 114, 97, 110, 107, 32]⟩ : ByteArray).size ≤ 6 from (by decide))
        have hrD3 : ∀ w, (Op.stringOp .add (((D1 ++ (⟨#[32]⟩ : ByteArray)) ++ nm) ++ (⟨#[32, 114, 97, 110, 107, 32]⟩ : ByteArray)) D2).run Tryd.prog w = .ok (.string ((((D1 ++ (⟨#[32]⟩ : ByteArray)) ++ nm) ++ (⟨#[32, 114, 97, 110, 107, 32]⟩ : ByteArray)) ++ D2)) w := add_run 19 2 hzD2 hD2 (by decide)
        have hzD3 := app_le hzD2 (show D2.size ≤ 2 from hD2)
        have hT0 : ((((D1 ++ (⟨#[32]⟩ : ByteArray)) ++ nm) ++ (⟨#[32, 114, 97, 110, 107, 32]⟩ : ByteArray)) ++ D2).size ≤ 21 := hzD3
        clear hzD0 hzD1 hzD2 hzD3
        obtain ⟨T0, hT0e⟩ : ∃ T0 : ByteArray, T0 = ((((D1 ++ (⟨#[32]⟩ : ByteArray)) ++ nm) ++ (⟨#[32, 114, 97, 110, 107, 32]⟩ : ByteArray)) ++ D2) := ⟨_, rfl⟩
        rw [← hT0e] at HT hT0
        have HT0 := Lib.hid hT0e
        clear hT0e
        have hrT0 : ∀ w, (Op.stringOp .add T0 (⟨#[32, 115, 101, 99, 111, 110, 100]⟩ : ByteArray)).run Tryd.prog w = .ok (.string (T0 ++ (⟨#[32, 115, 101, 99, 111, 110, 100]⟩ : ByteArray))) w := add_run 21 7 hT0 (by decide) (by decide)
        have hzT0 := app_le hT0 (show (⟨#[32, 115, 101, 99, 111, 110, 100]⟩ : ByteArray).size ≤ 7 from (by decide))
        have hrT1 : ∀ w, (Op.stringOp .add (T0 ++ (⟨#[32, 115, 101, 99, 111, 110, 100]⟩ : ByteArray)) (⟨#[32, 100, 101, 98, 97, 116, 101]⟩ : ByteArray)).run Tryd.prog w = .ok (.string ((T0 ++ (⟨#[32, 115, 101, 99, 111, 110, 100]⟩ : ByteArray)) ++ (⟨#[32, 100, 101, 98, 97, 116, 101]⟩ : ByteArray))) w := add_run 28 7 hzT0 (by decide) (by decide)
        have hzT1 := app_le hzT0 (show (⟨#[32, 100, 101, 98, 97, 116, 101]⟩ : ByteArray).size ≤ 7 from (by decide))
        have hrT2 : ∀ w, (Op.stringOp .add ((T0 ++ (⟨#[32, 115, 101, 99, 111, 110, 100]⟩ : ByteArray)) ++ (⟨#[32, 100, 101, 98, 97, 116, 101]⟩ : ByteArray)) (⟨#[32, 98, 121, 32]⟩ : ByteArray)).run Tryd.prog w = .ok (.string (((T0 ++ (⟨#[32, 115, 101, 99, 111, 110, 100]⟩ : ByteArray)) ++ (⟨#[32, 100, 101, 98, 97, 116, 101]⟩ : ByteArray)) ++ (⟨#[32, 98, 121, 32]⟩ : ByteArray))) w := add_run 35 4 hzT1 (by decide) (by decide)
        have hzT2 := app_le hzT1 (show (⟨#[32, 98, 121, 32]⟩ : ByteArray).size ≤ 4 from (by decide))
        have hrT3 : ∀ w, (Op.stringOp .add (((T0 ++ (⟨#[32, 115, 101, 99, 111, 110, 100]⟩ : ByteArray)) ++ (⟨#[32, 100, 101, 98, 97, 116, 101]⟩ : ByteArray)) ++ (⟨#[32, 98, 121, 32]⟩ : ByteArray)) W).run Tryd.prog w = .ok (.string ((((T0 ++ (⟨#[32, 115, 101, 99, 111, 110, 100]⟩ : ByteArray)) ++ (⟨#[32, 100, 101, 98, 97, 116, 101]⟩ : ByteArray)) ++ (⟨#[32, 98, 121, 32]⟩ : ByteArray)) ++ W)) w := add_run 39 10 hzT2 hW (by decide)
        have hzT3 := app_le hzT2 (show W.size ≤ 10 from hW)
        clear hzT0 hzT1 hzT2 hzT3
        go_enter Tryd.func33, Tryd.ntmps33
        go_wp2_with fail
        have hb0 : Below w.heap.size w (w.alloc (.cells #[.int .i64 id, .string nm, .int .i64 rk, .bool true, .bool true, .bool false, .int .i64 k] 27)) := bnew (Below.refl _ _) _
        have z0 : (w.alloc (.cells #[.int .i64 id, .string nm, .int .i64 rk, .bool true, .bool true, .bool false, .int .i64 k] 27)).cell? ⟨w.heap.size, 0, none⟩ = some (.int .i64 id) := (World.cell?_alloc_at _ _ _ _ rfl).trans rfl
        have z1 : (w.alloc (.cells #[.int .i64 id, .string nm, .int .i64 rk, .bool true, .bool true, .bool false, .int .i64 k] 27)).cell? ⟨w.heap.size, 1, none⟩ = some (.string nm) := (World.cell?_alloc_at _ _ _ _ rfl).trans rfl
        have z2 : (w.alloc (.cells #[.int .i64 id, .string nm, .int .i64 rk, .bool true, .bool true, .bool false, .int .i64 k] 27)).cell? ⟨w.heap.size, 2, none⟩ = some (.int .i64 rk) := (World.cell?_alloc_at _ _ _ _ rfl).trans rfl
        have z3 : (w.alloc (.cells #[.int .i64 id, .string nm, .int .i64 rk, .bool true, .bool true, .bool false, .int .i64 k] 27)).cell? ⟨w.heap.size, 3, none⟩ = some (.bool true) := (World.cell?_alloc_at _ _ _ _ rfl).trans rfl
        have z4 : (w.alloc (.cells #[.int .i64 id, .string nm, .int .i64 rk, .bool true, .bool true, .bool false, .int .i64 k] 27)).cell? ⟨w.heap.size, 4, none⟩ = some (.bool true) := (World.cell?_alloc_at _ _ _ _ rfl).trans rfl
        have z5 : (w.alloc (.cells #[.int .i64 id, .string nm, .int .i64 rk, .bool true, .bool true, .bool false, .int .i64 k] 27)).cell? ⟨w.heap.size, 5, none⟩ = some (.bool false) := (World.cell?_alloc_at _ _ _ _ rfl).trans rfl
        have z6 : (w.alloc (.cells #[.int .i64 id, .string nm, .int .i64 rk, .bool true, .bool true, .bool false, .int .i64 k] 27)).cell? ⟨w.heap.size, 6, none⟩ = some (.int .i64 k) := (World.cell?_alloc_at _ _ _ _ rfl).trans rfl
        generalize w.alloc (.cells #[.int .i64 id, .string nm, .int .i64 rk, .bool true, .bool true, .bool false, .int .i64 k] 27) = W0 at *
        obtain ⟨bx, hbx⟩ : ∃ bx, bx = w.heap.size := ⟨_, rfl⟩
        rw [← hbx] at z0 z1 z2 z3 z4 z5 z6
        rw [← hbx]
        clear hbx
        have g0 := cell_after z0
        have g1 := cell_after z1
        have g2 := cell_after z2
        refine wp_region_after (by kernel_rfl) (by kernel_rfl) ?_
        repeat (go_big_quiet_step ((go_at_call 57; exact Calls.after (HI.out _ _ (by omega)))))
        refine wpQuiet_nil ?_
        intro nq
        rw [← HT0.out]
        have hbq := btr hb0 nq.bel
        have y3 := cell_bw z3 nq.bel
        have y4 := cell_bw z4 nq.bel
        have y5 := cell_bw z5 nq.bel
        have y6 := cell_bw z6 nq.bel
        generalize nq.val = w1 at *
        clear nq g0 g1 g2 z0 z1 z2 z3 z4 z5 z6 HT0
        have v6 : w1.drew.cell? ⟨bx, 6, none⟩ = some (.int .i64 k) := y6
        go_wp2_with fail
        go_region_with ((go_at_call 58; refine (HN.out _).mono ?_; rintro en w8 ⟨b8, rfl, hc8, hb8⟩; have c8 := hc8; have v6 := cell_bw v6 hb8; have hb9 := btr hbq (btr (Below.refl _ _).drew hb8)))
        all_goals (go_wp2; go_ret; exact ⟨by rw [HT.out]; rfl, hb9⟩)
      | true =>
        have HT : Hid (lineB ⟨id, nm, rk, true, true, true, k⟩ = ((((((((((numB id ++ (⟨#[32]⟩ : ByteArray)) ++ nm) ++ (⟨#[32, 114, 97, 110, 107, 32]⟩ : ByteArray)) ++ numB rk)) ++ (⟨#[32, 115, 101, 99, 111, 110, 100]⟩ : ByteArray)) ++ (⟨#[32, 100, 101, 98, 97, 116, 101]⟩ : ByteArray)) ++ (⟨#[32, 97, 109, 101, 110, 100]⟩ : ByteArray)) ++ (⟨#[32, 98, 121, 32]⟩ : ByteArray)) ++ needW k)) := rfl
        generalize lineB ⟨id, nm, rk, true, true, true, k⟩ = LB at *
        generalize needW k = W at *
        generalize hD1e : numB id = D1 at *
        generalize hD2e : numB rk = D2 at *
        have hrD0 : ∀ w, (Op.stringOp .add D1 (⟨#[32]⟩ : ByteArray)).run Tryd.prog w = .ok (.string (D1 ++ (⟨#[32]⟩ : ByteArray))) w := add_run 2 1 hD1 (by decide) (by decide)
        have hzD0 := app_le hD1 (show (⟨#[32]⟩ : ByteArray).size ≤ 1 from (by decide))
        have hrD1 : ∀ w, (Op.stringOp .add (D1 ++ (⟨#[32]⟩ : ByteArray)) nm).run Tryd.prog w = .ok (.string ((D1 ++ (⟨#[32]⟩ : ByteArray)) ++ nm)) w := add_run 3 10 hzD0 hnm (by decide)
        have hzD1 := app_le hzD0 (show nm.size ≤ 10 from hnm)
        have hrD2 : ∀ w, (Op.stringOp .add ((D1 ++ (⟨#[32]⟩ : ByteArray)) ++ nm) (⟨#[32, 114, 97, 110, 107, 32]⟩ : ByteArray)).run Tryd.prog w = .ok (.string (((D1 ++ (⟨#[32]⟩ : ByteArray)) ++ nm) ++ (⟨#[32, 114, 97, 110, 107, 32]⟩ : ByteArray))) w := add_run 13 6 hzD1 (by decide) (by decide)
        have hzD2 := app_le hzD1 (show (⟨#[32, 114, 97, 110, 107, 32]⟩ : ByteArray).size ≤ 6 from (by decide))
        have hrD3 : ∀ w, (Op.stringOp .add (((D1 ++ (⟨#[32]⟩ : ByteArray)) ++ nm) ++ (⟨#[32, 114, 97, 110, 107, 32]⟩ : ByteArray)) D2).run Tryd.prog w = .ok (.string ((((D1 ++ (⟨#[32]⟩ : ByteArray)) ++ nm) ++ (⟨#[32, 114, 97, 110, 107, 32]⟩ : ByteArray)) ++ D2)) w := add_run 19 2 hzD2 hD2 (by decide)
        have hzD3 := app_le hzD2 (show D2.size ≤ 2 from hD2)
        have hT0 : ((((D1 ++ (⟨#[32]⟩ : ByteArray)) ++ nm) ++ (⟨#[32, 114, 97, 110, 107, 32]⟩ : ByteArray)) ++ D2).size ≤ 21 := hzD3
        clear hzD0 hzD1 hzD2 hzD3
        obtain ⟨T0, hT0e⟩ : ∃ T0 : ByteArray, T0 = ((((D1 ++ (⟨#[32]⟩ : ByteArray)) ++ nm) ++ (⟨#[32, 114, 97, 110, 107, 32]⟩ : ByteArray)) ++ D2) := ⟨_, rfl⟩
        rw [← hT0e] at HT hT0
        have HT0 := Lib.hid hT0e
        clear hT0e
        have hrT0 : ∀ w, (Op.stringOp .add T0 (⟨#[32, 115, 101, 99, 111, 110, 100]⟩ : ByteArray)).run Tryd.prog w = .ok (.string (T0 ++ (⟨#[32, 115, 101, 99, 111, 110, 100]⟩ : ByteArray))) w := add_run 21 7 hT0 (by decide) (by decide)
        have hzT0 := app_le hT0 (show (⟨#[32, 115, 101, 99, 111, 110, 100]⟩ : ByteArray).size ≤ 7 from (by decide))
        have hrT1 : ∀ w, (Op.stringOp .add (T0 ++ (⟨#[32, 115, 101, 99, 111, 110, 100]⟩ : ByteArray)) (⟨#[32, 100, 101, 98, 97, 116, 101]⟩ : ByteArray)).run Tryd.prog w = .ok (.string ((T0 ++ (⟨#[32, 115, 101, 99, 111, 110, 100]⟩ : ByteArray)) ++ (⟨#[32, 100, 101, 98, 97, 116, 101]⟩ : ByteArray))) w := add_run 28 7 hzT0 (by decide) (by decide)
        have hzT1 := app_le hzT0 (show (⟨#[32, 100, 101, 98, 97, 116, 101]⟩ : ByteArray).size ≤ 7 from (by decide))
        have hrT2 : ∀ w, (Op.stringOp .add ((T0 ++ (⟨#[32, 115, 101, 99, 111, 110, 100]⟩ : ByteArray)) ++ (⟨#[32, 100, 101, 98, 97, 116, 101]⟩ : ByteArray)) (⟨#[32, 97, 109, 101, 110, 100]⟩ : ByteArray)).run Tryd.prog w = .ok (.string (((T0 ++ (⟨#[32, 115, 101, 99, 111, 110, 100]⟩ : ByteArray)) ++ (⟨#[32, 100, 101, 98, 97, 116, 101]⟩ : ByteArray)) ++ (⟨#[32, 97, 109, 101, 110, 100]⟩ : ByteArray))) w := add_run 35 6 hzT1 (by decide) (by decide)
        have hzT2 := app_le hzT1 (show (⟨#[32, 97, 109, 101, 110, 100]⟩ : ByteArray).size ≤ 6 from (by decide))
        have hrT3 : ∀ w, (Op.stringOp .add (((T0 ++ (⟨#[32, 115, 101, 99, 111, 110, 100]⟩ : ByteArray)) ++ (⟨#[32, 100, 101, 98, 97, 116, 101]⟩ : ByteArray)) ++ (⟨#[32, 97, 109, 101, 110, 100]⟩ : ByteArray)) (⟨#[32, 98, 121, 32]⟩ : ByteArray)).run Tryd.prog w = .ok (.string ((((T0 ++ (⟨#[32, 115, 101, 99, 111, 110, 100]⟩ : ByteArray)) ++ (⟨#[32, 100, 101, 98, 97, 116, 101]⟩ : ByteArray)) ++ (⟨#[32, 97, 109, 101, 110, 100]⟩ : ByteArray)) ++ (⟨#[32, 98, 121, 32]⟩ : ByteArray))) w := add_run 41 4 hzT2 (by decide) (by decide)
        have hzT3 := app_le hzT2 (show (⟨#[32, 98, 121, 32]⟩ : ByteArray).size ≤ 4 from (by decide))
        have hrT4 : ∀ w, (Op.stringOp .add ((((T0 ++ (⟨#[32, 115, 101, 99, 111, 110, 100]⟩ : ByteArray)) ++ (⟨#[32, 100, 101, 98, 97, 116, 101]⟩ : ByteArray)) ++ (⟨#[32, 97, 109, 101, 110, 100]⟩ : ByteArray)) ++ (⟨#[32, 98, 121, 32]⟩ : ByteArray)) W).run Tryd.prog w = .ok (.string (((((T0 ++ (⟨#[32, 115, 101, 99, 111, 110, 100]⟩ : ByteArray)) ++ (⟨#[32, 100, 101, 98, 97, 116, 101]⟩ : ByteArray)) ++ (⟨#[32, 97, 109, 101, 110, 100]⟩ : ByteArray)) ++ (⟨#[32, 98, 121, 32]⟩ : ByteArray)) ++ W)) w := add_run 45 10 hzT3 hW (by decide)
        have hzT4 := app_le hzT3 (show W.size ≤ 10 from hW)
        clear hzT0 hzT1 hzT2 hzT3 hzT4
        go_enter Tryd.func33, Tryd.ntmps33
        go_wp2_with fail
        have hb0 : Below w.heap.size w (w.alloc (.cells #[.int .i64 id, .string nm, .int .i64 rk, .bool true, .bool true, .bool true, .int .i64 k] 27)) := bnew (Below.refl _ _) _
        have z0 : (w.alloc (.cells #[.int .i64 id, .string nm, .int .i64 rk, .bool true, .bool true, .bool true, .int .i64 k] 27)).cell? ⟨w.heap.size, 0, none⟩ = some (.int .i64 id) := (World.cell?_alloc_at _ _ _ _ rfl).trans rfl
        have z1 : (w.alloc (.cells #[.int .i64 id, .string nm, .int .i64 rk, .bool true, .bool true, .bool true, .int .i64 k] 27)).cell? ⟨w.heap.size, 1, none⟩ = some (.string nm) := (World.cell?_alloc_at _ _ _ _ rfl).trans rfl
        have z2 : (w.alloc (.cells #[.int .i64 id, .string nm, .int .i64 rk, .bool true, .bool true, .bool true, .int .i64 k] 27)).cell? ⟨w.heap.size, 2, none⟩ = some (.int .i64 rk) := (World.cell?_alloc_at _ _ _ _ rfl).trans rfl
        have z3 : (w.alloc (.cells #[.int .i64 id, .string nm, .int .i64 rk, .bool true, .bool true, .bool true, .int .i64 k] 27)).cell? ⟨w.heap.size, 3, none⟩ = some (.bool true) := (World.cell?_alloc_at _ _ _ _ rfl).trans rfl
        have z4 : (w.alloc (.cells #[.int .i64 id, .string nm, .int .i64 rk, .bool true, .bool true, .bool true, .int .i64 k] 27)).cell? ⟨w.heap.size, 4, none⟩ = some (.bool true) := (World.cell?_alloc_at _ _ _ _ rfl).trans rfl
        have z5 : (w.alloc (.cells #[.int .i64 id, .string nm, .int .i64 rk, .bool true, .bool true, .bool true, .int .i64 k] 27)).cell? ⟨w.heap.size, 5, none⟩ = some (.bool true) := (World.cell?_alloc_at _ _ _ _ rfl).trans rfl
        have z6 : (w.alloc (.cells #[.int .i64 id, .string nm, .int .i64 rk, .bool true, .bool true, .bool true, .int .i64 k] 27)).cell? ⟨w.heap.size, 6, none⟩ = some (.int .i64 k) := (World.cell?_alloc_at _ _ _ _ rfl).trans rfl
        generalize w.alloc (.cells #[.int .i64 id, .string nm, .int .i64 rk, .bool true, .bool true, .bool true, .int .i64 k] 27) = W0 at *
        obtain ⟨bx, hbx⟩ : ∃ bx, bx = w.heap.size := ⟨_, rfl⟩
        rw [← hbx] at z0 z1 z2 z3 z4 z5 z6
        rw [← hbx]
        clear hbx
        have g0 := cell_after z0
        have g1 := cell_after z1
        have g2 := cell_after z2
        refine wp_region_after (by kernel_rfl) (by kernel_rfl) ?_
        repeat (go_big_quiet_step ((go_at_call 57; exact Calls.after (HI.out _ _ (by omega)))))
        refine wpQuiet_nil ?_
        intro nq
        rw [← HT0.out]
        have hbq := btr hb0 nq.bel
        have y3 := cell_bw z3 nq.bel
        have y4 := cell_bw z4 nq.bel
        have y5 := cell_bw z5 nq.bel
        have y6 := cell_bw z6 nq.bel
        generalize nq.val = w1 at *
        clear nq g0 g1 g2 z0 z1 z2 z3 z4 z5 z6 HT0
        have v6 : w1.drew.cell? ⟨bx, 6, none⟩ = some (.int .i64 k) := y6
        go_wp2_with fail
        go_region_with ((go_at_call 58; refine (HN.out _).mono ?_; rintro en w8 ⟨b8, rfl, hc8, hb8⟩; have c8 := hc8; have v6 := cell_bw v6 hb8; have hb9 := btr hbq (btr (Below.refl _ _).drew hb8)))
        all_goals (go_wp2; go_ret; exact ⟨by rw [HT.out]; rfl, hb9⟩)
theorem implLine_any (r : Rul) (w : World) (hs : r.name.size ≤ maxLen) (hneed0 : NeedAt w 0) :
    Calls Tryd.prog 11 #[.agg #[.int .i64 r.id, .string r.name, .int .i64 r.rank, .bool r.sec, .bool r.deb, .bool r.am, .int .i64 r.need]] w fun e w' => e = .returned (.tuple #[.string (lineR r).1, .bool (lineR r).2]) ∧ Below w.heap.size w w' := by
  have Hv : Hid (∀ w1, Calls Tryd.prog 26 #[.agg #[.int .i64 r.id, .string r.name, .int .i64 r.rank, .bool r.sec, .bool r.deb, .bool r.am, .int .i64 r.need]] w1 fun e w' => e = .returned (.bool (rulOk r)) ∧ Below w1.heap.size w1 w') := fun w1 => isRule_any r w1 hs
  by_cases hr : rulOk r = true
  · have HR : lineR r = (lineB r, true) := if_pos hr
    have Hl : Hid (∀ w1, Below w.heap.size w w1 → Calls Tryd.prog 34 #[.agg #[.int .i64 r.id, .string r.name, .int .i64 r.rank, .bool r.sec, .bool r.deb, .bool r.am, .int .i64 r.need]] w1 fun e w' => e = .returned (.string (lineB r)) ∧ Below w1.heap.size w1 w') := fun w1 hb => ruleLine_any r w1 hr (hneed0.below hb)
    rw [HR]
    rw [hr] at Hv
    generalize lineB r = S at *
    clear hr HR hs hneed0
    obtain ⟨id, nm, rk, s, d, a, nd⟩ := r
    simp only at *
    go_enter Tryd.func11, Tryd.ntmps11
    go_wp2_with fail
    have hb0 : Below w.heap.size w (w.alloc (.cells #[.int .i64 id, .string nm, .int .i64 rk, .bool s, .bool d, .bool a, .int .i64 nd] 27)) := bnew (Below.refl _ _) _
    have z0 : (w.alloc (.cells #[.int .i64 id, .string nm, .int .i64 rk, .bool s, .bool d, .bool a, .int .i64 nd] 27)).cell? ⟨w.heap.size, 0, none⟩ = some (.int .i64 id) := (World.cell?_alloc_at _ _ _ _ rfl).trans rfl
    have z1 : (w.alloc (.cells #[.int .i64 id, .string nm, .int .i64 rk, .bool s, .bool d, .bool a, .int .i64 nd] 27)).cell? ⟨w.heap.size, 1, none⟩ = some (.string nm) := (World.cell?_alloc_at _ _ _ _ rfl).trans rfl
    have z2 : (w.alloc (.cells #[.int .i64 id, .string nm, .int .i64 rk, .bool s, .bool d, .bool a, .int .i64 nd] 27)).cell? ⟨w.heap.size, 2, none⟩ = some (.int .i64 rk) := (World.cell?_alloc_at _ _ _ _ rfl).trans rfl
    have z3 : (w.alloc (.cells #[.int .i64 id, .string nm, .int .i64 rk, .bool s, .bool d, .bool a, .int .i64 nd] 27)).cell? ⟨w.heap.size, 3, none⟩ = some (.bool s) := (World.cell?_alloc_at _ _ _ _ rfl).trans rfl
    have z4 : (w.alloc (.cells #[.int .i64 id, .string nm, .int .i64 rk, .bool s, .bool d, .bool a, .int .i64 nd] 27)).cell? ⟨w.heap.size, 4, none⟩ = some (.bool d) := (World.cell?_alloc_at _ _ _ _ rfl).trans rfl
    have z5 : (w.alloc (.cells #[.int .i64 id, .string nm, .int .i64 rk, .bool s, .bool d, .bool a, .int .i64 nd] 27)).cell? ⟨w.heap.size, 5, none⟩ = some (.bool a) := (World.cell?_alloc_at _ _ _ _ rfl).trans rfl
    have z6 : (w.alloc (.cells #[.int .i64 id, .string nm, .int .i64 rk, .bool s, .bool d, .bool a, .int .i64 nd] 27)).cell? ⟨w.heap.size, 6, none⟩ = some (.int .i64 nd) := (World.cell?_alloc_at _ _ _ _ rfl).trans rfl
    generalize w.alloc (.cells #[.int .i64 id, .string nm, .int .i64 rk, .bool s, .bool d, .bool a, .int .i64 nd] 27) = W0 at *
    refine (Hv.out _).mono ?_
    rintro e w1 ⟨rfl, hb01⟩
    have hb1 := btr hb0 hb01
    have y0 := cell_bw z0 hb01
    have y1 := cell_bw z1 hb01
    have y2 := cell_bw z2 hb01
    have y3 := cell_bw z3 hb01
    have y4 := cell_bw z4 hb01
    have y5 := cell_bw z5 hb01
    have y6 := cell_bw z6 hb01
    go_wp2_with (go_at_call 34; refine (Hl.out _ hb1).mono ?_; rintro e w2 ⟨rfl, hb2⟩)
    exact bodyPost_ret (v := .tuple #[.string S, .bool true]) (by simp [results, Tryd.results11, go_sem]) rfl ⟨rfl, btr hb1 hb2⟩
  · have hr' : rulOk r = false := by simpa using hr
    have HR : lineR r = (⟨#[]⟩, false) := if_neg hr
    rw [HR]
    rw [hr'] at Hv
    clear hr hr' HR hs hneed0
    obtain ⟨id, nm, rk, s, d, a, nd⟩ := r
    simp only at *
    go_enter Tryd.func11, Tryd.ntmps11
    go_wp2_with fail
    have hb0 : Below w.heap.size w (w.alloc (.cells #[.int .i64 id, .string nm, .int .i64 rk, .bool s, .bool d, .bool a, .int .i64 nd] 27)) := bnew (Below.refl _ _) _
    have z0 : (w.alloc (.cells #[.int .i64 id, .string nm, .int .i64 rk, .bool s, .bool d, .bool a, .int .i64 nd] 27)).cell? ⟨w.heap.size, 0, none⟩ = some (.int .i64 id) := (World.cell?_alloc_at _ _ _ _ rfl).trans rfl
    have z1 : (w.alloc (.cells #[.int .i64 id, .string nm, .int .i64 rk, .bool s, .bool d, .bool a, .int .i64 nd] 27)).cell? ⟨w.heap.size, 1, none⟩ = some (.string nm) := (World.cell?_alloc_at _ _ _ _ rfl).trans rfl
    have z2 : (w.alloc (.cells #[.int .i64 id, .string nm, .int .i64 rk, .bool s, .bool d, .bool a, .int .i64 nd] 27)).cell? ⟨w.heap.size, 2, none⟩ = some (.int .i64 rk) := (World.cell?_alloc_at _ _ _ _ rfl).trans rfl
    have z3 : (w.alloc (.cells #[.int .i64 id, .string nm, .int .i64 rk, .bool s, .bool d, .bool a, .int .i64 nd] 27)).cell? ⟨w.heap.size, 3, none⟩ = some (.bool s) := (World.cell?_alloc_at _ _ _ _ rfl).trans rfl
    have z4 : (w.alloc (.cells #[.int .i64 id, .string nm, .int .i64 rk, .bool s, .bool d, .bool a, .int .i64 nd] 27)).cell? ⟨w.heap.size, 4, none⟩ = some (.bool d) := (World.cell?_alloc_at _ _ _ _ rfl).trans rfl
    have z5 : (w.alloc (.cells #[.int .i64 id, .string nm, .int .i64 rk, .bool s, .bool d, .bool a, .int .i64 nd] 27)).cell? ⟨w.heap.size, 5, none⟩ = some (.bool a) := (World.cell?_alloc_at _ _ _ _ rfl).trans rfl
    have z6 : (w.alloc (.cells #[.int .i64 id, .string nm, .int .i64 rk, .bool s, .bool d, .bool a, .int .i64 nd] 27)).cell? ⟨w.heap.size, 6, none⟩ = some (.int .i64 nd) := (World.cell?_alloc_at _ _ _ _ rfl).trans rfl
    generalize w.alloc (.cells #[.int .i64 id, .string nm, .int .i64 rk, .bool s, .bool d, .bool a, .int .i64 nd] 27) = W0 at *
    refine (Hv.out _).mono ?_
    rintro e w1 ⟨rfl, hb01⟩
    have hb1 := btr hb0 hb01
    have y0 := cell_bw z0 hb01
    have y1 := cell_bw z1 hb01
    have y2 := cell_bw z2 hb01
    have y3 := cell_bw z3 hb01
    have y4 := cell_bw z4 hb01
    have y5 := cell_bw z5 hb01
    have y6 := cell_bw z6 hb01
    go_wp2
    exact bodyPost_ret (v := .tuple #[.string ⟨#[]⟩, .bool false]) (by simp [results, Tryd.results11, go_sem]) rfl ⟨rfl, hb1⟩
theorem specLine_any (r : Rul) (w : World) (hs : r.name.size ≤ maxLen) :
    Calls Tryd.prog 9 #[.agg #[.int .i64 r.id, .string r.name, .int .i64 r.rank, .bool r.sec, .bool r.deb, .bool r.am, .int .i64 r.need]] w fun e w' => e = .returned (.tuple #[.string (lineR r).1, .bool (lineR r).2]) ∧ Below w.heap.size w w' := by
  have Hv : Hid (∀ w1, Calls Tryd.prog 32 #[.agg #[.int .i64 r.id, .string r.name, .int .i64 r.rank, .bool r.sec, .bool r.deb, .bool r.am, .int .i64 r.need]] w1 fun e w' => e = .returned (.bool (rulOk r)) ∧ Below w1.heap.size w1 w') := fun w1 => l2Single_any r w1 hs
  by_cases hr : rulOk r = true
  · have HR : lineR r = (lineB r, true) := if_pos hr
    have Hl : Hid (∀ w1, Below w.heap.size w w1 → Calls Tryd.prog 33 #[.agg #[.int .i64 r.id, .string r.name, .int .i64 r.rank, .bool r.sec, .bool r.deb, .bool r.am, .int .i64 r.need]] w1 fun e w' => e = .returned (.string (lineB r)) ∧ Below w1.heap.size w1 w') := fun w1 hb => l2Line_any r w1 hr
    rw [HR]
    rw [hr] at Hv
    generalize lineB r = S at *
    clear hr HR hs
    obtain ⟨id, nm, rk, s, d, a, nd⟩ := r
    simp only at *
    go_enter Tryd.func9, Tryd.ntmps9
    go_wp2_with fail
    have hb0 : Below w.heap.size w (w.alloc (.cells #[.int .i64 id, .string nm, .int .i64 rk, .bool s, .bool d, .bool a, .int .i64 nd] 27)) := bnew (Below.refl _ _) _
    have z0 : (w.alloc (.cells #[.int .i64 id, .string nm, .int .i64 rk, .bool s, .bool d, .bool a, .int .i64 nd] 27)).cell? ⟨w.heap.size, 0, none⟩ = some (.int .i64 id) := (World.cell?_alloc_at _ _ _ _ rfl).trans rfl
    have z1 : (w.alloc (.cells #[.int .i64 id, .string nm, .int .i64 rk, .bool s, .bool d, .bool a, .int .i64 nd] 27)).cell? ⟨w.heap.size, 1, none⟩ = some (.string nm) := (World.cell?_alloc_at _ _ _ _ rfl).trans rfl
    have z2 : (w.alloc (.cells #[.int .i64 id, .string nm, .int .i64 rk, .bool s, .bool d, .bool a, .int .i64 nd] 27)).cell? ⟨w.heap.size, 2, none⟩ = some (.int .i64 rk) := (World.cell?_alloc_at _ _ _ _ rfl).trans rfl
    have z3 : (w.alloc (.cells #[.int .i64 id, .string nm, .int .i64 rk, .bool s, .bool d, .bool a, .int .i64 nd] 27)).cell? ⟨w.heap.size, 3, none⟩ = some (.bool s) := (World.cell?_alloc_at _ _ _ _ rfl).trans rfl
    have z4 : (w.alloc (.cells #[.int .i64 id, .string nm, .int .i64 rk, .bool s, .bool d, .bool a, .int .i64 nd] 27)).cell? ⟨w.heap.size, 4, none⟩ = some (.bool d) := (World.cell?_alloc_at _ _ _ _ rfl).trans rfl
    have z5 : (w.alloc (.cells #[.int .i64 id, .string nm, .int .i64 rk, .bool s, .bool d, .bool a, .int .i64 nd] 27)).cell? ⟨w.heap.size, 5, none⟩ = some (.bool a) := (World.cell?_alloc_at _ _ _ _ rfl).trans rfl
    have z6 : (w.alloc (.cells #[.int .i64 id, .string nm, .int .i64 rk, .bool s, .bool d, .bool a, .int .i64 nd] 27)).cell? ⟨w.heap.size, 6, none⟩ = some (.int .i64 nd) := (World.cell?_alloc_at _ _ _ _ rfl).trans rfl
    generalize w.alloc (.cells #[.int .i64 id, .string nm, .int .i64 rk, .bool s, .bool d, .bool a, .int .i64 nd] 27) = W0 at *
    refine (Hv.out _).mono ?_
    rintro e w1 ⟨rfl, hb01⟩
    have hb1 := btr hb0 hb01
    have y0 := cell_bw z0 hb01
    have y1 := cell_bw z1 hb01
    have y2 := cell_bw z2 hb01
    have y3 := cell_bw z3 hb01
    have y4 := cell_bw z4 hb01
    have y5 := cell_bw z5 hb01
    have y6 := cell_bw z6 hb01
    go_wp2_with (go_at_call 33; refine (Hl.out _ hb1).mono ?_; rintro e w2 ⟨rfl, hb2⟩)
    exact bodyPost_ret (v := .tuple #[.string S, .bool true]) (by simp [results, Tryd.results9, go_sem]) rfl ⟨rfl, btr hb1 hb2⟩
  · have hr' : rulOk r = false := by simpa using hr
    have HR : lineR r = (⟨#[]⟩, false) := if_neg hr
    rw [HR]
    rw [hr'] at Hv
    clear hr hr' HR hs
    obtain ⟨id, nm, rk, s, d, a, nd⟩ := r
    simp only at *
    go_enter Tryd.func9, Tryd.ntmps9
    go_wp2_with fail
    have hb0 : Below w.heap.size w (w.alloc (.cells #[.int .i64 id, .string nm, .int .i64 rk, .bool s, .bool d, .bool a, .int .i64 nd] 27)) := bnew (Below.refl _ _) _
    have z0 : (w.alloc (.cells #[.int .i64 id, .string nm, .int .i64 rk, .bool s, .bool d, .bool a, .int .i64 nd] 27)).cell? ⟨w.heap.size, 0, none⟩ = some (.int .i64 id) := (World.cell?_alloc_at _ _ _ _ rfl).trans rfl
    have z1 : (w.alloc (.cells #[.int .i64 id, .string nm, .int .i64 rk, .bool s, .bool d, .bool a, .int .i64 nd] 27)).cell? ⟨w.heap.size, 1, none⟩ = some (.string nm) := (World.cell?_alloc_at _ _ _ _ rfl).trans rfl
    have z2 : (w.alloc (.cells #[.int .i64 id, .string nm, .int .i64 rk, .bool s, .bool d, .bool a, .int .i64 nd] 27)).cell? ⟨w.heap.size, 2, none⟩ = some (.int .i64 rk) := (World.cell?_alloc_at _ _ _ _ rfl).trans rfl
    have z3 : (w.alloc (.cells #[.int .i64 id, .string nm, .int .i64 rk, .bool s, .bool d, .bool a, .int .i64 nd] 27)).cell? ⟨w.heap.size, 3, none⟩ = some (.bool s) := (World.cell?_alloc_at _ _ _ _ rfl).trans rfl
    have z4 : (w.alloc (.cells #[.int .i64 id, .string nm, .int .i64 rk, .bool s, .bool d, .bool a, .int .i64 nd] 27)).cell? ⟨w.heap.size, 4, none⟩ = some (.bool d) := (World.cell?_alloc_at _ _ _ _ rfl).trans rfl
    have z5 : (w.alloc (.cells #[.int .i64 id, .string nm, .int .i64 rk, .bool s, .bool d, .bool a, .int .i64 nd] 27)).cell? ⟨w.heap.size, 5, none⟩ = some (.bool a) := (World.cell?_alloc_at _ _ _ _ rfl).trans rfl
    have z6 : (w.alloc (.cells #[.int .i64 id, .string nm, .int .i64 rk, .bool s, .bool d, .bool a, .int .i64 nd] 27)).cell? ⟨w.heap.size, 6, none⟩ = some (.int .i64 nd) := (World.cell?_alloc_at _ _ _ _ rfl).trans rfl
    generalize w.alloc (.cells #[.int .i64 id, .string nm, .int .i64 rk, .bool s, .bool d, .bool a, .int .i64 nd] 27) = W0 at *
    refine (Hv.out _).mono ?_
    rintro e w1 ⟨rfl, hb01⟩
    have hb1 := btr hb0 hb01
    have y0 := cell_bw z0 hb01
    have y1 := cell_bw z1 hb01
    have y2 := cell_bw z2 hb01
    have y3 := cell_bw z3 hb01
    have y4 := cell_bw z4 hb01
    have y5 := cell_bw z5 hb01
    have y6 := cell_bw z6 hb01
    go_wp2
    exact bodyPost_ret (v := .tuple #[.string ⟨#[]⟩, .bool false]) (by simp [results, Tryd.results9, go_sem]) rfl ⟨rfl, hb1⟩
end Go.Proofs.YtfaphackdhdcaaaDoor
