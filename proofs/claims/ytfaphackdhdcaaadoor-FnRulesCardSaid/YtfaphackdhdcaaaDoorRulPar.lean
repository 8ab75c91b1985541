/-
  ParseRule: contracts of both texts. Conditions: the listed variables are as laid.
-/
import Derived.Test.YtfaphackdhdcaaaDoorRulTxt
import Derived.Test.YtfaphackdhdcaaaDoorSpl
namespace Go.My
open Go.RowKit
def stB (b : UInt8) (s : ByteArray) : Bool := s.data.toList.any (fun c => c == b)
theorem join_snoc (l : List (List UInt8)) (x y sep : List UInt8) : Lib.join (l ++ [x, y]) sep = Lib.join (l ++ [x]) sep ++ sep ++ y := by
  cases l with
  | nil => simp [Lib.join_cons, Lib.joinTail]
  | cons a l => simp [Lib.join_cons, Lib.joinTail, List.append_assoc]
theorem join_last (l : List (List UInt8)) (x y sep : List UInt8) : Lib.join (l ++ [x ++ y]) sep = Lib.join (l ++ [x]) sep ++ y := by
  cases l with
  | nil => simp [Lib.join_one]
  | cons a l => simp [Lib.join_cons, Lib.joinTail, List.append_assoc]
theorem take_snocL {α : Type} (S : List α) {f k : Nat} (hf : f ≤ k) (hk : k < S.length) : (S.drop f).take (k + 1 - f) = (S.drop f).take (k - f) ++ [S[k]] := by
  rw [show k + 1 - f = (k - f) + 1 by omega, List.take_succ_eq_append_getElem (by simp; omega)]
  congr 2
  rw [List.getElem_drop]; congr 1; omega
/-- What has been split is joined again. -/
theorem cut_join (s : ByteArray) (b : UInt8) : ∀ k, k ≤ s.size → Lib.join (bl (cutN s b k).1 ++ [(s.data.toList.drop (cutN s b k).2).take (k - (cutN s b k).2)]) [b] = s.data.toList.take k ∧ (∀ x ∈ (cutN s b k).1, stB b x = false) ∧ b ∉ (s.data.toList.drop (cutN s b k).2).take (k - (cutN s b k).2)
  | 0, _ => by simp [cutN, bl, Lib.join_one]
  | k + 1, hk => by
    obtain ⟨h1, h2, h3⟩ := cut_join s b k (by omega)
    have hle := (cutN_le s b k).1
    have hlt : k < s.size := by omega
    have hl : k < s.data.toList.length := by simpa using hlt
    have hg : s.data.toList[k] = s[k] := rfl
    by_cases hb : s[k] = b
    · rw [cutN_eq hlt hb]
      refine ⟨?_, ?_, by simp⟩
      · simp only [bl, List.map_append, List.map_cons, List.map_nil, Nat.sub_self, List.take_zero, List.append_assoc, List.cons_append, List.nil_append]
        rw [Lib.extract_data]
        have := join_snoc (bl (cutN s b k).1) ((s.data.toList.drop (cutN s b k).2).take (k - (cutN s b k).2)) [] [b]
        simp only [bl] at this h1
        rw [this, h1, List.append_nil, List.take_succ_eq_append_getElem hl, hg, hb]
      · intro x hx
        rcases List.mem_append.1 hx with hx | hx
        · exact h2 x hx
        · simp at hx; subst hx
          unfold stB
          rw [Lib.extract_data, List.any_eq_false]
          intro c hc
          simp only [beq_iff_eq]
          exact fun e => h3 (e ▸ hc)
    · rw [cutN_ne hlt hb]
      have e := take_snocL s.data.toList hle hl
      rw [e]
      refine ⟨?_, h2, ?_⟩
      · rw [join_last, h1, List.take_succ_eq_append_getElem hl]
      · intro hm
        rcases List.mem_append.1 hm with hm | hm
        · exact h3 hm
        · simp at hm; exact hb (by rw [← hg]; exact hm.symm)
theorem splitL_sz (s : ByteArray) (b : UInt8) : ∀ x ∈ splitL s b, x.size ≤ s.size := by
  have key : ∀ k, ∀ x ∈ (cutN s b k).1, x.size ≤ s.size := by
    intro k
    induction k with
    | zero => simp [cutN]
    | succ k ih =>
      by_cases hk : k < s.size
      · by_cases hb : s[k] = b
        · rw [cutN_eq hk hb]
          intro x hx
          rcases List.mem_append.1 hx with hx | hx
          · exact ih x hx
          · simp at hx; subst hx; simp; omega
        · rw [cutN_ne hk hb]; exact ih
      · simp only [cutN, hk, dif_neg, not_false_eq_true]; exact ih
  intro x hx
  rcases List.mem_append.1 (show x ∈ (cutN s b s.size).1 ++ [s.extract (cutN s b s.size).2 s.size] from hx) with hx | hx
  · exact key _ x hx
  · simp at hx; subst hx; simp
theorem splitL_bl (s : ByteArray) (b : UInt8) : bl (splitL s b) = splitU b s.data.toList := by
  obtain ⟨h1, h2, h3⟩ := cut_join s b s.size (Nat.le_refl _)
  have hsz : s.data.toList.length = s.size := by simp
  have hl : s.data.toList.take s.size = s.data.toList := by rw [← hsz, List.take_length]
  have e : bl (splitL s b) = bl (cutN s b s.size).1 ++ [(s.data.toList.drop (cutN s b s.size).2).take (s.size - (cutN s b s.size).2)] := by
    simp only [splitL, bl, List.map_append, List.map_cons, List.map_nil]
    rw [Lib.extract_data]
  rw [hl] at h1
  rw [e]
  conv => rhs; rw [← h1]
  have hno : ∀ y ∈ bl (cutN s b s.size).1, b ∉ y := by
    intro y hy
    simp only [bl, List.mem_map] at hy
    obtain ⟨x, hx, rfl⟩ := hy
    have := h2 x hx
    intro hm
    unfold stB at this
    rw [List.any_eq_false] at this
    exact this b hm (by simp)
  generalize (s.data.toList.drop (cutN s b s.size).2).take (s.size - (cutN s b s.size).2) = z at *
  generalize bl (cutN s b s.size).1 = ys at *
  cases ys with
  | nil => simp only [List.nil_append, Lib.join_one]; exact (splitU_none h3).symm
  | cons y ys =>
    rw [List.cons_append]
    refine (splitU_join (hno y (by simp)) ?_).symm
    intro x hx
    rcases List.mem_append.1 hx with hx | hx
    · exact hno x (by simp [hx])
    · simp at hx; subst hx; exact h3
theorem splitB_eq (s : ByteArray) (b : UInt8) : Lib.splitB ⟨#[b]⟩ 0 (Lib.countB s ⟨#[b]⟩) s = splitL s b := by
  apply bl_inj
  rw [splitL_bl]
  have h1 := Lib.splitB_data ⟨#[b]⟩ 0 (Lib.countB s ⟨#[b]⟩) s
  have h2 := splitK_one b s.data.toList.length s.data.toList (Nat.le_refl _)
  exact h1.trans h2
theorem splitL_pos (s : ByteArray) (b : UInt8) : 0 < (splitL s b).length := by simp [splitL]
/-- The package variable bytealg.MaxLen holds some number. -/
def MaxAt (w : World) (g : Nat) : Prop := ∃ m, w.cell? ⟨g, 0, none⟩ = some (.int .i64 m)
theorem MaxAt.below {w w' : World} {g : Nat} (h : MaxAt w g) (hb : Below w.heap.size w w') : MaxAt w' g := by
  obtain ⟨m, hm⟩ := h
  exact ⟨m, (hb.cell (World.block_lt_of_cell? w _ hm)).trans hm⟩
theorem needW_inj {j k : Nat} (hj : j < 4) (hk : k < 4) (h : needW (j : Nat) = needW (k : Nat)) : j = k := by
  match j, hj, k, hk with
  | 0, _, 0, _ => rfl
  | 1, _, 1, _ => rfl
  | 2, _, 2, _ => rfl
  | 3, _, 3, _ => rfl
  | 0, _, 1, _ => exact absurd h (by decide)
  | 0, _, 2, _ => exact absurd h (by decide)
  | 0, _, 3, _ => exact absurd h (by decide)
  | 1, _, 0, _ => exact absurd h (by decide)
  | 1, _, 2, _ => exact absurd h (by decide)
  | 1, _, 3, _ => exact absurd h (by decide)
  | 2, _, 0, _ => exact absurd h (by decide)
  | 2, _, 1, _ => exact absurd h (by decide)
  | 2, _, 3, _ => exact absurd h (by decide)
  | 3, _, 0, _ => exact absurd h (by decide)
  | 3, _, 1, _ => exact absurd h (by decide)
  | 3, _, 2, _ => exact absurd h (by decide)
theorem toList_inj {a b : ByteArray} (h : a.toList = b.toList) : a = b := by
  rw [ByteArray.toList_eq, ByteArray.toList_eq] at h
  exact ba_ext h
theorem needI_hit {x : ByteArray} {k : Nat} (hk : k < 4) (h : x = needW k) : needI x = k := by
  subst h
  match k, hk with
  | 0, _ => decide
  | 1, _ => decide
  | 2, _ => decide
  | 3, _ => decide
theorem needI_miss {x : ByteArray} (h : ∀ k : Nat, k < 4 → x ≠ needW k) : needI x = -1 := by
  unfold needI
  have h0 : ¬ x.data.toList = [] := fun e => h 0 (by decide) (ba_ext (e.trans (rfl : [] = (needW (0 : Nat)).data.toList)))
  have h1 : ¬ x.data.toList = need1.data.toList := fun e => h 1 (by decide) (ba_ext (e.trans (rfl : need1.data.toList = (needW (1 : Nat)).data.toList)))
  have h2 : ¬ x.data.toList = need2.data.toList := fun e => h 2 (by decide) (ba_ext (e.trans (rfl : need2.data.toList = (needW (2 : Nat)).data.toList)))
  have h3 : ¬ x.data.toList = need3.data.toList := fun e => h 3 (by decide) (ba_ext (e.trans (rfl : need3.data.toList = (needW (3 : Nat)).data.toList)))
  rw [if_neg h0, if_neg h1, if_neg h2, if_neg h3]
theorem needS_hit {x : ByteArray} {k : Nat} (h1 : 1 ≤ k) (hk : k < 4) (h : x = needW k) : needS x = k := by
  subst h
  match k, hk with
  | 0, _ => omega
  | 1, _ => decide
  | 2, _ => decide
  | 3, _ => decide
theorem needS_miss {x : ByteArray} (h : ∀ k : Nat, 1 ≤ k → k < 4 → x ≠ needW k) : needS x = 0 := by
  unfold needS
  have h1 : ¬ x.data.toList = need1.data.toList := fun e => h 1 (by decide) (by decide) (ba_ext (e.trans (rfl : need1.data.toList = (needW (1 : Nat)).data.toList)))
  have h2 : ¬ x.data.toList = need2.data.toList := fun e => h 2 (by decide) (by decide) (ba_ext (e.trans (rfl : need2.data.toList = (needW (2 : Nat)).data.toList)))
  have h3 : ¬ x.data.toList = need3.data.toList := fun e => h 3 (by decide) (by decide) (ba_ext (e.trans (rfl : need3.data.toList = (needW (3 : Nat)).data.toList)))
  rw [if_neg h1, if_neg h2, if_neg h3]
theorem blk_new (w : World) (cs : Array Value) (e : TypeId) : Blk (w.alloc (.cells cs e)) w.heap.size e cs.toList := by unfold Blk; exact heap_alloc_new w _
/-- A call that hands back one value, whatever the order; what it makes is nobody's. -/
def valS (cons : List Nat) (v : Value) : LS where
  cons := cons
  ok u := u = v
  V _ _ := True
  fp _ := []
  loc _ _ _ _ _ _ := trivial
  ne := ⟨v, rfl⟩
theorem ob_val {P : Program} {w0 : World} {F : List Nat} {τ : Nat → Option LS} {ds : List Nat} {v : Value} {o : Oper} {a : Act} {U : Nat → Value}
    (h : ∀ w, ClP w0 F w → Has τ ds U w → stepTo P o a w (fun u w' => u = v ∧ Below w.heap.size w w')) : Ob P w0 F τ (valS ds v) o a U := fun w hw hd => by
  have h1 := h w hw hd
  unfold stepTo at h1 ⊢
  have fin : ∀ u w', u = v ∧ Below w.heap.size w w' → Owes τ (valS ds v) U w u w' := fun u w' ⟨e, hb⟩ => ⟨e, trivial, hb.os, hb.tape, hb.output, hb.size, fun g hg _ => hb.block g hg, fun g hg => by simp [valS] at hg⟩
  generalize (execOp a.eval o).run P w = r at *
  cases r with
  | ok nx w' =>
    cases nx with
    | value u => exact fin u w' h1
    | skip => exact fin _ w' h1
    | enter f args => exact Calls.mono h1 fun e w'' ⟨u, he, hh⟩ => ⟨u, he, fin u w'' hh⟩
    | _ => exact h1.elim
  | _ => exact h1.elim
theorem Blk.frozen {w : World} {g : Nat} {e : TypeId} {L : List Value} (h : Blk w g e L) (o : Nat) : w.frozen? ⟨g, o, none⟩ = false := by
  unfold World.frozen?; rw [show w.heap[g]? = _ from h]; simp
theorem Blk.cell {w : World} {g : Nat} {e : TypeId} {L : List Value} (h : Blk w g e L) {j : Nat} {v : Value} (hj : L[j]? = some v) : w.cell? ⟨g, j, none⟩ = some v := by
  rw [cell_of_row w g j _ e (0, 0) h]; simpa using hj
theorem Blk.setv {w : World} {g : Nat} {e : TypeId} {L : List Value} (h : Blk w g e L) (j : Nat) (v : Value) : Blk (w.setCell ⟨g, j, none⟩ v) g e (L.set j v) := by
  unfold Blk at *; simpa using heap_setCell_same w g j _ e v h
theorem Blk.setw {w : World} {g g' : Nat} {e : TypeId} {L : List Value} (h : Blk w g e L) (hne : g ≠ g') (j : Nat) (v : Value) : Blk (w.setCell ⟨g', j, none⟩ v) g e L :=
  h.grown (grown_set (World.grownBy.refl w (some g')) j v) (fun e => hne (by simpa using e))
theorem cell_setw {w : World} {p : Addr} {g j : Nat} {u v : Value} (h : w.cell? p = some u) (hne : p.block ≠ g) : (w.setCell ⟨g, j, none⟩ v).cell? p = some u :=
  (World.cell?_setCell_other _ _ _ _ (fun e => hne (by rw [← e]))).trans h
theorem hasW_next (c : List UInt8) {X : List ByteArray} {k : Nat} (hk : k < X.length) : hasW c (X.take (k + 1)) = (hasW c (X.take k) || (X[k].data.toList == c)) := by
  unfold hasW
  rw [List.take_succ_eq_append_getElem hk, List.any_append]
  simp
def secB : ByteArray := ⟨#[115, 101, 99, 111, 110, 100]⟩
def debB : ByteArray := ⟨#[100, 101, 98, 97, 116, 101]⟩
def amB : ByteArray := ⟨#[97, 109, 101, 110, 100]⟩
/-- Which flag's word a text is. -/
theorem word_cases (x : ByteArray) : x = secB ∨ x = debB ∨ x = amB ∨ (x ≠ secB ∧ x ≠ debB ∧ x ≠ amB) := by
  by_cases h1 : x = secB
  · exact .inl h1
  · by_cases h2 : x = debB
    · exact .inr (.inl h2)
    · by_cases h3 : x = amB
      · exact .inr (.inr (.inl h3))
      · exact .inr (.inr (.inr ⟨h1, h2, h3⟩))
theorem ne_beq {x c : ByteArray} (h : x ≠ c) : (x.data.toList == c.data.toList) = false := by
  rw [beq_eq_false_iff_ne]; exact fun e => h (ba_ext e)
theorem ne_beq2 {x c : ByteArray} (h : x ≠ c) : (x.toList == c.toList) = false := by
  rw [ByteArray.toList_eq, ByteArray.toList_eq]; exact ne_beq h
theorem toList_mk (l : List UInt8) : (⟨l.toArray⟩ : ByteArray).toList = l := by rw [ByteArray.toList_eq]
theorem ne_beq3 {x : ByteArray} {l : List UInt8} (h : x ≠ ⟨l.toArray⟩) : (x.toList == l) = false := by
  rw [beq_eq_false_iff_ne]
  intro e
  apply h
  apply ba_ext
  rw [← ByteArray.toList_eq, e]
theorem eq_beq3 {x : ByteArray} {l : List UInt8} (h : x = ⟨l.toArray⟩) : (x.toList == l) = true := by rw [h, toList_mk]; simp
theorem clP_below' {w0 w : World} (h : ClP w0 [] w) : Below w0.heap.size w0 w := by
  obtain ⟨n, rfl⟩ := h
  exact n.below
end Go.My
namespace Go.Proofs.YtfaphackdhdcaaaDoor
open Go.RowKit Go.My
/-- strings.Split at one byte. -/
theorem split_at (s : ByteArray) (b : UInt8) (w : World) (hs : s.size ≤ 1048576) (hm : MaxAt w 1) :
    Calls Tryd.prog 39 #[.string s, .string ⟨#[b]⟩] w fun e w' => e = .returned (.slice (some ⟨w.heap.size, 0, none⟩) (splitL s b).length (splitL s b).length) ∧ w' = w.alloc (.cells (sCells (splitL s b)).toArray 9) := by
  obtain ⟨m, hm⟩ := hm
  have h := Tryd.strings_Split s ⟨#[b]⟩ m w (by omega) hm (Nat.le_refl 1)
  have hl : Lib.countB s ⟨#[b]⟩ + 1 = (splitL s b).length := by
    rw [← splitB_eq, Lib.splitB_all ⟨#[b]⟩ (Nat.le_refl 1) 0 _ s rfl]
  rw [splitB_eq, hl] at h
  exact h
theorem idxNeed_any (g c : Nat) (x : ByteArray) (w : World) (hg : NeedAt w g) :
    Calls Tryd.prog 42 #[.slice (some ⟨g, 0, none⟩) 4 c, .string x] w fun e w' => e = .returned (.int .i64 (needI x)) ∧ w' = w := by
  have HG : Hid (NeedAt w g) := hg
  clear hg
  go_enter Tryd.func42, Tryd.ntmps42
  go_wp2
  go_loop [8] (fun i => ∃ k : Nat, 0 ≤ k ∧ k ≤ 4 ∧ i = .int .i64 k ∧ Hid (∀ j : Nat, j < k → x ≠ needW j)) (fun i => 4 - (intOf i).toNat)
  case atStart => exact ⟨0, by omega, by omega, rfl, fun j hj => by omega⟩
  case round =>
    obtain ⟨k, h0, hk, rfl, H⟩ := hrel
    by_cases hlt : k < 4
    · have hc := HG.out k hlt
      have hkI : (k : Int) < 4 := by omega
      by_cases hq : x = needW k
      · have HR : Hid (needI x = k) := needI_hit hlt hq
        have he : (x.toList == (needW k).toList) = true := by rw [hq]; simp
        clear H hq
        go_wp2
        go_ret
        exact ⟨by rw [HR.out]; rfl, rfl⟩
      · have HN : Hid (∀ j : Nat, j < k + 1 → x ≠ needW j) := fun j hj => by
          by_cases e : j = k
          · subst e; exact hq
          · exact H.out j (by omega)
        have he : (x.toList == (needW k).toList) = false := by
          rw [beq_eq_false_iff_ne]; exact fun e => hq (toList_inj e)
        clear H hq
        go_wp2
        go_round
        case rel => exact ⟨k + 1, by omega, by omega, by go_num, HN⟩
        case measure => simp [intOf]; omega
    · have hkn : k = 4 := by omega
      subst hkn
      have HR : Hid (needI x = -1) := needI_miss H.out
      clear H
      go_wp2
      go_ret
      exact ⟨by rw [HR.out]; rfl, rfl⟩
theorem l2Index_any (g c : Nat) (x : ByteArray) (w : World) (hg : NeedAt w g) :
    Calls Tryd.prog 61 #[.slice (some ⟨g, 0, none⟩) 4 c, .string x] w fun e w' => e = .returned (.int .i64 (needS x)) ∧ w' = w := by
  have HG : Hid (NeedAt w g) := hg
  clear hg
  go_enter Tryd.func61, Tryd.ntmps61
  go_wp2
  go_loop [5] (fun i => ∃ k : Nat, 1 ≤ k ∧ k ≤ 4 ∧ i = .int .i64 k ∧ Hid (∀ j : Nat, 1 ≤ j → j < k → x ≠ needW j)) (fun i => 4 - (intOf i).toNat)
  case atStart => exact ⟨1, by omega, by omega, rfl, fun j h0 hj => by omega⟩
  case round =>
    obtain ⟨k, h0, hk, rfl, H⟩ := hrel
    by_cases hlt : k < 4
    · have hc := HG.out k hlt
      have hkI : (k : Int) < 4 := by omega
      by_cases hq : x = needW k
      · have HR : Hid (needS x = k) := needS_hit h0 hlt hq
        have he : ((needW k).toList == x.toList) = true := by rw [hq]; simp
        clear H hq
        go_wp2
        go_ret
        exact ⟨by rw [HR.out]; rfl, rfl⟩
      · have HN : Hid (∀ j : Nat, 1 ≤ j → j < k + 1 → x ≠ needW j) := fun j h1 hj => by
          by_cases e : j = k
          · subst e; exact hq
          · exact H.out j h1 (by omega)
        have he : ((needW k).toList == x.toList) = false := by
          rw [beq_eq_false_iff_ne]; exact fun e => hq (toList_inj e.symm)
        clear H hq
        go_wp2
        go_round
        case rel => exact ⟨k + 1, by omega, by omega, by go_num, HN⟩
        case measure => simp [intOf]; omega
    · have hkn : k = 4 := by omega
      subst hkn
      have HR : Hid (needS x = 0) := needS_miss H.out
      clear H
      go_wp2
      go_ret
      exact ⟨by rw [HR.out]; rfl, rfl⟩
set_option maxHeartbeats 8000000 in
set_option maxRecDepth 100000 in
theorem implParseRule_any (s : ByteArray) (w : World) (hs : s.size ≤ 1048576) (hneed0 : NeedAt w 0) (hmax : MaxAt w 1) (hsyn : SynIs w) (htab : Lib.TabIs Tryd.prog w "internal/strconv.uint64pow10" .u64 Lib.pow10Tab) :
    Calls Tryd.prog 18 #[.string s] w fun e w' => ∃ (r : Rul) (b : Bool), e = .returned (.tuple #[.agg #[.int .i64 r.id, .string r.name, .int .i64 r.rank, .bool r.sec, .bool r.deb, .bool r.am, .int .i64 r.need], .bool b]) ∧ IsParse s r b ∧ Below w.heap.size w w' := by
  have HS : Hid (∀ w1, Below w.heap.size w w1 → Calls Tryd.prog 39 #[.string s, .string ⟨#[32]⟩] w1 fun e w' => e = .returned (.slice (some ⟨w1.heap.size, 0, none⟩) (splitL s 32).length (splitL s 32).length) ∧ w' = w1.alloc (.cells (sCells (splitL s 32)).toArray 9)) := fun w1 h => split_at s 32 w1 hs (hmax.below h)
  have HBL := Lib.hid (splitL_bl s 32)
  have HNO : Hid (∀ r', rulOk r' = true → lineB r' = s → (6 ≤ (splitL s 32).length ∧ (splitL s 32).length ≤ 9) ∧ (readR (at_ (splitL s 32) 0)).2 = true ∧ (readR (at_ (splitL s 32) 3)).2 = true ∧ ruleI (splitL s 32) = r' ∧ ruleS (splitL s 32) = r') := fun r' h1 h2 => parse_all h1 (HBL.out.trans (by rw [← h2]; exact words_split (rul_parts h1).2.1))
  have HP : Hid (∀ y w1, Below w.heap.size w w1 → Calls Tryd.prog 41 #[.string y] w1 fun e w' => e = .returned (.tuple #[.int .i64 (readR y).1, .bool (readR y).2]) ∧ Below w1.heap.size w1 w') := fun y w1 hb => implParse_any y w1 (hsyn.below hb) (tab_below htab hb)
  have HNd : Hid (∀ w1, Below w.heap.size w w1 → NeedAt w1 0) := fun w1 hb => hneed0.below hb
  have HSZ : Hid (∀ x ∈ splitL s 32, x.size ≤ s.size) := splitL_sz s 32
  clear hmax hsyn htab hneed0 HBL
  generalize splitL s 32 = X at *
  go_enter Tryd.func18, Tryd.ntmps18
  go_wp2_with fail
  have hb0 : Below w.heap.size w (w.alloc (.cells #[.int .i64 0, .string ⟨#[]⟩, .int .i64 0, .bool false, .bool false, .bool false, .int .i64 0] 27)) := bnew (Below.refl _ _) _
  have B0 : Blk (w.alloc (.cells #[.int .i64 0, .string ⟨#[]⟩, .int .i64 0, .bool false, .bool false, .bool false, .int .i64 0] 27)) w.heap.size 27 [.int .i64 0, .string ⟨#[]⟩, .int .i64 0, .bool false, .bool false, .bool false, .int .i64 0] := blk_new w #[.int .i64 0, .string ⟨#[]⟩, .int .i64 0, .bool false, .bool false, .bool false, .int .i64 0] 27
  generalize w.alloc (.cells #[.int .i64 0, .string ⟨#[]⟩, .int .i64 0, .bool false, .bool false, .bool false, .int .i64 0] 27) = W0 at *
  refine (HS.out W0 hb0).mono ?_
  rintro e w1 ⟨rfl, rfl⟩
  have hbX : Below W0.heap.size W0 (W0.alloc (.cells (sCells X).toArray 9)) := bnew (Below.refl _ _) _
  have hcell : ∀ j (hj : j < X.length), (W0.alloc (.cells (sCells X).toArray 9)).cell? ⟨W0.heap.size, j, none⟩ = some (.string X[j]) := fun j hj => (World.cell?_alloc_at _ _ _ _ rfl).trans (by simp [sCells, hj])
  have hg2 := B0.lt
  have hb1 := btr hb0 hbX
  replace B0 := B0.below hbX
  generalize W0.alloc (.cells (sCells X).toArray 9) = w1 at *
  generalize W0.heap.size = gx at *
  clear HS hbX hb0
  by_cases hL : 6 ≤ X.length ∧ X.length ≤ 9
  · obtain ⟨hL6, hL9⟩ := hL
    have HB : inB (X.length : Int) 6 9 = true := inB_yes (by omega)
    obtain ⟨m, hm⟩ : ∃ m, X.length = m + 1 := ⟨X.length - 1, by omega⟩
    have c0 : w1.cell? ⟨gx, 0, none⟩ = some (.string (at_ X 0)) := by rw [at_eq (by omega)]; exact hcell 0 _
    have c1 : w1.cell? ⟨gx, 1, none⟩ = some (.string (at_ X 1)) := by rw [at_eq (by omega)]; exact hcell 1 _
    have c3 : w1.cell? ⟨gx, 3, none⟩ = some (.string (at_ X 3)) := by rw [at_eq (by omega)]; exact hcell 3 _
    have cl : w1.cell? ⟨gx, m, none⟩ = some (.string (at_ X m)) := by rw [at_eq (by omega)]; exact hcell m _
    have HC := Lib.hid hcell
    clear hcell
    have hL6I : (6 : Int) ≤ (X.length : Int) := by omega
    have hL9I : (X.length : Int) ≤ 9 := by omega
    have hmI : (m : Int) < (X.length : Int) := by omega
    have hm1 : (X.length : Int) - 1 = (m : Int) := by omega
    have hmw : IntKind.i64.wrap ((X.length : Int) - 1) = (m : Int) := by rw [IntKind.wrap_i64]; omega
    have Hm := Lib.hid hm
    clear hm
    go_wp2_with (go_at_call 40; refine (inside_any _ _ _ _).mono ?_; rintro e w9 ⟨rfl, rfl⟩)
    refine (HP.out _ _ hb1).mono ?_
    rintro e w2 ⟨rfl, hb12⟩
    have hb2 := btr hb1 hb12
    replace c0 := cell_bw c0 hb12
    replace c1 := cell_bw c1 hb12
    replace c3 := cell_bw c3 hb12
    replace cl := cell_bw cl hb12
    replace B0 := B0.below hb12
    go_wp2_with fail
    refine (HP.out _ _ hb2).mono ?_
    rintro e w3 ⟨rfl, hb23⟩
    have hb3 := btr hb2 hb23
    replace c1 := cell_bw c1 hb23
    replace cl := cell_bw cl hb23
    replace B0 := B0.below hb23
    have HX : Hid (∀ j (hj : j < X.length), w3.cell? ⟨gx, j, none⟩ = some (.string X[j])) := fun j hj => cell_bw (HC.out j hj) (btr hb12 hb23)
    clear c0 c3 HP HC hb12 hb23 hb1 hb2
    have hRI : Hid (ruleI X = ⟨(readR (at_ X 0)).1, at_ X 1, (readR (at_ X 3)).1, hasW secW (X.drop 4), hasW debW (X.drop 4), hasW amW (X.drop 4), needI (at_ X m)⟩) := by show _ = _; rw [show m = X.length - 1 by have := Hm.out; omega]; rfl
    generalize readR (at_ X 0) = R0 at *
    generalize readR (at_ X 3) = R3 at *
    obtain ⟨i0, b0⟩ := R0
    obtain ⟨i3, b3⟩ := R3
    have hx1 : (at_ X 1).size ≤ s.size := by rw [at_eq (by omega)]; exact HSZ.out _ (List.getElem_mem _)
    generalize at_ X 1 = x1 at *
    have HN : Hid (∀ w1, ClP w3.drew [] w1 → Calls Tryd.prog 42 #[.slice (some ⟨0, 0, none⟩) 4 4, .string (at_ X m)] w1 fun e w' => e = .returned (.int .i64 (needI (at_ X m))) ∧ Below w1.heap.size w1 w') := fun w1 h1 => (idxNeed_any 0 4 (at_ X m) w1 (HNd.out _ (btr hb3.drew (clP_below' h1)))).mono fun e w2 h => ⟨h.1, by rw [h.2]; exact Below.refl _ _⟩
    generalize needI (at_ X m) = nd at *
    generalize at_ X m = xl at *
    simp only at *
    go_wp2_with fail
    have d1 := cell_cl (w := w3.drew) c1
    have dl := cell_cl (w := w3.drew) cl
    refine wp_loose_tail0 (U := fun _ => undef) (τ := lk [(12, valS [] (.int .i64 nd)), (14, boxS [] w3.drew.heap.size 27 [.int .i64 0, .string ⟨#[]⟩, .int .i64 0, .bool false, .bool false, .bool false, .int .i64 0])]) (F := []) 15 (by kernel_rfl) (by kernel_rfl) (fits_of rfl (by kernel_rfl)) (inv_start (by intro r s h; have := lk_mem h; simp at this; (first | omega | (simp only [List.length_cons, List.length_nil]; omega)))) ?_
    simp only [List.take_succ_cons, List.take_zero, List.drop_succ_cons, List.drop_zero]
    refine wpL_quiet 12 rfl rfl ?_
    simp only [List.take_succ_cons, List.take_zero, List.drop_succ_cons, List.drop_zero]
    repeat (go_big_quiet_step (fail))
    refine wpQuiet_nil ?_
    refine gives_loose rfl (ob_val (fun w1 h1 _ => by simp [stepTo, stepUpon, go_sem]; exact (HN.out w1 h1).mono fun e w2 h => ⟨_, h.1, rfl, h.2⟩)) ?_
    rintro u12 rfl
    simp only [Act.put, List.setIfInBounds_toArray, List.set_cons_zero, List.set_cons_succ]
    refine wpL_quiet 1 rfl rfl ?_
    simp only [List.take_succ_cons, List.take_zero, List.drop_succ_cons, List.drop_zero]
    repeat (go_big_quiet_step (fail))
    refine wpQuiet_nil ?_
    refine gives_loose rfl (ob_box (cs := #[.int .i64 0, .string ⟨#[]⟩, .int .i64 0, .bool false, .bool false, .bool false, .int .i64 0]) (Nat.le_refl _) (fun w1 _ => ?_)) ?_
    · go_simp
    rintro u14 ⟨g14, rfl⟩
    simp only [Act.put, List.setIfInBounds_toArray, List.set_cons_zero, List.set_cons_succ]
    refine wpL_nil ?_
    intro w8 hEnd
    obtain ⟨g9, e9, hg9, B9⟩ := ends_get hEnd 14 rfl rfl
    have e9' : (Value.pointer (some ⟨g14, 0, none⟩)) = .pointer (some ⟨g9, 0, none⟩) := e9
    cases e9'
    have hb38 : Below w3.heap.size w3 w8 := btr (Below.refl _ _).drew (ends_below hEnd)
    have hb8 := btr hb3 hb38
    replace B0 := B0.below hb38
    have HX8 : Hid (∀ j (hj : j < X.length), w8.cell? ⟨gx, j, none⟩ = some (.string X[j])) := fun j hj => cell_bw (HX.out j hj) hb38
    have hgxl : gx < w3.heap.size := World.block_lt_of_cell? w3 _ c1
    have hg9' : w3.heap.size ≤ g14 := hg9
    have hgx9 : gx ≠ g14 := by omega
    have hg09 : w.heap.size ≠ g14 := by omega
    have hg9w : w.heap.size ≤ g14 := by omega
    clear hEnd e9 hg9 c1 cl d1 dl HX hb38 HN
    have k0 := B9.cell (j := 0) rfl
    have k1 := B9.cell (j := 1) rfl
    have k2 := B9.cell (j := 2) rfl
    have k3 := B9.cell (j := 3) rfl
    have k4 := B9.cell (j := 4) rfl
    have k5 := B9.cell (j := 5) rfl
    have k6 := B9.cell (j := 6) rfl
    have z0 := B9.frozen 0
    have z1 := B9.frozen 1
    have z2 := B9.frozen 2
    have z3 := B9.frozen 3
    have z4 := B9.frozen 4
    have z5 := B9.frozen 5
    have z6 := B9.frozen 6
    have h4c : ¬ X.length = 4 := by omega
    have h4I : ¬ (X.length : Int) = 4 := by omega
    have h4l : (4 : Int) ≤ (X.length : Int) := by omega
    obtain ⟨q, hq⟩ : ∃ q, X.length = q + 4 := ⟨X.length - 4, by omega⟩
    have hq1 : (X.length : Int) - 4 = (q : Int) := by omega
    have hqw : IntKind.i64.wrap ((X.length : Int) - 4) = (q : Int) := by rw [IntKind.wrap_i64]; omega
    have Hq := Lib.hid hq
    clear hq
    go_wp2_with fail
    have B9n : Blk (((((((w8.setCell ⟨g14, 0, none⟩ (.int .i64 i0)).setCell ⟨g14, 1, none⟩ (.string x1)).setCell ⟨g14, 2, none⟩ (.int .i64 i3)).setCell ⟨g14, 3, none⟩ (.bool false)).setCell ⟨g14, 4, none⟩ (.bool false)).setCell ⟨g14, 5, none⟩ (.bool false)).setCell ⟨g14, 6, none⟩ (.int .i64 nd)) g14 27 [.int .i64 i0, .string x1, .int .i64 i3, .bool false, .bool false, .bool false, .int .i64 nd] := by simpa using (((((((B9.setv 0 (.int .i64 i0)).setv 1 (.string x1)).setv 2 (.int .i64 i3)).setv 3 (.bool false)).setv 4 (.bool false)).setv 5 (.bool false)).setv 6 (.int .i64 nd))
    have B0n : Blk (((((((w8.setCell ⟨g14, 0, none⟩ (.int .i64 i0)).setCell ⟨g14, 1, none⟩ (.string x1)).setCell ⟨g14, 2, none⟩ (.int .i64 i3)).setCell ⟨g14, 3, none⟩ (.bool false)).setCell ⟨g14, 4, none⟩ (.bool false)).setCell ⟨g14, 5, none⟩ (.bool false)).setCell ⟨g14, 6, none⟩ (.int .i64 nd)) w.heap.size 27 [.int .i64 0, .string ⟨#[]⟩, .int .i64 0, .bool false, .bool false, .bool false, .int .i64 0] := (((((((B0.setw hg09 0 _).setw hg09 1 _).setw hg09 2 _).setw hg09 3 _).setw hg09 4 _).setw hg09 5 _).setw hg09 6 _)
    have HX9 : Hid (∀ j (hj : j < X.length), (((((((w8.setCell ⟨g14, 0, none⟩ (.int .i64 i0)).setCell ⟨g14, 1, none⟩ (.string x1)).setCell ⟨g14, 2, none⟩ (.int .i64 i3)).setCell ⟨g14, 3, none⟩ (.bool false)).setCell ⟨g14, 4, none⟩ (.bool false)).setCell ⟨g14, 5, none⟩ (.bool false)).setCell ⟨g14, 6, none⟩ (.int .i64 nd)).cell? ⟨gx, j, none⟩ = some (.string X[j])) := fun j hj => (cell_setw (cell_setw (cell_setw (cell_setw (cell_setw (cell_setw (cell_setw (HX8.out j hj) hgx9) hgx9) hgx9) hgx9) hgx9) hgx9) hgx9)
    have hb9 : Below w.heap.size w (((((((w8.setCell ⟨g14, 0, none⟩ (.int .i64 i0)).setCell ⟨g14, 1, none⟩ (.string x1)).setCell ⟨g14, 2, none⟩ (.int .i64 i3)).setCell ⟨g14, 3, none⟩ (.bool false)).setCell ⟨g14, 4, none⟩ (.bool false)).setCell ⟨g14, 5, none⟩ (.bool false)).setCell ⟨g14, 6, none⟩ (.int .i64 nd)) := (((((((hb8.setCell hg9w _).setCell hg9w _).setCell hg9w _).setCell hg9w _).setCell hg9w _).setCell hg9w _).setCell hg9w _)
    clear k0 k1 k2 k3 k4 k5 k6 z0 z1 z2 z3 z4 z5 z6 B9 B0 HX8 hb8
    generalize (((((((w8.setCell ⟨g14, 0, none⟩ (.int .i64 i0)).setCell ⟨g14, 1, none⟩ (.string x1)).setCell ⟨g14, 2, none⟩ (.int .i64 i3)).setCell ⟨g14, 3, none⟩ (.bool false)).setCell ⟨g14, 4, none⟩ (.bool false)).setCell ⟨g14, 5, none⟩ (.bool false)).setCell ⟨g14, 6, none⟩ (.int .i64 nd)) = w9 at *
    go_loopw [50] (fun i wr => ∃ (j : Nat) (f1 f2 f3 : Bool), j ≤ q ∧ i = .int .i64 j ∧ Hid (hasW secW ((X.drop 4).take j) = f1) ∧ Hid (hasW debW ((X.drop 4).take j) = f2) ∧ Hid (hasW amW ((X.drop 4).take j) = f3) ∧ Blk wr g14 27 [.int .i64 i0, .string x1, .int .i64 i3, .bool f1, .bool f2, .bool f3, .int .i64 nd] ∧ Blk wr w.heap.size 27 [.int .i64 0, .string ⟨#[]⟩, .int .i64 0, .bool false, .bool false, .bool false, .int .i64 0] ∧ Hid (∀ j (hj : j < X.length), wr.cell? ⟨gx, j, none⟩ = some (.string X[j])) ∧ Below w.heap.size w wr) (fun i _ => q - (intOf i).toNat)
    case atStart => exact ⟨0, false, false, false, by omega, rfl, rfl, rfl, rfl, B9n, B0n, HX9, hb9⟩
    case round =>
      clear B9n B0n HX9 hb9
      obtain ⟨j, f1, f2, f3, hj, rfl, H1, H2, H3, B9, B0, HXr, hb⟩ := hrel
      by_cases hlt : j < q
      · have hjI : (j : Int) < (q : Int) := by omega
        have hj4 : 4 + j < X.length := by have := Hq.out; omega
        have cx := HXr.out (4 + j) hj4
        have hd : j < (X.drop 4).length := by rw [List.length_drop]; have := Hq.out; omega
        have e0 : (X.drop 4)[j] = X[4 + j] := by rw [List.getElem_drop]
        have N1 := Lib.hid (hasW_next secW hd)
        have N2 := Lib.hid (hasW_next debW hd)
        have N3 := Lib.hid (hasW_next amW hd)
        rw [e0] at N1 N2 N3
        clear e0 hd
        generalize X[4 + j] = x at *
        have y0 := B9.cell (j := 0) rfl
        have y3 := B9.cell (j := 3) rfl
        have y4 := B9.cell (j := 4) rfl
        have y5 := B9.cell (j := 5) rfl
        have z3 := B9.frozen 3
        have z4 := B9.frozen 4
        have z5 := B9.frozen 5
        rcases word_cases x with hx | hx | hx | ⟨hx, hx2, hx3⟩
        · -- sec
          have e1 : (x.toList == [115, 101, 99, 111, 110, 100]) = true := eq_beq3 hx
          have M1 : Hid (hasW secW ((X.drop 4).take (j + 1)) = (f1 || true)) := N1.out.trans (by rw [H1.out]; exact congrArg _ (by rw [hx]; decide))
          have e2 : (x.toList == [100, 101, 98, 97, 116, 101]) = false := ne_beq3 (by rw [hx]; decide)
          have M2 : Hid (hasW debW ((X.drop 4).take (j + 1)) = (f2 || false)) := N2.out.trans (by rw [H2.out]; exact congrArg _ (by rw [hx]; decide))
          have e3 : (x.toList == [97, 109, 101, 110, 100]) = false := ne_beq3 (by rw [hx]; decide)
          have M3 : Hid (hasW amW ((X.drop 4).take (j + 1)) = (f3 || false)) := N3.out.trans (by rw [H3.out]; exact congrArg _ (by rw [hx]; decide))
          clear N1 N2 N3 H1 H2 H3 hx
          cases f1 with
          | false =>
            cases f2 with
            | false =>
              cases f3 with
              | false =>
                go_wp2
                go_roundw
                case rel => exact ⟨j + 1, true, false, false, by omega, by go_num, M1, M2, M3, by simpa using (((B9.setv 3 (.bool true)).setv 4 (.bool false)).setv 5 (.bool false)), (((B0.setw hg09 3 _).setw hg09 4 _).setw hg09 5 _), (fun k hk => (cell_setw (cell_setw (cell_setw (HXr.out k hk) hgx9) hgx9) hgx9)), (((hb.setCell hg9w _).setCell hg9w _).setCell hg9w _)⟩
                case measure => simp [intOf]; omega
              | true =>
                go_wp2
                go_roundw
                case rel => exact ⟨j + 1, true, false, true, by omega, by go_num, M1, M2, M3, by simpa using (((B9.setv 3 (.bool true)).setv 4 (.bool false)).setv 5 (.bool true)), (((B0.setw hg09 3 _).setw hg09 4 _).setw hg09 5 _), (fun k hk => (cell_setw (cell_setw (cell_setw (HXr.out k hk) hgx9) hgx9) hgx9)), (((hb.setCell hg9w _).setCell hg9w _).setCell hg9w _)⟩
                case measure => simp [intOf]; omega
            | true =>
              cases f3 with
              | false =>
                go_wp2
                go_roundw
                case rel => exact ⟨j + 1, true, true, false, by omega, by go_num, M1, M2, M3, by simpa using (((B9.setv 3 (.bool true)).setv 4 (.bool true)).setv 5 (.bool false)), (((B0.setw hg09 3 _).setw hg09 4 _).setw hg09 5 _), (fun k hk => (cell_setw (cell_setw (cell_setw (HXr.out k hk) hgx9) hgx9) hgx9)), (((hb.setCell hg9w _).setCell hg9w _).setCell hg9w _)⟩
                case measure => simp [intOf]; omega
              | true =>
                go_wp2
                go_roundw
                case rel => exact ⟨j + 1, true, true, true, by omega, by go_num, M1, M2, M3, by simpa using (((B9.setv 3 (.bool true)).setv 4 (.bool true)).setv 5 (.bool true)), (((B0.setw hg09 3 _).setw hg09 4 _).setw hg09 5 _), (fun k hk => (cell_setw (cell_setw (cell_setw (HXr.out k hk) hgx9) hgx9) hgx9)), (((hb.setCell hg9w _).setCell hg9w _).setCell hg9w _)⟩
                case measure => simp [intOf]; omega
          | true =>
            cases f2 with
            | false =>
              cases f3 with
              | false =>
                go_wp2
                go_roundw
                case rel => exact ⟨j + 1, true, false, false, by omega, by go_num, M1, M2, M3, by simpa using (((B9.setv 3 (.bool true)).setv 4 (.bool false)).setv 5 (.bool false)), (((B0.setw hg09 3 _).setw hg09 4 _).setw hg09 5 _), (fun k hk => (cell_setw (cell_setw (cell_setw (HXr.out k hk) hgx9) hgx9) hgx9)), (((hb.setCell hg9w _).setCell hg9w _).setCell hg9w _)⟩
                case measure => simp [intOf]; omega
              | true =>
                go_wp2
                go_roundw
                case rel => exact ⟨j + 1, true, false, true, by omega, by go_num, M1, M2, M3, by simpa using (((B9.setv 3 (.bool true)).setv 4 (.bool false)).setv 5 (.bool true)), (((B0.setw hg09 3 _).setw hg09 4 _).setw hg09 5 _), (fun k hk => (cell_setw (cell_setw (cell_setw (HXr.out k hk) hgx9) hgx9) hgx9)), (((hb.setCell hg9w _).setCell hg9w _).setCell hg9w _)⟩
                case measure => simp [intOf]; omega
            | true =>
              cases f3 with
              | false =>
                go_wp2
                go_roundw
                case rel => exact ⟨j + 1, true, true, false, by omega, by go_num, M1, M2, M3, by simpa using (((B9.setv 3 (.bool true)).setv 4 (.bool true)).setv 5 (.bool false)), (((B0.setw hg09 3 _).setw hg09 4 _).setw hg09 5 _), (fun k hk => (cell_setw (cell_setw (cell_setw (HXr.out k hk) hgx9) hgx9) hgx9)), (((hb.setCell hg9w _).setCell hg9w _).setCell hg9w _)⟩
                case measure => simp [intOf]; omega
              | true =>
                go_wp2
                go_roundw
                case rel => exact ⟨j + 1, true, true, true, by omega, by go_num, M1, M2, M3, by simpa using (((B9.setv 3 (.bool true)).setv 4 (.bool true)).setv 5 (.bool true)), (((B0.setw hg09 3 _).setw hg09 4 _).setw hg09 5 _), (fun k hk => (cell_setw (cell_setw (cell_setw (HXr.out k hk) hgx9) hgx9) hgx9)), (((hb.setCell hg9w _).setCell hg9w _).setCell hg9w _)⟩
                case measure => simp [intOf]; omega
        · -- deb
          have e1 : (x.toList == [115, 101, 99, 111, 110, 100]) = false := ne_beq3 (by rw [hx]; decide)
          have M1 : Hid (hasW secW ((X.drop 4).take (j + 1)) = (f1 || false)) := N1.out.trans (by rw [H1.out]; exact congrArg _ (by rw [hx]; decide))
          have e2 : (x.toList == [100, 101, 98, 97, 116, 101]) = true := eq_beq3 hx
          have M2 : Hid (hasW debW ((X.drop 4).take (j + 1)) = (f2 || true)) := N2.out.trans (by rw [H2.out]; exact congrArg _ (by rw [hx]; decide))
          have e3 : (x.toList == [97, 109, 101, 110, 100]) = false := ne_beq3 (by rw [hx]; decide)
          have M3 : Hid (hasW amW ((X.drop 4).take (j + 1)) = (f3 || false)) := N3.out.trans (by rw [H3.out]; exact congrArg _ (by rw [hx]; decide))
          clear N1 N2 N3 H1 H2 H3 hx
          cases f1 with
          | false =>
            cases f2 with
            | false =>
              cases f3 with
              | false =>
                go_wp2
                go_roundw
                case rel => exact ⟨j + 1, false, true, false, by omega, by go_num, M1, M2, M3, by simpa using (((B9.setv 3 (.bool false)).setv 4 (.bool true)).setv 5 (.bool false)), (((B0.setw hg09 3 _).setw hg09 4 _).setw hg09 5 _), (fun k hk => (cell_setw (cell_setw (cell_setw (HXr.out k hk) hgx9) hgx9) hgx9)), (((hb.setCell hg9w _).setCell hg9w _).setCell hg9w _)⟩
                case measure => simp [intOf]; omega
              | true =>
                go_wp2
                go_roundw
                case rel => exact ⟨j + 1, false, true, true, by omega, by go_num, M1, M2, M3, by simpa using (((B9.setv 3 (.bool false)).setv 4 (.bool true)).setv 5 (.bool true)), (((B0.setw hg09 3 _).setw hg09 4 _).setw hg09 5 _), (fun k hk => (cell_setw (cell_setw (cell_setw (HXr.out k hk) hgx9) hgx9) hgx9)), (((hb.setCell hg9w _).setCell hg9w _).setCell hg9w _)⟩
                case measure => simp [intOf]; omega
            | true =>
              cases f3 with
              | false =>
                go_wp2
                go_roundw
                case rel => exact ⟨j + 1, false, true, false, by omega, by go_num, M1, M2, M3, by simpa using (((B9.setv 3 (.bool false)).setv 4 (.bool true)).setv 5 (.bool false)), (((B0.setw hg09 3 _).setw hg09 4 _).setw hg09 5 _), (fun k hk => (cell_setw (cell_setw (cell_setw (HXr.out k hk) hgx9) hgx9) hgx9)), (((hb.setCell hg9w _).setCell hg9w _).setCell hg9w _)⟩
                case measure => simp [intOf]; omega
              | true =>
                go_wp2
                go_roundw
                case rel => exact ⟨j + 1, false, true, true, by omega, by go_num, M1, M2, M3, by simpa using (((B9.setv 3 (.bool false)).setv 4 (.bool true)).setv 5 (.bool true)), (((B0.setw hg09 3 _).setw hg09 4 _).setw hg09 5 _), (fun k hk => (cell_setw (cell_setw (cell_setw (HXr.out k hk) hgx9) hgx9) hgx9)), (((hb.setCell hg9w _).setCell hg9w _).setCell hg9w _)⟩
                case measure => simp [intOf]; omega
          | true =>
            cases f2 with
            | false =>
              cases f3 with
              | false =>
                go_wp2
                go_roundw
                case rel => exact ⟨j + 1, true, true, false, by omega, by go_num, M1, M2, M3, by simpa using (((B9.setv 3 (.bool true)).setv 4 (.bool true)).setv 5 (.bool false)), (((B0.setw hg09 3 _).setw hg09 4 _).setw hg09 5 _), (fun k hk => (cell_setw (cell_setw (cell_setw (HXr.out k hk) hgx9) hgx9) hgx9)), (((hb.setCell hg9w _).setCell hg9w _).setCell hg9w _)⟩
                case measure => simp [intOf]; omega
              | true =>
                go_wp2
                go_roundw
                case rel => exact ⟨j + 1, true, true, true, by omega, by go_num, M1, M2, M3, by simpa using (((B9.setv 3 (.bool true)).setv 4 (.bool true)).setv 5 (.bool true)), (((B0.setw hg09 3 _).setw hg09 4 _).setw hg09 5 _), (fun k hk => (cell_setw (cell_setw (cell_setw (HXr.out k hk) hgx9) hgx9) hgx9)), (((hb.setCell hg9w _).setCell hg9w _).setCell hg9w _)⟩
                case measure => simp [intOf]; omega
            | true =>
              cases f3 with
              | false =>
                go_wp2
                go_roundw
                case rel => exact ⟨j + 1, true, true, false, by omega, by go_num, M1, M2, M3, by simpa using (((B9.setv 3 (.bool true)).setv 4 (.bool true)).setv 5 (.bool false)), (((B0.setw hg09 3 _).setw hg09 4 _).setw hg09 5 _), (fun k hk => (cell_setw (cell_setw (cell_setw (HXr.out k hk) hgx9) hgx9) hgx9)), (((hb.setCell hg9w _).setCell hg9w _).setCell hg9w _)⟩
                case measure => simp [intOf]; omega
              | true =>
                go_wp2
                go_roundw
                case rel => exact ⟨j + 1, true, true, true, by omega, by go_num, M1, M2, M3, by simpa using (((B9.setv 3 (.bool true)).setv 4 (.bool true)).setv 5 (.bool true)), (((B0.setw hg09 3 _).setw hg09 4 _).setw hg09 5 _), (fun k hk => (cell_setw (cell_setw (cell_setw (HXr.out k hk) hgx9) hgx9) hgx9)), (((hb.setCell hg9w _).setCell hg9w _).setCell hg9w _)⟩
                case measure => simp [intOf]; omega
        · -- am
          have e1 : (x.toList == [115, 101, 99, 111, 110, 100]) = false := ne_beq3 (by rw [hx]; decide)
          have M1 : Hid (hasW secW ((X.drop 4).take (j + 1)) = (f1 || false)) := N1.out.trans (by rw [H1.out]; exact congrArg _ (by rw [hx]; decide))
          have e2 : (x.toList == [100, 101, 98, 97, 116, 101]) = false := ne_beq3 (by rw [hx]; decide)
          have M2 : Hid (hasW debW ((X.drop 4).take (j + 1)) = (f2 || false)) := N2.out.trans (by rw [H2.out]; exact congrArg _ (by rw [hx]; decide))
          have e3 : (x.toList == [97, 109, 101, 110, 100]) = true := eq_beq3 hx
          have M3 : Hid (hasW amW ((X.drop 4).take (j + 1)) = (f3 || true)) := N3.out.trans (by rw [H3.out]; exact congrArg _ (by rw [hx]; decide))
          clear N1 N2 N3 H1 H2 H3 hx
          cases f1 with
          | false =>
            cases f2 with
            | false =>
              cases f3 with
              | false =>
                go_wp2
                go_roundw
                case rel => exact ⟨j + 1, false, false, true, by omega, by go_num, M1, M2, M3, by simpa using (((B9.setv 3 (.bool false)).setv 4 (.bool false)).setv 5 (.bool true)), (((B0.setw hg09 3 _).setw hg09 4 _).setw hg09 5 _), (fun k hk => (cell_setw (cell_setw (cell_setw (HXr.out k hk) hgx9) hgx9) hgx9)), (((hb.setCell hg9w _).setCell hg9w _).setCell hg9w _)⟩
                case measure => simp [intOf]; omega
              | true =>
                go_wp2
                go_roundw
                case rel => exact ⟨j + 1, false, false, true, by omega, by go_num, M1, M2, M3, by simpa using (((B9.setv 3 (.bool false)).setv 4 (.bool false)).setv 5 (.bool true)), (((B0.setw hg09 3 _).setw hg09 4 _).setw hg09 5 _), (fun k hk => (cell_setw (cell_setw (cell_setw (HXr.out k hk) hgx9) hgx9) hgx9)), (((hb.setCell hg9w _).setCell hg9w _).setCell hg9w _)⟩
                case measure => simp [intOf]; omega
            | true =>
              cases f3 with
              | false =>
                go_wp2
                go_roundw
                case rel => exact ⟨j + 1, false, true, true, by omega, by go_num, M1, M2, M3, by simpa using (((B9.setv 3 (.bool false)).setv 4 (.bool true)).setv 5 (.bool true)), (((B0.setw hg09 3 _).setw hg09 4 _).setw hg09 5 _), (fun k hk => (cell_setw (cell_setw (cell_setw (HXr.out k hk) hgx9) hgx9) hgx9)), (((hb.setCell hg9w _).setCell hg9w _).setCell hg9w _)⟩
                case measure => simp [intOf]; omega
              | true =>
                go_wp2
                go_roundw
                case rel => exact ⟨j + 1, false, true, true, by omega, by go_num, M1, M2, M3, by simpa using (((B9.setv 3 (.bool false)).setv 4 (.bool true)).setv 5 (.bool true)), (((B0.setw hg09 3 _).setw hg09 4 _).setw hg09 5 _), (fun k hk => (cell_setw (cell_setw (cell_setw (HXr.out k hk) hgx9) hgx9) hgx9)), (((hb.setCell hg9w _).setCell hg9w _).setCell hg9w _)⟩
                case measure => simp [intOf]; omega
          | true =>
            cases f2 with
            | false =>
              cases f3 with
              | false =>
                go_wp2
                go_roundw
                case rel => exact ⟨j + 1, true, false, true, by omega, by go_num, M1, M2, M3, by simpa using (((B9.setv 3 (.bool true)).setv 4 (.bool false)).setv 5 (.bool true)), (((B0.setw hg09 3 _).setw hg09 4 _).setw hg09 5 _), (fun k hk => (cell_setw (cell_setw (cell_setw (HXr.out k hk) hgx9) hgx9) hgx9)), (((hb.setCell hg9w _).setCell hg9w _).setCell hg9w _)⟩
                case measure => simp [intOf]; omega
              | true =>
                go_wp2
                go_roundw
                case rel => exact ⟨j + 1, true, false, true, by omega, by go_num, M1, M2, M3, by simpa using (((B9.setv 3 (.bool true)).setv 4 (.bool false)).setv 5 (.bool true)), (((B0.setw hg09 3 _).setw hg09 4 _).setw hg09 5 _), (fun k hk => (cell_setw (cell_setw (cell_setw (HXr.out k hk) hgx9) hgx9) hgx9)), (((hb.setCell hg9w _).setCell hg9w _).setCell hg9w _)⟩
                case measure => simp [intOf]; omega
            | true =>
              cases f3 with
              | false =>
                go_wp2
                go_roundw
                case rel => exact ⟨j + 1, true, true, true, by omega, by go_num, M1, M2, M3, by simpa using (((B9.setv 3 (.bool true)).setv 4 (.bool true)).setv 5 (.bool true)), (((B0.setw hg09 3 _).setw hg09 4 _).setw hg09 5 _), (fun k hk => (cell_setw (cell_setw (cell_setw (HXr.out k hk) hgx9) hgx9) hgx9)), (((hb.setCell hg9w _).setCell hg9w _).setCell hg9w _)⟩
                case measure => simp [intOf]; omega
              | true =>
                go_wp2
                go_roundw
                case rel => exact ⟨j + 1, true, true, true, by omega, by go_num, M1, M2, M3, by simpa using (((B9.setv 3 (.bool true)).setv 4 (.bool true)).setv 5 (.bool true)), (((B0.setw hg09 3 _).setw hg09 4 _).setw hg09 5 _), (fun k hk => (cell_setw (cell_setw (cell_setw (HXr.out k hk) hgx9) hgx9) hgx9)), (((hb.setCell hg9w _).setCell hg9w _).setCell hg9w _)⟩
                case measure => simp [intOf]; omega
        · -- no
          have e1 : (x.toList == [115, 101, 99, 111, 110, 100]) = false := ne_beq3 hx
          have M1 : Hid (hasW secW ((X.drop 4).take (j + 1)) = (f1 || false)) := N1.out.trans (by rw [H1.out]; exact congrArg _ (ne_beq hx))
          have e2 : (x.toList == [100, 101, 98, 97, 116, 101]) = false := ne_beq3 hx2
          have M2 : Hid (hasW debW ((X.drop 4).take (j + 1)) = (f2 || false)) := N2.out.trans (by rw [H2.out]; exact congrArg _ (ne_beq hx2))
          have e3 : (x.toList == [97, 109, 101, 110, 100]) = false := ne_beq3 hx3
          have M3 : Hid (hasW amW ((X.drop 4).take (j + 1)) = (f3 || false)) := N3.out.trans (by rw [H3.out]; exact congrArg _ (ne_beq hx3))
          clear N1 N2 N3 H1 H2 H3 hx hx2 hx3
          cases f1 with
          | false =>
            cases f2 with
            | false =>
              cases f3 with
              | false =>
                go_wp2
                go_roundw
                case rel => exact ⟨j + 1, false, false, false, by omega, by go_num, M1, M2, M3, by simpa using (((B9.setv 3 (.bool false)).setv 4 (.bool false)).setv 5 (.bool false)), (((B0.setw hg09 3 _).setw hg09 4 _).setw hg09 5 _), (fun k hk => (cell_setw (cell_setw (cell_setw (HXr.out k hk) hgx9) hgx9) hgx9)), (((hb.setCell hg9w _).setCell hg9w _).setCell hg9w _)⟩
                case measure => simp [intOf]; omega
              | true =>
                go_wp2
                go_roundw
                case rel => exact ⟨j + 1, false, false, true, by omega, by go_num, M1, M2, M3, by simpa using (((B9.setv 3 (.bool false)).setv 4 (.bool false)).setv 5 (.bool true)), (((B0.setw hg09 3 _).setw hg09 4 _).setw hg09 5 _), (fun k hk => (cell_setw (cell_setw (cell_setw (HXr.out k hk) hgx9) hgx9) hgx9)), (((hb.setCell hg9w _).setCell hg9w _).setCell hg9w _)⟩
                case measure => simp [intOf]; omega
            | true =>
              cases f3 with
              | false =>
                go_wp2
                go_roundw
                case rel => exact ⟨j + 1, false, true, false, by omega, by go_num, M1, M2, M3, by simpa using (((B9.setv 3 (.bool false)).setv 4 (.bool true)).setv 5 (.bool false)), (((B0.setw hg09 3 _).setw hg09 4 _).setw hg09 5 _), (fun k hk => (cell_setw (cell_setw (cell_setw (HXr.out k hk) hgx9) hgx9) hgx9)), (((hb.setCell hg9w _).setCell hg9w _).setCell hg9w _)⟩
                case measure => simp [intOf]; omega
              | true =>
                go_wp2
                go_roundw
                case rel => exact ⟨j + 1, false, true, true, by omega, by go_num, M1, M2, M3, by simpa using (((B9.setv 3 (.bool false)).setv 4 (.bool true)).setv 5 (.bool true)), (((B0.setw hg09 3 _).setw hg09 4 _).setw hg09 5 _), (fun k hk => (cell_setw (cell_setw (cell_setw (HXr.out k hk) hgx9) hgx9) hgx9)), (((hb.setCell hg9w _).setCell hg9w _).setCell hg9w _)⟩
                case measure => simp [intOf]; omega
          | true =>
            cases f2 with
            | false =>
              cases f3 with
              | false =>
                go_wp2
                go_roundw
                case rel => exact ⟨j + 1, true, false, false, by omega, by go_num, M1, M2, M3, by simpa using (((B9.setv 3 (.bool true)).setv 4 (.bool false)).setv 5 (.bool false)), (((B0.setw hg09 3 _).setw hg09 4 _).setw hg09 5 _), (fun k hk => (cell_setw (cell_setw (cell_setw (HXr.out k hk) hgx9) hgx9) hgx9)), (((hb.setCell hg9w _).setCell hg9w _).setCell hg9w _)⟩
                case measure => simp [intOf]; omega
              | true =>
                go_wp2
                go_roundw
                case rel => exact ⟨j + 1, true, false, true, by omega, by go_num, M1, M2, M3, by simpa using (((B9.setv 3 (.bool true)).setv 4 (.bool false)).setv 5 (.bool true)), (((B0.setw hg09 3 _).setw hg09 4 _).setw hg09 5 _), (fun k hk => (cell_setw (cell_setw (cell_setw (HXr.out k hk) hgx9) hgx9) hgx9)), (((hb.setCell hg9w _).setCell hg9w _).setCell hg9w _)⟩
                case measure => simp [intOf]; omega
            | true =>
              cases f3 with
              | false =>
                go_wp2
                go_roundw
                case rel => exact ⟨j + 1, true, true, false, by omega, by go_num, M1, M2, M3, by simpa using (((B9.setv 3 (.bool true)).setv 4 (.bool true)).setv 5 (.bool false)), (((B0.setw hg09 3 _).setw hg09 4 _).setw hg09 5 _), (fun k hk => (cell_setw (cell_setw (cell_setw (HXr.out k hk) hgx9) hgx9) hgx9)), (((hb.setCell hg9w _).setCell hg9w _).setCell hg9w _)⟩
                case measure => simp [intOf]; omega
              | true =>
                go_wp2
                go_roundw
                case rel => exact ⟨j + 1, true, true, true, by omega, by go_num, M1, M2, M3, by simpa using (((B9.setv 3 (.bool true)).setv 4 (.bool true)).setv 5 (.bool true)), (((B0.setw hg09 3 _).setw hg09 4 _).setw hg09 5 _), (fun k hk => (cell_setw (cell_setw (cell_setw (HXr.out k hk) hgx9) hgx9) hgx9)), (((hb.setCell hg9w _).setCell hg9w _).setCell hg9w _)⟩
                case measure => simp [intOf]; omega
      · have hjI : ¬ (j : Int) < (q : Int) := by omega
        have hjq : j = q := by omega
        have hdl : (X.drop 4).length = q := by rw [List.length_drop]; have := Hq.out; omega
        have HR : Hid (ruleI X = ⟨i0, x1, i3, f1, f2, f3, nd⟩) := by
          show _ = _
          have h1 := H1.out; have h2 := H2.out; have h3 := H3.out
          rw [hjq, ← hdl, List.take_length] at h1 h2 h3
          rw [hRI.out, h1, h2, h3]
        clear H1 H2 H3 hdl hjq HXr
        obtain ⟨R, hRe⟩ : ∃ R : Rul, R = ⟨i0, x1, i3, f1, f2, f3, nd⟩ := ⟨_, rfl⟩
        have HRX : Hid (ruleI X = R) := HR.out.trans hRe.symm
        have HE : Hid (Ending.returned (.tuple #[.agg #[.int .i64 i0, .string x1, .int .i64 i3, .bool f1, .bool f2, .bool f3, .int .i64 nd], .bool true]) = .returned (.tuple #[.agg #[.int .i64 R.id, .string R.name, .int .i64 R.rank, .bool R.sec, .bool R.deb, .bool R.am, .int .i64 R.need], .bool true])) := by rw [hRe]; rfl
        have Hv : Hid (∀ w1, Calls Tryd.prog 26 #[.agg #[.int .i64 i0, .string x1, .int .i64 i3, .bool f1, .bool f2, .bool f3, .int .i64 nd]] w1 fun e w' => e = .returned (.bool (rulOk R)) ∧ Below w1.heap.size w1 w') := fun w1 => by
          have := isRule_any R w1 (by rw [hRe]; unfold maxLen; show x1.size ≤ _; omega)
          rw [hRe] at this ⊢
          exact this
        have Hl : Hid (rulOk R = true → ∀ w1, Below w.heap.size w w1 → Calls Tryd.prog 34 #[.agg #[.int .i64 i0, .string x1, .int .i64 i3, .bool f1, .bool f2, .bool f3, .int .i64 nd]] w1 fun e w' => e = .returned (.string (lineB R)) ∧ Below w1.heap.size w1 w') := fun h w1 hb => by
          have := ruleLine_any R w1 h (HNd.out _ hb)
          rw [hRe] at this ⊢
          exact this
        clear hRe HR
        cases b0 with
        | false =>
          have y0 := B9.cell (j := 0) rfl
          have y1 := B9.cell (j := 1) rfl
          have y2 := B9.cell (j := 2) rfl
          have y3 := B9.cell (j := 3) rfl
          have y4 := B9.cell (j := 4) rfl
          have y5 := B9.cell (j := 5) rfl
          have y6 := B9.cell (j := 6) rfl
          have f0 := B0.cell (j := 0) rfl
          have z0 := B0.frozen 0
          have f1 := B0.cell (j := 1) rfl
          have z1 := B0.frozen 1
          have f2 := B0.cell (j := 2) rfl
          have z2 := B0.frozen 2
          have f3 := B0.cell (j := 3) rfl
          have z3 := B0.frozen 3
          have f4 := B0.cell (j := 4) rfl
          have z4 := B0.frozen 4
          have f5 := B0.cell (j := 5) rfl
          have z5 := B0.frozen 5
          have f6 := B0.cell (j := 6) rfl
          have z6 := B0.frozen 6
          go_wp2
          exact bodyPost_ret (v := .tuple #[.agg #[.int .i64 0, .string ⟨#[]⟩, .int .i64 0, .bool false, .bool false, .bool false, .int .i64 0], .bool false]) (by simp [results, Tryd.results18, go_sem, f0, f1, f2, f3, f4, f5, f6]) rfl (by first | exact ⟨rul0, false, rfl, .inr ⟨rfl, rfl, fun r' q1 q2 => absurd (HNO.out r' q1 q2).2.1 (by decide)⟩, (((((((hb).setCell (Nat.le_refl _) _).setCell (Nat.le_refl _) _).setCell (Nat.le_refl _) _).setCell (Nat.le_refl _) _).setCell (Nat.le_refl _) _).setCell (Nat.le_refl _) _).setCell (Nat.le_refl _) _⟩ | exact ⟨rul0, .inl ⟨rfl, .inr ⟨rfl, rfl, fun r' q1 q2 => absurd (HNO.out r' q1 q2).2.1 (by decide)⟩, (((((((hb).setCell (Nat.le_refl _) _).setCell (Nat.le_refl _) _).setCell (Nat.le_refl _) _).setCell (Nat.le_refl _) _).setCell (Nat.le_refl _) _).setCell (Nat.le_refl _) _).setCell (Nat.le_refl _) _⟩⟩)
        | true =>
          cases b3 with
          | false =>
            have y0 := B9.cell (j := 0) rfl
            have y1 := B9.cell (j := 1) rfl
            have y2 := B9.cell (j := 2) rfl
            have y3 := B9.cell (j := 3) rfl
            have y4 := B9.cell (j := 4) rfl
            have y5 := B9.cell (j := 5) rfl
            have y6 := B9.cell (j := 6) rfl
            have f0 := B0.cell (j := 0) rfl
            have z0 := B0.frozen 0
            have f1 := B0.cell (j := 1) rfl
            have z1 := B0.frozen 1
            have f2 := B0.cell (j := 2) rfl
            have z2 := B0.frozen 2
            have f3 := B0.cell (j := 3) rfl
            have z3 := B0.frozen 3
            have f4 := B0.cell (j := 4) rfl
            have z4 := B0.frozen 4
            have f5 := B0.cell (j := 5) rfl
            have z5 := B0.frozen 5
            have f6 := B0.cell (j := 6) rfl
            have z6 := B0.frozen 6
            go_wp2
            exact bodyPost_ret (v := .tuple #[.agg #[.int .i64 0, .string ⟨#[]⟩, .int .i64 0, .bool false, .bool false, .bool false, .int .i64 0], .bool false]) (by simp [results, Tryd.results18, go_sem, f0, f1, f2, f3, f4, f5, f6]) rfl (by first | exact ⟨rul0, false, rfl, .inr ⟨rfl, rfl, fun r' q1 q2 => absurd (HNO.out r' q1 q2).2.2.1 (by decide)⟩, (((((((hb).setCell (Nat.le_refl _) _).setCell (Nat.le_refl _) _).setCell (Nat.le_refl _) _).setCell (Nat.le_refl _) _).setCell (Nat.le_refl _) _).setCell (Nat.le_refl _) _).setCell (Nat.le_refl _) _⟩ | exact ⟨rul0, .inl ⟨rfl, .inr ⟨rfl, rfl, fun r' q1 q2 => absurd (HNO.out r' q1 q2).2.2.1 (by decide)⟩, (((((((hb).setCell (Nat.le_refl _) _).setCell (Nat.le_refl _) _).setCell (Nat.le_refl _) _).setCell (Nat.le_refl _) _).setCell (Nat.le_refl _) _).setCell (Nat.le_refl _) _).setCell (Nat.le_refl _) _⟩⟩)
          | true =>
            have y0 := B9.cell (j := 0) rfl
            have y1 := B9.cell (j := 1) rfl
            have y2 := B9.cell (j := 2) rfl
            have y3 := B9.cell (j := 3) rfl
            have y4 := B9.cell (j := 4) rfl
            have y5 := B9.cell (j := 5) rfl
            have y6 := B9.cell (j := 6) rfl
            cases hok : rulOk R with
            | false =>
              rw [hok] at Hv
              go_wp2_with fail
              refine (Hv.out _).mono ?_
              rintro e w20 ⟨rfl, hb20⟩
              have hbE := btr hb hb20
              have BE := B0.below hb20
              have f0 := BE.cell (j := 0) rfl
              have z0 := BE.frozen 0
              have f1 := BE.cell (j := 1) rfl
              have z1 := BE.frozen 1
              have f2 := BE.cell (j := 2) rfl
              have z2 := BE.frozen 2
              have f3 := BE.cell (j := 3) rfl
              have z3 := BE.frozen 3
              have f4 := BE.cell (j := 4) rfl
              have z4 := BE.frozen 4
              have f5 := BE.cell (j := 5) rfl
              have z5 := BE.frozen 5
              have f6 := BE.cell (j := 6) rfl
              have z6 := BE.frozen 6
              go_wp2
              exact bodyPost_ret (v := .tuple #[.agg #[.int .i64 0, .string ⟨#[]⟩, .int .i64 0, .bool false, .bool false, .bool false, .int .i64 0], .bool false]) (by simp [results, Tryd.results18, go_sem, f0, f1, f2, f3, f4, f5, f6]) rfl (by first | exact ⟨rul0, false, rfl, .inr ⟨rfl, rfl, fun r' q1 q2 => by have h1 := (HNO.out r' q1 q2).2.2.2.1; rw [HRX.out] at h1; rw [h1] at hok; rw [q1] at hok; cases hok⟩, (((((((hbE).setCell (Nat.le_refl _) _).setCell (Nat.le_refl _) _).setCell (Nat.le_refl _) _).setCell (Nat.le_refl _) _).setCell (Nat.le_refl _) _).setCell (Nat.le_refl _) _).setCell (Nat.le_refl _) _⟩ | exact ⟨rul0, .inl ⟨rfl, .inr ⟨rfl, rfl, fun r' q1 q2 => by have h1 := (HNO.out r' q1 q2).2.2.2.1; rw [HRX.out] at h1; rw [h1] at hok; rw [q1] at hok; cases hok⟩, (((((((hbE).setCell (Nat.le_refl _) _).setCell (Nat.le_refl _) _).setCell (Nat.le_refl _) _).setCell (Nat.le_refl _) _).setCell (Nat.le_refl _) _).setCell (Nat.le_refl _) _).setCell (Nat.le_refl _) _⟩⟩)
            | true =>
              rw [hok] at Hv
              have Hl2 := Lib.hid (Hl.out hok)
              clear Hl
              go_wp2_with fail
              refine (Hv.out _).mono ?_
              rintro e w20 ⟨rfl, hb20⟩
              have hb21 := btr hb hb20
              replace B9 := B9.below hb20
              replace B0 := B0.below hb20
              clear y0 y1 y2 y3 y4 y5 y6
              have y0 := B9.cell (j := 0) rfl
              have y1 := B9.cell (j := 1) rfl
              have y2 := B9.cell (j := 2) rfl
              have y3 := B9.cell (j := 3) rfl
              have y4 := B9.cell (j := 4) rfl
              have y5 := B9.cell (j := 5) rfl
              have y6 := B9.cell (j := 6) rfl
              go_wp2_with fail
              refine (Hl2.out _ hb21).mono ?_
              rintro e w22 ⟨rfl, hb22⟩
              have hbE := btr hb21 hb22
              replace B9 := B9.below hb22
              have BE := B0.below hb22
              clear y0 y1 y2 y3 y4 y5 y6
              have y0 := B9.cell (j := 0) rfl
              have y1 := B9.cell (j := 1) rfl
              have y2 := B9.cell (j := 2) rfl
              have y3 := B9.cell (j := 3) rfl
              have y4 := B9.cell (j := 4) rfl
              have y5 := B9.cell (j := 5) rfl
              have y6 := B9.cell (j := 6) rfl
              by_cases hline : lineB R = s
              · rw [hline]
                have f0_ := BE.cell (j := 0) rfl
                have z0_ := BE.frozen 0
                have f1_ := BE.cell (j := 1) rfl
                have z1_ := BE.frozen 1
                have f2_ := BE.cell (j := 2) rfl
                have z2_ := BE.frozen 2
                have f3_ := BE.cell (j := 3) rfl
                have z3_ := BE.frozen 3
                have f4_ := BE.cell (j := 4) rfl
                have z4_ := BE.frozen 4
                have f5_ := BE.cell (j := 5) rfl
                have z5_ := BE.frozen 5
                have f6_ := BE.cell (j := 6) rfl
                have z6_ := BE.frozen 6
                go_wp2
                exact bodyPost_ret (v := .tuple #[.agg #[.int .i64 i0, .string x1, .int .i64 i3, .bool f1, .bool f2, .bool f3, .int .i64 nd], .bool true]) (by simp [results, Tryd.results18, go_sem, f0_, f1_, f2_, f3_, f4_, f5_, f6_]) rfl (by first | exact ⟨R, true, HE.out, .inl ⟨rfl, hok, hline⟩, (((((((hbE).setCell (Nat.le_refl _) _).setCell (Nat.le_refl _) _).setCell (Nat.le_refl _) _).setCell (Nat.le_refl _) _).setCell (Nat.le_refl _) _).setCell (Nat.le_refl _) _).setCell (Nat.le_refl _) _⟩ | exact ⟨R, .inr ⟨HE.out, .inl ⟨rfl, hok, hline⟩, (((((((hbE).setCell (Nat.le_refl _) _).setCell (Nat.le_refl _) _).setCell (Nat.le_refl _) _).setCell (Nat.le_refl _) _).setCell (Nat.le_refl _) _).setCell (Nat.le_refl _) _).setCell (Nat.le_refl _) _⟩⟩)
              · have hl2 : ((lineB R).toList == s.toList) = false := ne_beq2 hline
                have hl3 : (lineB R == s) = false := by rw [beq_toListBytes]; exact hl2
                have f0 := BE.cell (j := 0) rfl
                have z0 := BE.frozen 0
                have f1 := BE.cell (j := 1) rfl
                have z1 := BE.frozen 1
                have f2 := BE.cell (j := 2) rfl
                have z2 := BE.frozen 2
                have f3 := BE.cell (j := 3) rfl
                have z3 := BE.frozen 3
                have f4 := BE.cell (j := 4) rfl
                have z4 := BE.frozen 4
                have f5 := BE.cell (j := 5) rfl
                have z5 := BE.frozen 5
                have f6 := BE.cell (j := 6) rfl
                have z6 := BE.frozen 6
                go_wp2
                exact bodyPost_ret (v := .tuple #[.agg #[.int .i64 0, .string ⟨#[]⟩, .int .i64 0, .bool false, .bool false, .bool false, .int .i64 0], .bool false]) (by simp [results, Tryd.results18, go_sem, f0, f1, f2, f3, f4, f5, f6]) rfl (by first | exact ⟨rul0, false, rfl, .inr ⟨rfl, rfl, fun r' q1 q2 => by have h1 := (HNO.out r' q1 q2).2.2.2.1; rw [HRX.out] at h1; rw [← h1] at q2; exact hline q2⟩, (((((((hbE).setCell (Nat.le_refl _) _).setCell (Nat.le_refl _) _).setCell (Nat.le_refl _) _).setCell (Nat.le_refl _) _).setCell (Nat.le_refl _) _).setCell (Nat.le_refl _) _).setCell (Nat.le_refl _) _⟩ | exact ⟨rul0, .inl ⟨rfl, .inr ⟨rfl, rfl, fun r' q1 q2 => by have h1 := (HNO.out r' q1 q2).2.2.2.1; rw [HRX.out] at h1; rw [← h1] at q2; exact hline q2⟩, (((((((hbE).setCell (Nat.le_refl _) _).setCell (Nat.le_refl _) _).setCell (Nat.le_refl _) _).setCell (Nat.le_refl _) _).setCell (Nat.le_refl _) _).setCell (Nat.le_refl _) _).setCell (Nat.le_refl _) _⟩⟩)
  · have HB : inB (X.length : Int) 6 9 = false := inB_no (by omega)
    have f0 := B0.cell (j := 0) rfl
    have z0 := B0.frozen 0
    have f1 := B0.cell (j := 1) rfl
    have z1 := B0.frozen 1
    have f2 := B0.cell (j := 2) rfl
    have z2 := B0.frozen 2
    have f3 := B0.cell (j := 3) rfl
    have z3 := B0.frozen 3
    have f4 := B0.cell (j := 4) rfl
    have z4 := B0.frozen 4
    have f5 := B0.cell (j := 5) rfl
    have z5 := B0.frozen 5
    have f6 := B0.cell (j := 6) rfl
    have z6 := B0.frozen 6
    go_wp2_with (go_at_call 40; refine (inside_any _ _ _ _).mono ?_; rintro e w9 ⟨rfl, rfl⟩)
    exact bodyPost_ret (v := .tuple #[.agg #[.int .i64 0, .string ⟨#[]⟩, .int .i64 0, .bool false, .bool false, .bool false, .int .i64 0], .bool false]) (by simp [results, Tryd.results18, go_sem, f0, f1, f2, f3, f4, f5, f6]) rfl (by first | exact ⟨rul0, false, rfl, .inr ⟨rfl, rfl, fun r' q1 q2 => hL (HNO.out r' q1 q2).1⟩, (((((((hb1).setCell (Nat.le_refl _) _).setCell (Nat.le_refl _) _).setCell (Nat.le_refl _) _).setCell (Nat.le_refl _) _).setCell (Nat.le_refl _) _).setCell (Nat.le_refl _) _).setCell (Nat.le_refl _) _⟩ | exact ⟨rul0, .inl ⟨rfl, .inr ⟨rfl, rfl, fun r' q1 q2 => hL (HNO.out r' q1 q2).1⟩, (((((((hb1).setCell (Nat.le_refl _) _).setCell (Nat.le_refl _) _).setCell (Nat.le_refl _) _).setCell (Nat.le_refl _) _).setCell (Nat.le_refl _) _).setCell (Nat.le_refl _) _).setCell (Nat.le_refl _) _⟩⟩)
theorem l2NeedsRow_any (w : World) : Calls Tryd.prog 58 #[] w fun e w' => ∃ u, e = .returned u ∧ w'.ownsRow w.heap.size 9 1 u 4 [.string need0, .string need1, .string need2, .string need3] ∧ w.grownBy w' none := by
  have ho := own_lit (e := 9) (size := 1) (B := w.heap.size) (w := w) #[.string need0, .string need1, .string need2, .string need3] 4 (Nat.le_refl _) (by unfold maxLen; omega) rfl
  go_enter Tryd.func58, Tryd.ntmps58
  go_wp2
  go_ret
  exact ⟨_, rfl, ho, grown_alloc w _⟩
theorem own_need {w : World} {B c : Nat} {A : Option Addr} {e : TypeId} (h : w.ownsRow B e 1 (.slice A 4 c) 4 [.string need0, .string need1, .string need2, .string need3]) : ∃ g, A = some ⟨g, 0, none⟩ ∧ NeedAt w g := by
  rcases h.2 with ⟨h2, _⟩ | ⟨g, cap, cur, hv, _⟩
  · simp at h2
  · simp only [Value.slice.injEq, true_and] at hv
    obtain ⟨rfl, rfl⟩ := hv
    refine ⟨g, rfl, fun k hk => ?_⟩
    rw [h.cellAt k (by omega)]
    match k, hk with
    | 0, _ => rfl
    | 1, _ => rfl
    | 2, _ => rfl
    | 3, _ => rfl
set_option maxHeartbeats 8000000 in
set_option maxRecDepth 100000 in
theorem l2Parse_any (s : ByteArray) (w : World) (hs : s.size ≤ 1048576) :
    Calls Tryd.prog 38 #[.string s] w fun e w' => ∃ (r : Rul) (b : Bool), e = .returned (.tuple #[.agg #[.int .i64 r.id, .string r.name, .int .i64 r.rank, .bool r.sec, .bool r.deb, .bool r.am, .int .i64 r.need], .bool b]) ∧ IsParse s r b ∧ Below w.heap.size w w' := by
  have HS : Hid (∀ w1, Calls Tryd.prog 43 #[.string s, .int .u8 32] w1 fun e w' => ∃ A' c', e = .returned (.slice A' (splitL s 32).length c') ∧ w'.ownsRow w1.heap.size 9 1 (.slice A' (splitL s 32).length c') (splitL s 32).length (sCells (splitL s 32)) ∧ Below w1.heap.size w1 w') := fun w1 => l1Split_any s 32 w1 hs
  have HBL := Lib.hid (splitL_bl s 32)
  have HNO : Hid (∀ r', rulOk r' = true → lineB r' = s → (6 ≤ (splitL s 32).length ∧ (splitL s 32).length ≤ 9) ∧ (readR (at_ (splitL s 32) 0)).2 = true ∧ (readR (at_ (splitL s 32) 3)).2 = true ∧ ruleI (splitL s 32) = r' ∧ ruleS (splitL s 32) = r') := fun r' h1 h2 => parse_all h1 (HBL.out.trans (by rw [← h2]; exact words_split (rul_parts h1).2.1))
  have HSZ : Hid (∀ x ∈ splitL s 32, x.size ≤ s.size) := splitL_sz s 32
  have HP : Hid (∀ y w1, y.size ≤ 1048576 → Calls Tryd.prog 60 #[.string y] w1 fun e w' => e = .returned (.tuple #[.int .i64 (readR y).1, .bool (readR y).2]) ∧ Below w1.heap.size w1 w') := fun y w1 hy => l1Read_any y w1 hy
  clear HBL
  have hXp := splitL_pos s 32
  generalize splitL s 32 = X at *
  go_enter Tryd.func38, Tryd.ntmps38
  go_wp2_with fail
  have hb00 : Below w.heap.size w (w.alloc (.cells #[.int .i64 0, .string ⟨#[]⟩, .int .i64 0, .bool false, .bool false, .bool false, .int .i64 0] 27)) := bnew (Below.refl _ _) _
  have hb0 : Below w.heap.size w ((w.alloc (.cells #[.int .i64 0, .string ⟨#[]⟩, .int .i64 0, .bool false, .bool false, .bool false, .int .i64 0] 27)).alloc (.cells #[.int .i64 0, .string ⟨#[]⟩, .int .i64 0, .bool false, .bool false, .bool false, .int .i64 0] 27)) := bnew hb00 _
  have B0 : Blk ((w.alloc (.cells #[.int .i64 0, .string ⟨#[]⟩, .int .i64 0, .bool false, .bool false, .bool false, .int .i64 0] 27)).alloc (.cells #[.int .i64 0, .string ⟨#[]⟩, .int .i64 0, .bool false, .bool false, .bool false, .int .i64 0] 27)) w.heap.size 27 [.int .i64 0, .string ⟨#[]⟩, .int .i64 0, .bool false, .bool false, .bool false, .int .i64 0] := (blk_new w #[.int .i64 0, .string ⟨#[]⟩, .int .i64 0, .bool false, .bool false, .bool false, .int .i64 0] 27).below (bnew (Below.refl _ _) _)
  have BN : Blk ((w.alloc (.cells #[.int .i64 0, .string ⟨#[]⟩, .int .i64 0, .bool false, .bool false, .bool false, .int .i64 0] 27)).alloc (.cells #[.int .i64 0, .string ⟨#[]⟩, .int .i64 0, .bool false, .bool false, .bool false, .int .i64 0] 27)) (w.heap.size + 1) 27 [.int .i64 0, .string ⟨#[]⟩, .int .i64 0, .bool false, .bool false, .bool false, .int .i64 0] := by
    have := blk_new (w.alloc (.cells #[.int .i64 0, .string ⟨#[]⟩, .int .i64 0, .bool false, .bool false, .bool false, .int .i64 0] 27)) #[.int .i64 0, .string ⟨#[]⟩, .int .i64 0, .bool false, .bool false, .bool false, .int .i64 0] 27
    simpa using this
  generalize (w.alloc (.cells #[.int .i64 0, .string ⟨#[]⟩, .int .i64 0, .bool false, .bool false, .bool false, .int .i64 0] 27)).alloc (.cells #[.int .i64 0, .string ⟨#[]⟩, .int .i64 0, .bool false, .bool false, .bool false, .int .i64 0] 27) = W0 at *
  refine (HS.out W0).mono ?_
  rintro e w1 ⟨A1, cc, rfl, ho1, hb01⟩
  have hb1 := btr hb0 hb01
  have hgN := BN.lt
  replace B0 := B0.below hb01
  replace BN := BN.below hb01
  obtain ⟨gx, rfl, hgx, hcell, hlc⟩ : ∃ gx, A1 = some ⟨gx, 0, none⟩ ∧ W0.heap.size ≤ gx ∧ (∀ j (hj : j < X.length), w1.cell? ⟨gx, j, none⟩ = some (.string X[j])) ∧ X.length ≤ cc := by
    obtain ⟨b, off, rfl, _⟩ := Rd.strs (own_rd ho1) hXp
    rcases ho1.2 with ⟨h2, _⟩ | ⟨g, cap, cur, hv, hg, hh, hc, _⟩
    · simp at h2
    · simp only [Value.slice.injEq, Option.some.injEq, Addr.mk.injEq, and_true, true_and] at hv
      obtain ⟨⟨rfl, rfl⟩, rfl⟩ := hv
      refine ⟨b, rfl, hg, fun j hj => ?_, hc⟩
      obtain ⟨b', off', e', c0⟩ := Rd.strs (own_rd ho1) hj
      simp only [Option.some.injEq, Addr.mk.injEq, and_true] at e'
      obtain ⟨rfl, rfl⟩ := e'
      simpa using c0
  clear ho1 HS hb00 hb0 hb01
  by_cases h80 : s.size ≤ 80
  rotate_left
  · have h80I : (80 : Int) < (s.size : Int) := by omega
    have f0 := B0.cell (j := 0) rfl
    have z0 := B0.frozen 0
    have f1 := B0.cell (j := 1) rfl
    have z1 := B0.frozen 1
    have f2 := B0.cell (j := 2) rfl
    have z2 := B0.frozen 2
    have f3 := B0.cell (j := 3) rfl
    have z3 := B0.frozen 3
    have f4 := B0.cell (j := 4) rfl
    have z4 := B0.frozen 4
    have f5 := B0.cell (j := 5) rfl
    have z5 := B0.frozen 5
    have f6 := B0.cell (j := 6) rfl
    have z6 := B0.frozen 6
    have n0_ := BN.cell (j := 0) rfl
    have n1_ := BN.cell (j := 1) rfl
    have n2_ := BN.cell (j := 2) rfl
    have n3_ := BN.cell (j := 3) rfl
    have n4_ := BN.cell (j := 4) rfl
    have n5_ := BN.cell (j := 5) rfl
    have n6_ := BN.cell (j := 6) rfl
    go_wp2
    exact bodyPost_ret (v := .tuple #[.agg #[.int .i64 0, .string ⟨#[]⟩, .int .i64 0, .bool false, .bool false, .bool false, .int .i64 0], .bool false]) (by simp [results, Tryd.results38, go_sem, f0, f1, f2, f3, f4, f5, f6]) rfl (by first | exact ⟨rul0, false, rfl, .inr ⟨rfl, rfl, fun r' q1 q2 => h80 (by have := line_size q1; rw [q2] at this; exact this)⟩, (((((((hb1).setCell (Nat.le_refl _) _).setCell (Nat.le_refl _) _).setCell (Nat.le_refl _) _).setCell (Nat.le_refl _) _).setCell (Nat.le_refl _) _).setCell (Nat.le_refl _) _).setCell (Nat.le_refl _) _⟩ | exact ⟨rul0, .inl ⟨rfl, .inr ⟨rfl, rfl, fun r' q1 q2 => h80 (by have := line_size q1; rw [q2] at this; exact this)⟩, (((((((hb1).setCell (Nat.le_refl _) _).setCell (Nat.le_refl _) _).setCell (Nat.le_refl _) _).setCell (Nat.le_refl _) _).setCell (Nat.le_refl _) _).setCell (Nat.le_refl _) _).setCell (Nat.le_refl _) _⟩⟩)
  have h80I : ¬ (80 : Int) < (s.size : Int) := by omega
  by_cases hL : 6 ≤ X.length ∧ X.length ≤ 9
  · obtain ⟨hL6, hL9⟩ := hL
    have HB : inB (X.length : Int) 6 9 = true := inB_yes (by omega)
    obtain ⟨m, hm⟩ : ∃ m, X.length = m + 1 := ⟨X.length - 1, by omega⟩
    have c0 : w1.cell? ⟨gx, 0, none⟩ = some (.string (at_ X 0)) := by rw [at_eq (by omega)]; exact hcell 0 _
    have c1 : w1.cell? ⟨gx, 1, none⟩ = some (.string (at_ X 1)) := by rw [at_eq (by omega)]; exact hcell 1 _
    have c3 : w1.cell? ⟨gx, 3, none⟩ = some (.string (at_ X 3)) := by rw [at_eq (by omega)]; exact hcell 3 _
    have cl : w1.cell? ⟨gx, m, none⟩ = some (.string (at_ X m)) := by rw [at_eq (by omega)]; exact hcell m _
    have hz0 : (at_ X 0).size ≤ 1048576 := by rw [at_eq (by omega)]; exact Nat.le_trans (HSZ.out _ (List.getElem_mem _)) hs
    have hz3 : (at_ X 3).size ≤ 1048576 := by rw [at_eq (by omega)]; exact Nat.le_trans (HSZ.out _ (List.getElem_mem _)) hs
    have HC := Lib.hid hcell
    clear hcell
    have hL6I : (6 : Int) ≤ (X.length : Int) := by omega
    have hL9I : (X.length : Int) ≤ 9 := by omega
    have hmI : (m : Int) < (X.length : Int) := by omega
    have hm1 : (X.length : Int) - 1 = (m : Int) := by omega
    have hmw : IntKind.i64.wrap ((X.length : Int) - 1) = (m : Int) := by rw [IntKind.wrap_i64]; omega
    have Hm := Lib.hid hm
    clear hm
    go_wp2_with (go_at_call 55; refine (l1In_any _ _ _ _).mono ?_; rintro e w9 ⟨rfl, rfl⟩)
    refine (HP.out _ _ hz0).mono ?_
    rintro e w2 ⟨rfl, hb12⟩
    have hb2 := btr hb1 hb12
    replace c0 := cell_bw c0 hb12
    replace c1 := cell_bw c1 hb12
    replace c3 := cell_bw c3 hb12
    replace cl := cell_bw cl hb12
    replace B0 := B0.below hb12
    replace BN := BN.below hb12
    go_wp2_with fail
    refine (HP.out _ _ hz3).mono ?_
    rintro e w3 ⟨rfl, hb23⟩
    have hb3 := btr hb2 hb23
    replace c1 := cell_bw c1 hb23
    replace cl := cell_bw cl hb23
    replace B0 := B0.below hb23
    replace BN := BN.below hb23
    have HX : Hid (∀ j (hj : j < X.length), w3.cell? ⟨gx, j, none⟩ = some (.string X[j])) := fun j hj => cell_bw (HC.out j hj) (btr hb12 hb23)
    clear c0 c3 HP HC hb12 hb23 hb1 hb2 hz0 hz3
    have hRI : Hid (ruleS X = ⟨(readR (at_ X 0)).1, at_ X 1, (readR (at_ X 3)).1, hasW secW ((X.take (X.length - 2)).drop 4), hasW debW ((X.take (X.length - 2)).drop 4), hasW amW ((X.take (X.length - 2)).drop 4), needS (at_ X m)⟩) := by show _ = _; rw [show m = X.length - 1 by have := Hm.out; omega]; rfl
    generalize readR (at_ X 0) = R0 at *
    generalize readR (at_ X 3) = R3 at *
    obtain ⟨i0, b0⟩ := R0
    obtain ⟨i3, b3⟩ := R3
    have hx1 : (at_ X 1).size ≤ s.size := by rw [at_eq (by omega)]; exact HSZ.out _ (List.getElem_mem _)
    generalize at_ X 1 = x1 at *
    have HN : Hid (∀ w1 A c, w1.ownsRow w3.drew.heap.size 9 1 (.slice A 4 c) 4 [.string need0, .string need1, .string need2, .string need3] → Calls Tryd.prog 61 #[.slice A 4 c, .string (at_ X m)] w1 fun e w' => ∃ u, e = .returned u ∧ u = .int .i64 (needS (at_ X m)) ∧ Below w1.heap.size w1 w') := fun w1 A c h => by
      obtain ⟨g, rfl, hg⟩ := own_need h
      exact (l2Index_any g c (at_ X m) w1 hg).mono fun e w2 h => ⟨_, h.1, rfl, by rw [h.2]; exact Below.refl _ _⟩
    generalize needS (at_ X m) = nd at *
    generalize at_ X m = xl at *
    simp only at *
    go_wp2_with fail
    have d1 := cell_cl (w := w3.drew) c1
    have dl := cell_cl (w := w3.drew) cl
    refine wp_loose_tail0 (U := fun _ => undef) (τ := lk [(5, rowS [] w3.drew.heap.size 9 1 4 [.string need0, .string need1, .string need2, .string need3]), (11, valS [5] (.int .i64 nd)), (13, boxS [] w3.drew.heap.size 27 [.int .i64 0, .string ⟨#[]⟩, .int .i64 0, .bool false, .bool false, .bool false, .int .i64 0])]) (F := []) 14 (by kernel_rfl) (by kernel_rfl) (fits_of rfl (by kernel_rfl)) (inv_start (by intro r s h; have := lk_mem h; simp at this; (first | omega | (simp only [List.length_cons, List.length_nil]; omega)))) ?_
    simp only [List.take_succ_cons, List.take_zero, List.drop_succ_cons, List.drop_zero]
    refine wpL_quiet 5 rfl rfl ?_
    simp only [List.take_succ_cons, List.take_zero, List.drop_succ_cons, List.drop_zero]
    repeat (go_big_quiet_step (fail))
    refine wpQuiet_nil ?_
    refine gives_loose rfl (ob_row (Nat.le_refl _) (fun w1 h1 _ => by simp [stepTo, stepUpon, go_sem]; exact l2NeedsRow_any w1)) ?_
    rintro u5 ⟨A5, c5, rfl⟩
    simp only [Act.put, List.setIfInBounds_toArray, List.set_cons_zero, List.set_cons_succ]
    refine wpL_quiet 5 rfl rfl ?_
    simp only [List.take_succ_cons, List.take_zero, List.drop_succ_cons, List.drop_zero]
    repeat (go_big_quiet_step (fail))
    refine wpQuiet_nil ?_
    refine gives_loose rfl (ob_val (ds := [5]) (fun w1 h1 hh => by simp [stepTo, stepUpon, go_sem]; exact HN.out w1 A5 c5 (hh.1 5 (by simp) _ rfl).1)) ?_
    rintro u11 rfl
    simp only [Act.put, List.setIfInBounds_toArray, List.set_cons_zero, List.set_cons_succ]
    refine wpL_quiet 1 rfl rfl ?_
    simp only [List.take_succ_cons, List.take_zero, List.drop_succ_cons, List.drop_zero]
    repeat (go_big_quiet_step (fail))
    refine wpQuiet_nil ?_
    refine gives_loose rfl (ob_box (cs := #[.int .i64 0, .string ⟨#[]⟩, .int .i64 0, .bool false, .bool false, .bool false, .int .i64 0]) (Nat.le_refl _) (fun w1 _ => ?_)) ?_
    · go_simp
    rintro u13 ⟨g13, rfl⟩
    simp only [Act.put, List.setIfInBounds_toArray, List.set_cons_zero, List.set_cons_succ]
    refine wpL_nil ?_
    intro w8 hEnd
    obtain ⟨g9, e9, hg9, B9⟩ := ends_get hEnd 13 rfl rfl
    have e9' : (Value.pointer (some ⟨g13, 0, none⟩)) = .pointer (some ⟨g9, 0, none⟩) := e9
    cases e9'
    have hb38 : Below w3.heap.size w3 w8 := btr (Below.refl _ _).drew (ends_below hEnd)
    have hb8 := btr hb3 hb38
    have hgNl := BN.lt
    replace B0 := B0.below hb38
    replace BN := BN.below hb38
    have HX8 : Hid (∀ j (hj : j < X.length), w8.cell? ⟨gx, j, none⟩ = some (.string X[j])) := fun j hj => cell_bw (HX.out j hj) hb38
    have hgxl : gx < w3.heap.size := World.block_lt_of_cell? w3 _ c1
    have hg9' : w3.heap.size ≤ g13 := hg9
    have hgx9 : gx ≠ g13 := by omega
    have hg09 : w.heap.size ≠ g13 := by omega
    have hgN9 : w.heap.size + 1 ≠ g13 := by omega
    have hg9w : w.heap.size ≤ g13 := by omega
    clear hEnd e9 hg9 c1 cl d1 dl HX hb38 HN
    have k0 := B9.cell (j := 0) rfl
    have z0 := B9.frozen 0
    have k1 := B9.cell (j := 1) rfl
    have z1 := B9.frozen 1
    have k2 := B9.cell (j := 2) rfl
    have z2 := B9.frozen 2
    have k3 := B9.cell (j := 3) rfl
    have z3 := B9.frozen 3
    have k4 := B9.cell (j := 4) rfl
    have z4 := B9.frozen 4
    have k5 := B9.cell (j := 5) rfl
    have z5 := B9.frozen 5
    have k6 := B9.cell (j := 6) rfl
    have z6 := B9.frozen 6
    obtain ⟨q, hq⟩ : ∃ q, X.length = q + 6 := ⟨X.length - 6, by omega⟩
    have hq1 : (X.length : Int) - 2 = (q : Int) + 4 := by omega
    have hqw : IntKind.i64.wrap ((X.length : Int) - 2) = (q : Int) + 4 := by rw [IntKind.wrap_i64]; omega
    have Hq := Lib.hid hq
    clear hq
    go_wp2_with fail
    have B9n : Blk (((((((w8.setCell ⟨g13, 0, none⟩ (.int .i64 i0)).setCell ⟨g13, 1, none⟩ (.string x1)).setCell ⟨g13, 2, none⟩ (.int .i64 i3)).setCell ⟨g13, 3, none⟩ (.bool false)).setCell ⟨g13, 4, none⟩ (.bool false)).setCell ⟨g13, 5, none⟩ (.bool false)).setCell ⟨g13, 6, none⟩ (.int .i64 nd)) g13 27 [.int .i64 i0, .string x1, .int .i64 i3, .bool false, .bool false, .bool false, .int .i64 nd] := by simpa using (((((((B9.setv 0 (.int .i64 i0)).setv 1 (.string x1)).setv 2 (.int .i64 i3)).setv 3 (.bool false)).setv 4 (.bool false)).setv 5 (.bool false)).setv 6 (.int .i64 nd))
    have B0n : Blk (((((((w8.setCell ⟨g13, 0, none⟩ (.int .i64 i0)).setCell ⟨g13, 1, none⟩ (.string x1)).setCell ⟨g13, 2, none⟩ (.int .i64 i3)).setCell ⟨g13, 3, none⟩ (.bool false)).setCell ⟨g13, 4, none⟩ (.bool false)).setCell ⟨g13, 5, none⟩ (.bool false)).setCell ⟨g13, 6, none⟩ (.int .i64 nd)) w.heap.size 27 [.int .i64 0, .string ⟨#[]⟩, .int .i64 0, .bool false, .bool false, .bool false, .int .i64 0] := (((((((B0.setw hg09 0 _).setw hg09 1 _).setw hg09 2 _).setw hg09 3 _).setw hg09 4 _).setw hg09 5 _).setw hg09 6 _)
    have BNn : Blk (((((((w8.setCell ⟨g13, 0, none⟩ (.int .i64 i0)).setCell ⟨g13, 1, none⟩ (.string x1)).setCell ⟨g13, 2, none⟩ (.int .i64 i3)).setCell ⟨g13, 3, none⟩ (.bool false)).setCell ⟨g13, 4, none⟩ (.bool false)).setCell ⟨g13, 5, none⟩ (.bool false)).setCell ⟨g13, 6, none⟩ (.int .i64 nd)) (w.heap.size + 1) 27 [.int .i64 0, .string ⟨#[]⟩, .int .i64 0, .bool false, .bool false, .bool false, .int .i64 0] := (((((((BN.setw hgN9 0 _).setw hgN9 1 _).setw hgN9 2 _).setw hgN9 3 _).setw hgN9 4 _).setw hgN9 5 _).setw hgN9 6 _)
    have HX9 : Hid (∀ j (hj : j < X.length), (((((((w8.setCell ⟨g13, 0, none⟩ (.int .i64 i0)).setCell ⟨g13, 1, none⟩ (.string x1)).setCell ⟨g13, 2, none⟩ (.int .i64 i3)).setCell ⟨g13, 3, none⟩ (.bool false)).setCell ⟨g13, 4, none⟩ (.bool false)).setCell ⟨g13, 5, none⟩ (.bool false)).setCell ⟨g13, 6, none⟩ (.int .i64 nd)).cell? ⟨gx, j, none⟩ = some (.string X[j])) := fun j hj => (cell_setw (cell_setw (cell_setw (cell_setw (cell_setw (cell_setw (cell_setw (HX8.out j hj) hgx9) hgx9) hgx9) hgx9) hgx9) hgx9) hgx9)
    have hb9 : Below w.heap.size w (((((((w8.setCell ⟨g13, 0, none⟩ (.int .i64 i0)).setCell ⟨g13, 1, none⟩ (.string x1)).setCell ⟨g13, 2, none⟩ (.int .i64 i3)).setCell ⟨g13, 3, none⟩ (.bool false)).setCell ⟨g13, 4, none⟩ (.bool false)).setCell ⟨g13, 5, none⟩ (.bool false)).setCell ⟨g13, 6, none⟩ (.int .i64 nd)) := (((((((hb8.setCell hg9w _).setCell hg9w _).setCell hg9w _).setCell hg9w _).setCell hg9w _).setCell hg9w _).setCell hg9w _)
    clear k0 k1 k2 k3 k4 k5 k6 z0 z1 z2 z3 z4 z5 z6 B9 B0 BN HX8 hb8
    generalize (((((((w8.setCell ⟨g13, 0, none⟩ (.int .i64 i0)).setCell ⟨g13, 1, none⟩ (.string x1)).setCell ⟨g13, 2, none⟩ (.int .i64 i3)).setCell ⟨g13, 3, none⟩ (.bool false)).setCell ⟨g13, 4, none⟩ (.bool false)).setCell ⟨g13, 5, none⟩ (.bool false)).setCell ⟨g13, 6, none⟩ (.int .i64 nd)) = w9 at *
    obtain ⟨Y, hY⟩ : ∃ Y, Y = (X.take (X.length - 2)).drop 4 := ⟨_, rfl⟩
    have hYl : Y.length = q := by rw [hY, List.length_drop, List.length_take]; have := Hq.out; omega
    have HYg : Hid (∀ j (hj : j < Y.length) (hj4 : 4 + j < X.length), Y[j] = X[4 + j]) := fun j hj hj4 => by
      subst hY
      rw [List.getElem_drop, List.getElem_take]
    rw [← hY] at hRI
    replace hYl := Lib.hid hYl
    clear hY
    go_loopw [12] (fun i wr => ∃ (j : Nat) (f1 f2 f3 : Bool), j ≤ q ∧ i = .int .i64 ((4 + j : Nat) : Int) ∧ Hid (hasW secW (Y.take j) = f1) ∧ Hid (hasW debW (Y.take j) = f2) ∧ Hid (hasW amW (Y.take j) = f3) ∧ Blk wr g13 27 [.int .i64 i0, .string x1, .int .i64 i3, .bool f1, .bool f2, .bool f3, .int .i64 nd] ∧ Blk wr w.heap.size 27 [.int .i64 0, .string ⟨#[]⟩, .int .i64 0, .bool false, .bool false, .bool false, .int .i64 0] ∧ Blk wr (w.heap.size + 1) 27 [.int .i64 0, .string ⟨#[]⟩, .int .i64 0, .bool false, .bool false, .bool false, .int .i64 0] ∧ Hid (∀ j (hj : j < X.length), wr.cell? ⟨gx, j, none⟩ = some (.string X[j])) ∧ Below w.heap.size w wr) (fun i _ => q + 4 - (intOf i).toNat)
    case atStart => exact ⟨0, false, false, false, by omega, rfl, rfl, rfl, rfl, B9n, B0n, BNn, HX9, hb9⟩
    case round =>
      clear B9n B0n BNn HX9 hb9
      obtain ⟨j, f1, f2, f3, hj, rfl, H1, H2, H3, B9, B0, BN, HXr, hb⟩ := hrel
      by_cases hlt : j < q
      · have hjI : ((4 + j : Nat) : Int) < (q : Int) + 4 := by omega
        have hj4 : 4 + j < X.length := by have := Hq.out; omega
        have hj4I : ((4 + j : Nat) : Int) < (X.length : Int) := by omega
        have cx := HXr.out (4 + j) hj4
        have hd : j < Y.length := by have := hYl.out; omega
        have N1 := Lib.hid (hasW_next secW hd)
        have N2 := Lib.hid (hasW_next debW hd)
        have N3 := Lib.hid (hasW_next amW hd)
        rw [HYg.out j hd hj4] at N1 N2 N3
        clear hd
        generalize X[4 + j] = x at *
        obtain ⟨ji, hji⟩ : ∃ ji : Nat, 4 + j = ji := ⟨_, rfl⟩
        rw [hji] at cx hjI hj4I
        rw [hji]
        have Hji := Lib.hid hji
        clear hji hj4
        have hji1 : IntKind.i64.wrap ((ji : Int) + 1) = (ji : Int) + 1 := by rw [IntKind.wrap_i64]; omega
        have y3 := B9.cell (j := 3) rfl
        have y4 := B9.cell (j := 4) rfl
        have y5 := B9.cell (j := 5) rfl
        have z3 := B9.frozen 3
        have z4 := B9.frozen 4
        have z5 := B9.frozen 5
        rcases word_cases x with hx | hx | hx | ⟨hx, hx2, hx3⟩
        · -- sec
          have e1 : (x.toList == [115, 101, 99, 111, 110, 100]) = true := eq_beq3 hx
          have M1 : Hid (hasW secW (Y.take (j + 1)) = true) := N1.out.trans (by rw [H1.out, show (x.data.toList == secW) = true from by rw [hx]; decide]; simp)
          have e2 : (x.toList == [100, 101, 98, 97, 116, 101]) = false := ne_beq3 (by rw [hx]; decide)
          have M2 : Hid (hasW debW (Y.take (j + 1)) = f2) := N2.out.trans (by rw [H2.out, show (x.data.toList == debW) = false from by rw [hx]; decide]; simp)
          have e3 : (x.toList == [97, 109, 101, 110, 100]) = false := ne_beq3 (by rw [hx]; decide)
          have M3 : Hid (hasW amW (Y.take (j + 1)) = f3) := N3.out.trans (by rw [H3.out, show (x.data.toList == amW) = false from by rw [hx]; decide]; simp)
          clear N1 N2 N3 H1 H2 H3 hx
          go_wp2
          go_roundw
          case rel => exact ⟨j + 1, true, f2, f3, by omega, (by have := Hji.out; show Value.int .i64 _ = Value.int .i64 _; congr 1; omega), M1, M2, M3, by simpa using (B9.setv 3 (.bool true)), (B0.setw hg09 3 _), (BN.setw hgN9 3 _), (fun k hk => (cell_setw (HXr.out k hk) hgx9)), (hb.setCell hg9w _)⟩
          case measure => have := Hji.out; simp [intOf]; omega
        · -- deb
          have e1 : (x.toList == [115, 101, 99, 111, 110, 100]) = false := ne_beq3 (by rw [hx]; decide)
          have M1 : Hid (hasW secW (Y.take (j + 1)) = f1) := N1.out.trans (by rw [H1.out, show (x.data.toList == secW) = false from by rw [hx]; decide]; simp)
          have e2 : (x.toList == [100, 101, 98, 97, 116, 101]) = true := eq_beq3 hx
          have M2 : Hid (hasW debW (Y.take (j + 1)) = true) := N2.out.trans (by rw [H2.out, show (x.data.toList == debW) = true from by rw [hx]; decide]; simp)
          have e3 : (x.toList == [97, 109, 101, 110, 100]) = false := ne_beq3 (by rw [hx]; decide)
          have M3 : Hid (hasW amW (Y.take (j + 1)) = f3) := N3.out.trans (by rw [H3.out, show (x.data.toList == amW) = false from by rw [hx]; decide]; simp)
          clear N1 N2 N3 H1 H2 H3 hx
          go_wp2
          go_roundw
          case rel => exact ⟨j + 1, f1, true, f3, by omega, (by have := Hji.out; show Value.int .i64 _ = Value.int .i64 _; congr 1; omega), M1, M2, M3, by simpa using (B9.setv 4 (.bool true)), (B0.setw hg09 4 _), (BN.setw hgN9 4 _), (fun k hk => (cell_setw (HXr.out k hk) hgx9)), (hb.setCell hg9w _)⟩
          case measure => have := Hji.out; simp [intOf]; omega
        · -- am
          have e1 : (x.toList == [115, 101, 99, 111, 110, 100]) = false := ne_beq3 (by rw [hx]; decide)
          have M1 : Hid (hasW secW (Y.take (j + 1)) = f1) := N1.out.trans (by rw [H1.out, show (x.data.toList == secW) = false from by rw [hx]; decide]; simp)
          have e2 : (x.toList == [100, 101, 98, 97, 116, 101]) = false := ne_beq3 (by rw [hx]; decide)
          have M2 : Hid (hasW debW (Y.take (j + 1)) = f2) := N2.out.trans (by rw [H2.out, show (x.data.toList == debW) = false from by rw [hx]; decide]; simp)
          have e3 : (x.toList == [97, 109, 101, 110, 100]) = true := eq_beq3 hx
          have M3 : Hid (hasW amW (Y.take (j + 1)) = true) := N3.out.trans (by rw [H3.out, show (x.data.toList == amW) = true from by rw [hx]; decide]; simp)
          clear N1 N2 N3 H1 H2 H3 hx
          go_wp2
          go_roundw
          case rel => exact ⟨j + 1, f1, f2, true, by omega, (by have := Hji.out; show Value.int .i64 _ = Value.int .i64 _; congr 1; omega), M1, M2, M3, by simpa using (B9.setv 5 (.bool true)), (B0.setw hg09 5 _), (BN.setw hgN9 5 _), (fun k hk => (cell_setw (HXr.out k hk) hgx9)), (hb.setCell hg9w _)⟩
          case measure => have := Hji.out; simp [intOf]; omega
        · -- no
          have e1 : (x.toList == [115, 101, 99, 111, 110, 100]) = false := ne_beq3 hx
          have M1 : Hid (hasW secW (Y.take (j + 1)) = f1) := N1.out.trans (by rw [H1.out, show (x.data.toList == secW) = false from ne_beq hx]; simp)
          have e2 : (x.toList == [100, 101, 98, 97, 116, 101]) = false := ne_beq3 hx2
          have M2 : Hid (hasW debW (Y.take (j + 1)) = f2) := N2.out.trans (by rw [H2.out, show (x.data.toList == debW) = false from ne_beq hx2]; simp)
          have e3 : (x.toList == [97, 109, 101, 110, 100]) = false := ne_beq3 hx3
          have M3 : Hid (hasW amW (Y.take (j + 1)) = f3) := N3.out.trans (by rw [H3.out, show (x.data.toList == amW) = false from ne_beq hx3]; simp)
          clear N1 N2 N3 H1 H2 H3 hx hx2 hx3
          go_wp2
          go_roundw
          case rel => exact ⟨j + 1, f1, f2, f3, by omega, (by have := Hji.out; show Value.int .i64 _ = Value.int .i64 _; congr 1; omega), M1, M2, M3, by simpa using B9, B0, BN, (fun k hk => (HXr.out k hk)), hb⟩
          case measure => have := Hji.out; simp [intOf]; omega
      · have hjI : ¬ (((4 + j : Nat) : Int) < (q : Int) + 4) := by omega
        have hjq : j = q := by omega
        have HR : Hid (ruleS X = ⟨i0, x1, i3, f1, f2, f3, nd⟩) := by
          show _ = _
          have h1 := H1.out; have h2 := H2.out; have h3 := H3.out
          rw [hjq, ← hYl.out, List.take_length] at h1 h2 h3
          rw [hRI.out, h1, h2, h3]
        clear H1 H2 H3 hjq HXr
        obtain ⟨R, hRe⟩ : ∃ R : Rul, R = ⟨i0, x1, i3, f1, f2, f3, nd⟩ := ⟨_, rfl⟩
        have HRX : Hid (ruleS X = R) := HR.out.trans hRe.symm
        have HE : Hid (Ending.returned (.tuple #[.agg #[.int .i64 i0, .string x1, .int .i64 i3, .bool f1, .bool f2, .bool f3, .int .i64 nd], .bool true]) = .returned (.tuple #[.agg #[.int .i64 R.id, .string R.name, .int .i64 R.rank, .bool R.sec, .bool R.deb, .bool R.am, .int .i64 R.need], .bool true])) := by rw [hRe]; rfl
        have Hv : Hid (∀ w1, Calls Tryd.prog 32 #[.agg #[.int .i64 i0, .string x1, .int .i64 i3, .bool f1, .bool f2, .bool f3, .int .i64 nd]] w1 fun e w' => e = .returned (.bool (rulOk R)) ∧ Below w1.heap.size w1 w') := fun w1 => by
          have := l2Single_any R w1 (by rw [hRe]; unfold maxLen; show x1.size ≤ _; omega)
          rw [hRe] at this ⊢
          exact this
        have Hl : Hid (rulOk R = true → ∀ w1, Below w.heap.size w w1 → Calls Tryd.prog 33 #[.agg #[.int .i64 i0, .string x1, .int .i64 i3, .bool f1, .bool f2, .bool f3, .int .i64 nd]] w1 fun e w' => e = .returned (.string (lineB R)) ∧ Below w1.heap.size w1 w') := fun h w1 hb => by
          have := l2Line_any R w1 h
          rw [hRe] at this ⊢
          exact this
        clear hRe HR
        cases b0 with
        | false =>
          have y0 := B9.cell (j := 0) rfl
          have y1 := B9.cell (j := 1) rfl
          have y2 := B9.cell (j := 2) rfl
          have y3 := B9.cell (j := 3) rfl
          have y4 := B9.cell (j := 4) rfl
          have y5 := B9.cell (j := 5) rfl
          have y6 := B9.cell (j := 6) rfl
          have f0 := B0.cell (j := 0) rfl
          have z0 := B0.frozen 0
          have f1 := B0.cell (j := 1) rfl
          have z1 := B0.frozen 1
          have f2 := B0.cell (j := 2) rfl
          have z2 := B0.frozen 2
          have f3 := B0.cell (j := 3) rfl
          have z3 := B0.frozen 3
          have f4 := B0.cell (j := 4) rfl
          have z4 := B0.frozen 4
          have f5 := B0.cell (j := 5) rfl
          have z5 := B0.frozen 5
          have f6 := B0.cell (j := 6) rfl
          have z6 := B0.frozen 6
          have n0_ := BN.cell (j := 0) rfl
          have n1_ := BN.cell (j := 1) rfl
          have n2_ := BN.cell (j := 2) rfl
          have n3_ := BN.cell (j := 3) rfl
          have n4_ := BN.cell (j := 4) rfl
          have n5_ := BN.cell (j := 5) rfl
          have n6_ := BN.cell (j := 6) rfl
          go_wp2
          exact bodyPost_ret (v := .tuple #[.agg #[.int .i64 0, .string ⟨#[]⟩, .int .i64 0, .bool false, .bool false, .bool false, .int .i64 0], .bool false]) (by simp [results, Tryd.results38, go_sem, f0, f1, f2, f3, f4, f5, f6]) rfl (by first | exact ⟨rul0, false, rfl, .inr ⟨rfl, rfl, fun r' q1 q2 => absurd (HNO.out r' q1 q2).2.1 (by decide)⟩, (((((((hb).setCell (Nat.le_refl _) _).setCell (Nat.le_refl _) _).setCell (Nat.le_refl _) _).setCell (Nat.le_refl _) _).setCell (Nat.le_refl _) _).setCell (Nat.le_refl _) _).setCell (Nat.le_refl _) _⟩ | exact ⟨rul0, .inl ⟨rfl, .inr ⟨rfl, rfl, fun r' q1 q2 => absurd (HNO.out r' q1 q2).2.1 (by decide)⟩, (((((((hb).setCell (Nat.le_refl _) _).setCell (Nat.le_refl _) _).setCell (Nat.le_refl _) _).setCell (Nat.le_refl _) _).setCell (Nat.le_refl _) _).setCell (Nat.le_refl _) _).setCell (Nat.le_refl _) _⟩⟩)
        | true =>
          cases b3 with
          | false =>
            have y0 := B9.cell (j := 0) rfl
            have y1 := B9.cell (j := 1) rfl
            have y2 := B9.cell (j := 2) rfl
            have y3 := B9.cell (j := 3) rfl
            have y4 := B9.cell (j := 4) rfl
            have y5 := B9.cell (j := 5) rfl
            have y6 := B9.cell (j := 6) rfl
            have f0 := B0.cell (j := 0) rfl
            have z0 := B0.frozen 0
            have f1 := B0.cell (j := 1) rfl
            have z1 := B0.frozen 1
            have f2 := B0.cell (j := 2) rfl
            have z2 := B0.frozen 2
            have f3 := B0.cell (j := 3) rfl
            have z3 := B0.frozen 3
            have f4 := B0.cell (j := 4) rfl
            have z4 := B0.frozen 4
            have f5 := B0.cell (j := 5) rfl
            have z5 := B0.frozen 5
            have f6 := B0.cell (j := 6) rfl
            have z6 := B0.frozen 6
            have n0_ := BN.cell (j := 0) rfl
            have n1_ := BN.cell (j := 1) rfl
            have n2_ := BN.cell (j := 2) rfl
            have n3_ := BN.cell (j := 3) rfl
            have n4_ := BN.cell (j := 4) rfl
            have n5_ := BN.cell (j := 5) rfl
            have n6_ := BN.cell (j := 6) rfl
            go_wp2
            exact bodyPost_ret (v := .tuple #[.agg #[.int .i64 0, .string ⟨#[]⟩, .int .i64 0, .bool false, .bool false, .bool false, .int .i64 0], .bool false]) (by simp [results, Tryd.results38, go_sem, f0, f1, f2, f3, f4, f5, f6]) rfl (by first | exact ⟨rul0, false, rfl, .inr ⟨rfl, rfl, fun r' q1 q2 => absurd (HNO.out r' q1 q2).2.2.1 (by decide)⟩, (((((((hb).setCell (Nat.le_refl _) _).setCell (Nat.le_refl _) _).setCell (Nat.le_refl _) _).setCell (Nat.le_refl _) _).setCell (Nat.le_refl _) _).setCell (Nat.le_refl _) _).setCell (Nat.le_refl _) _⟩ | exact ⟨rul0, .inl ⟨rfl, .inr ⟨rfl, rfl, fun r' q1 q2 => absurd (HNO.out r' q1 q2).2.2.1 (by decide)⟩, (((((((hb).setCell (Nat.le_refl _) _).setCell (Nat.le_refl _) _).setCell (Nat.le_refl _) _).setCell (Nat.le_refl _) _).setCell (Nat.le_refl _) _).setCell (Nat.le_refl _) _).setCell (Nat.le_refl _) _⟩⟩)
          | true =>
            have y0 := B9.cell (j := 0) rfl
            have y1 := B9.cell (j := 1) rfl
            have y2 := B9.cell (j := 2) rfl
            have y3 := B9.cell (j := 3) rfl
            have y4 := B9.cell (j := 4) rfl
            have y5 := B9.cell (j := 5) rfl
            have y6 := B9.cell (j := 6) rfl
            cases hok : rulOk R with
            | false =>
              rw [hok] at Hv
              go_wp2_with fail
              refine (Hv.out _).mono ?_
              rintro e w20 ⟨rfl, hb20⟩
              have hbE := btr hb hb20
              have BE := B0.below hb20
              have BNE := BN.below hb20
              have f0 := BE.cell (j := 0) rfl
              have z0 := BE.frozen 0
              have f1 := BE.cell (j := 1) rfl
              have z1 := BE.frozen 1
              have f2 := BE.cell (j := 2) rfl
              have z2 := BE.frozen 2
              have f3 := BE.cell (j := 3) rfl
              have z3 := BE.frozen 3
              have f4 := BE.cell (j := 4) rfl
              have z4 := BE.frozen 4
              have f5 := BE.cell (j := 5) rfl
              have z5 := BE.frozen 5
              have f6 := BE.cell (j := 6) rfl
              have z6 := BE.frozen 6
              have n0_ := BNE.cell (j := 0) rfl
              have n1_ := BNE.cell (j := 1) rfl
              have n2_ := BNE.cell (j := 2) rfl
              have n3_ := BNE.cell (j := 3) rfl
              have n4_ := BNE.cell (j := 4) rfl
              have n5_ := BNE.cell (j := 5) rfl
              have n6_ := BNE.cell (j := 6) rfl
              go_wp2
              exact bodyPost_ret (v := .tuple #[.agg #[.int .i64 0, .string ⟨#[]⟩, .int .i64 0, .bool false, .bool false, .bool false, .int .i64 0], .bool false]) (by simp [results, Tryd.results38, go_sem, f0, f1, f2, f3, f4, f5, f6]) rfl (by first | exact ⟨rul0, false, rfl, .inr ⟨rfl, rfl, fun r' q1 q2 => by have h1 := (HNO.out r' q1 q2).2.2.2.2; rw [HRX.out] at h1; rw [h1] at hok; rw [q1] at hok; cases hok⟩, (((((((hbE).setCell (Nat.le_refl _) _).setCell (Nat.le_refl _) _).setCell (Nat.le_refl _) _).setCell (Nat.le_refl _) _).setCell (Nat.le_refl _) _).setCell (Nat.le_refl _) _).setCell (Nat.le_refl _) _⟩ | exact ⟨rul0, .inl ⟨rfl, .inr ⟨rfl, rfl, fun r' q1 q2 => by have h1 := (HNO.out r' q1 q2).2.2.2.2; rw [HRX.out] at h1; rw [h1] at hok; rw [q1] at hok; cases hok⟩, (((((((hbE).setCell (Nat.le_refl _) _).setCell (Nat.le_refl _) _).setCell (Nat.le_refl _) _).setCell (Nat.le_refl _) _).setCell (Nat.le_refl _) _).setCell (Nat.le_refl _) _).setCell (Nat.le_refl _) _⟩⟩)
            | true =>
              rw [hok] at Hv
              have Hl2 := Lib.hid (Hl.out hok)
              clear Hl
              go_wp2_with fail
              refine (Hv.out _).mono ?_
              rintro e w20 ⟨rfl, hb20⟩
              have hb21 := btr hb hb20
              replace B9 := B9.below hb20
              replace B0 := B0.below hb20
              replace BN := BN.below hb20
              clear y0 y1 y2 y3 y4 y5 y6
              have y0 := B9.cell (j := 0) rfl
              have y1 := B9.cell (j := 1) rfl
              have y2 := B9.cell (j := 2) rfl
              have y3 := B9.cell (j := 3) rfl
              have y4 := B9.cell (j := 4) rfl
              have y5 := B9.cell (j := 5) rfl
              have y6 := B9.cell (j := 6) rfl
              go_wp2_with fail
              refine (Hl2.out _ hb21).mono ?_
              rintro e w22 ⟨rfl, hb22⟩
              have hbE := btr hb21 hb22
              replace B9 := B9.below hb22
              have BE := B0.below hb22
              have BNE := BN.below hb22
              clear y0 y1 y2 y3 y4 y5 y6
              have y0 := B9.cell (j := 0) rfl
              have y1 := B9.cell (j := 1) rfl
              have y2 := B9.cell (j := 2) rfl
              have y3 := B9.cell (j := 3) rfl
              have y4 := B9.cell (j := 4) rfl
              have y5 := B9.cell (j := 5) rfl
              have y6 := B9.cell (j := 6) rfl
              by_cases hline : lineB R = s
              · rw [hline]
                have f0_ := BE.cell (j := 0) rfl
                have z0_ := BE.frozen 0
                have f1_ := BE.cell (j := 1) rfl
                have z1_ := BE.frozen 1
                have f2_ := BE.cell (j := 2) rfl
                have z2_ := BE.frozen 2
                have f3_ := BE.cell (j := 3) rfl
                have z3_ := BE.frozen 3
                have f4_ := BE.cell (j := 4) rfl
                have z4_ := BE.frozen 4
                have f5_ := BE.cell (j := 5) rfl
                have z5_ := BE.frozen 5
                have f6_ := BE.cell (j := 6) rfl
                have z6_ := BE.frozen 6
                go_wp2
                exact bodyPost_ret (v := .tuple #[.agg #[.int .i64 i0, .string x1, .int .i64 i3, .bool f1, .bool f2, .bool f3, .int .i64 nd], .bool true]) (by simp [results, Tryd.results38, go_sem, f0_, f1_, f2_, f3_, f4_, f5_, f6_]) rfl (by first | exact ⟨R, true, HE.out, .inl ⟨rfl, hok, hline⟩, (((((((hbE).setCell (Nat.le_refl _) _).setCell (Nat.le_refl _) _).setCell (Nat.le_refl _) _).setCell (Nat.le_refl _) _).setCell (Nat.le_refl _) _).setCell (Nat.le_refl _) _).setCell (Nat.le_refl _) _⟩ | exact ⟨R, .inr ⟨HE.out, .inl ⟨rfl, hok, hline⟩, (((((((hbE).setCell (Nat.le_refl _) _).setCell (Nat.le_refl _) _).setCell (Nat.le_refl _) _).setCell (Nat.le_refl _) _).setCell (Nat.le_refl _) _).setCell (Nat.le_refl _) _).setCell (Nat.le_refl _) _⟩⟩)
              · have hl2 : ((lineB R).toList == s.toList) = false := ne_beq2 hline
                have hl3 : (lineB R == s) = false := by rw [beq_toListBytes]; exact hl2
                have f0 := BE.cell (j := 0) rfl
                have z0 := BE.frozen 0
                have f1 := BE.cell (j := 1) rfl
                have z1 := BE.frozen 1
                have f2 := BE.cell (j := 2) rfl
                have z2 := BE.frozen 2
                have f3 := BE.cell (j := 3) rfl
                have z3 := BE.frozen 3
                have f4 := BE.cell (j := 4) rfl
                have z4 := BE.frozen 4
                have f5 := BE.cell (j := 5) rfl
                have z5 := BE.frozen 5
                have f6 := BE.cell (j := 6) rfl
                have z6 := BE.frozen 6
                have n0_ := BNE.cell (j := 0) rfl
                have n1_ := BNE.cell (j := 1) rfl
                have n2_ := BNE.cell (j := 2) rfl
                have n3_ := BNE.cell (j := 3) rfl
                have n4_ := BNE.cell (j := 4) rfl
                have n5_ := BNE.cell (j := 5) rfl
                have n6_ := BNE.cell (j := 6) rfl
                go_wp2
                exact bodyPost_ret (v := .tuple #[.agg #[.int .i64 0, .string ⟨#[]⟩, .int .i64 0, .bool false, .bool false, .bool false, .int .i64 0], .bool false]) (by simp [results, Tryd.results38, go_sem, f0, f1, f2, f3, f4, f5, f6]) rfl (by first | exact ⟨rul0, false, rfl, .inr ⟨rfl, rfl, fun r' q1 q2 => by have h1 := (HNO.out r' q1 q2).2.2.2.2; rw [HRX.out] at h1; rw [← h1] at q2; exact hline q2⟩, (((((((hbE).setCell (Nat.le_refl _) _).setCell (Nat.le_refl _) _).setCell (Nat.le_refl _) _).setCell (Nat.le_refl _) _).setCell (Nat.le_refl _) _).setCell (Nat.le_refl _) _).setCell (Nat.le_refl _) _⟩ | exact ⟨rul0, .inl ⟨rfl, .inr ⟨rfl, rfl, fun r' q1 q2 => by have h1 := (HNO.out r' q1 q2).2.2.2.2; rw [HRX.out] at h1; rw [← h1] at q2; exact hline q2⟩, (((((((hbE).setCell (Nat.le_refl _) _).setCell (Nat.le_refl _) _).setCell (Nat.le_refl _) _).setCell (Nat.le_refl _) _).setCell (Nat.le_refl _) _).setCell (Nat.le_refl _) _).setCell (Nat.le_refl _) _⟩⟩)
  · have HB : inB (X.length : Int) 6 9 = false := inB_no (by omega)
    have f0 := B0.cell (j := 0) rfl
    have z0 := B0.frozen 0
    have f1 := B0.cell (j := 1) rfl
    have z1 := B0.frozen 1
    have f2 := B0.cell (j := 2) rfl
    have z2 := B0.frozen 2
    have f3 := B0.cell (j := 3) rfl
    have z3 := B0.frozen 3
    have f4 := B0.cell (j := 4) rfl
    have z4 := B0.frozen 4
    have f5 := B0.cell (j := 5) rfl
    have z5 := B0.frozen 5
    have f6 := B0.cell (j := 6) rfl
    have z6 := B0.frozen 6
    have n0_ := BN.cell (j := 0) rfl
    have n1_ := BN.cell (j := 1) rfl
    have n2_ := BN.cell (j := 2) rfl
    have n3_ := BN.cell (j := 3) rfl
    have n4_ := BN.cell (j := 4) rfl
    have n5_ := BN.cell (j := 5) rfl
    have n6_ := BN.cell (j := 6) rfl
    go_wp2_with (go_at_call 55; refine (l1In_any _ _ _ _).mono ?_; rintro e w9 ⟨rfl, rfl⟩)
    exact bodyPost_ret (v := .tuple #[.agg #[.int .i64 0, .string ⟨#[]⟩, .int .i64 0, .bool false, .bool false, .bool false, .int .i64 0], .bool false]) (by simp [results, Tryd.results38, go_sem, f0, f1, f2, f3, f4, f5, f6]) rfl (by first | exact ⟨rul0, false, rfl, .inr ⟨rfl, rfl, fun r' q1 q2 => hL (HNO.out r' q1 q2).1⟩, (((((((hb1).setCell (Nat.le_refl _) _).setCell (Nat.le_refl _) _).setCell (Nat.le_refl _) _).setCell (Nat.le_refl _) _).setCell (Nat.le_refl _) _).setCell (Nat.le_refl _) _).setCell (Nat.le_refl _) _⟩ | exact ⟨rul0, .inl ⟨rfl, .inr ⟨rfl, rfl, fun r' q1 q2 => hL (HNO.out r' q1 q2).1⟩, (((((((hb1).setCell (Nat.le_refl _) _).setCell (Nat.le_refl _) _).setCell (Nat.le_refl _) _).setCell (Nat.le_refl _) _).setCell (Nat.le_refl _) _).setCell (Nat.le_refl _) _).setCell (Nat.le_refl _) _⟩⟩)
end Go.Proofs.YtfaphackdhdcaaaDoor
