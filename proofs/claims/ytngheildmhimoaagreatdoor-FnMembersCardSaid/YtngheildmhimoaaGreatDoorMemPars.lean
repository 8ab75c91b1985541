/-
  ParseMembers: contracts of both texts. Conditions: the listed variables are as laid.
-/
import Derived.Test.YtngheildmhimoaaGreatDoorMemTxt
import Derived.Test.YtngheildmhimoaaGreatDoorSpl
namespace Go.My
open Go.RowKit
def stB (b : UInt8) (s : ByteArray) : Bool := s.data.toList.any (fun c => c == b)
theorem join_snoc (l : List (List UInt8)) (x y sep : List UInt8) : Lib.join (l ++ [x, y]) sep = Lib.join (l ++ [x]) sep ++ sep ++ y := by
  cases l with
  | nil => simp [Lib.join_cons, Lib.joinTail]
  | cons a l => simp [Lib.join_cons, Lib.joinTail, List.append_assoc]
theorem join_last (l : List (List UInt8)) (x y sep : List UInt8) : Lib.join (l ++ [x ++ y]) sep = Lib.join (l ++ [x]) sep ++ y := by
  cases l with
  | nil => simp [Lib.join_one]
  | cons a l => simp [Lib.join_cons, Lib.joinTail, List.append_assoc]
theorem take_snocL {α : Type} (S : List α) {f k : Nat} (hf : f ≤ k) (hk : k < S.length) : (S.drop f).take (k + 1 - f) = (S.drop f).take (k - f) ++ [S[k]] := by
  rw [show k + 1 - f = (k - f) + 1 by omega, List.take_succ_eq_append_getElem (by simp; omega)]
  congr 2
  rw [List.getElem_drop]; congr 1; omega
/-- What has been split is joined again. -/
theorem cut_join (s : ByteArray) (b : UInt8) : ∀ k, k ≤ s.size → Lib.join (bl (cutN s b k).1 ++ [(s.data.toList.drop (cutN s b k).2).take (k - (cutN s b k).2)]) [b] = s.data.toList.take k ∧ (∀ x ∈ (cutN s b k).1, stB b x = false) ∧ b ∉ (s.data.toList.drop (cutN s b k).2).take (k - (cutN s b k).2)
  | 0, _ => by simp [cutN, bl, Lib.join_one]
  | k + 1, hk => by
    obtain ⟨h1, h2, h3⟩ := cut_join s b k (by omega)
    have hle := (cutN_le s b k).1
    have hlt : k < s.size := by omega
    have hl : k < s.data.toList.length := by simpa using hlt
    have hg : s.data.toList[k] = s[k] := rfl
    by_cases hb : s[k] = b
    · rw [cutN_eq hlt hb]
      refine ⟨?_, ?_, by simp⟩
      · simp only [bl, List.map_append, List.map_cons, List.map_nil, Nat.sub_self, List.take_zero, List.append_assoc, List.cons_append, List.nil_append]
        rw [Lib.extract_data]
        have := join_snoc (bl (cutN s b k).1) ((s.data.toList.drop (cutN s b k).2).take (k - (cutN s b k).2)) [] [b]
        simp only [bl] at this h1
        rw [this, h1, List.append_nil, List.take_succ_eq_append_getElem hl, hg, hb]
      · intro x hx
        rcases List.mem_append.1 hx with hx | hx
        · exact h2 x hx
        · simp at hx; subst hx
          unfold stB
          rw [Lib.extract_data, List.any_eq_false]
          intro c hc
          simp only [beq_iff_eq]
          exact fun e => h3 (e ▸ hc)
    · rw [cutN_ne hlt hb]
      have e := take_snocL s.data.toList hle hl
      rw [e]
      refine ⟨?_, h2, ?_⟩
      · rw [join_last, h1, List.take_succ_eq_append_getElem hl]
      · intro hm
        rcases List.mem_append.1 hm with hm | hm
        · exact h3 hm
        · simp at hm; exact hb (by rw [← hg]; exact hm.symm)
theorem splitL_sz (s : ByteArray) (b : UInt8) : ∀ x ∈ splitL s b, x.size ≤ s.size := by
  have key : ∀ k, ∀ x ∈ (cutN s b k).1, x.size ≤ s.size := by
    intro k
    induction k with
    | zero => simp [cutN]
    | succ k ih =>
      by_cases hk : k < s.size
      · by_cases hb : s[k] = b
        · rw [cutN_eq hk hb]
          intro x hx
          rcases List.mem_append.1 hx with hx | hx
          · exact ih x hx
          · simp at hx; subst hx; simp; omega
        · rw [cutN_ne hk hb]; exact ih
      · simp only [cutN, hk, dif_neg, not_false_eq_true]; exact ih
  intro x hx
  rcases List.mem_append.1 (show x ∈ (cutN s b s.size).1 ++ [s.extract (cutN s b s.size).2 s.size] from hx) with hx | hx
  · exact key _ x hx
  · simp at hx; subst hx; simp
theorem splitL_bl (s : ByteArray) (b : UInt8) : bl (splitL s b) = splitU b s.data.toList := by
  obtain ⟨h1, h2, h3⟩ := cut_join s b s.size (Nat.le_refl _)
  have hsz : s.data.toList.length = s.size := by simp
  have hl : s.data.toList.take s.size = s.data.toList := by rw [← hsz, List.take_length]
  have e : bl (splitL s b) = bl (cutN s b s.size).1 ++ [(s.data.toList.drop (cutN s b s.size).2).take (s.size - (cutN s b s.size).2)] := by
    simp only [splitL, bl, List.map_append, List.map_cons, List.map_nil]
    rw [Lib.extract_data]
  rw [hl] at h1
  rw [e]
  conv => rhs; rw [← h1]
  have hno : ∀ y ∈ bl (cutN s b s.size).1, b ∉ y := by
    intro y hy
    simp only [bl, List.mem_map] at hy
    obtain ⟨x, hx, rfl⟩ := hy
    have := h2 x hx
    intro hm
    unfold stB at this
    rw [List.any_eq_false] at this
    exact this b hm (by simp)
  generalize (s.data.toList.drop (cutN s b s.size).2).take (s.size - (cutN s b s.size).2) = z at *
  generalize bl (cutN s b s.size).1 = ys at *
  cases ys with
  | nil => simp only [List.nil_append, Lib.join_one]; exact (splitU_none h3).symm
  | cons y ys =>
    rw [List.cons_append]
    refine (splitU_join (hno y (by simp)) ?_).symm
    intro x hx
    rcases List.mem_append.1 hx with hx | hx
    · exact hno x (by simp [hx])
    · simp at hx; subst hx; exact h3
theorem splitB_eq (s : ByteArray) (b : UInt8) : Lib.splitB ⟨#[b]⟩ 0 (Lib.countB s ⟨#[b]⟩) s = splitL s b := by
  apply bl_inj
  rw [splitL_bl]
  have h1 := Lib.splitB_data ⟨#[b]⟩ 0 (Lib.countB s ⟨#[b]⟩) s
  have h2 := splitK_one b s.data.toList.length s.data.toList (Nat.le_refl _)
  exact h1.trans h2
theorem splitL_pos (s : ByteArray) (b : UInt8) : 0 < (splitL s b).length := by simp [splitL]
/-- The package variable bytealg.MaxLen holds some number. -/
def MaxAt (w : World) (g : Nat) : Prop := ∃ m, w.cell? ⟨g, 0, none⟩ = some (.int .i64 m)
theorem MaxAt.below {w w' : World} {g : Nat} (h : MaxAt w g) (hb : Below w.heap.size w w') : MaxAt w' g := by
  obtain ⟨m, hm⟩ := h
  exact ⟨m, (hb.cell (World.block_lt_of_cell? w _ hm)).trans hm⟩
theorem memCells_snoc (L : List Mem) (r : Mem) : memCells (L ++ [r]) = memCells L ++ [.int .i64 r.num, .string r.name, .int .i64 r.off] := by simp [memCells, Mem.cells]
/-- A line that no valid member has. -/
theorem linesM_bad {s : ByteArray} {X : List ByteArray} (hX : bl X = splitU 10 s.data.toList) {k : Nat} (hk : k + 1 < X.length) (h : ∀ r', memOk r' = true → lineM r' ≠ at_ X k) : IsParseG lineM goodMem s [] false := by
  refine .inr ⟨rfl, rfl, fun ys hg ht => ?_⟩
  obtain ⟨h1, h2, _⟩ := textG_at hX (fun r hr => lineM_no10 ((goodM_ok hg).1 r hr)) ht
  have hky : k < ys.length := by omega
  exact h _ ((goodM_ok hg).1 _ (List.getElem_mem _)) (h2 k hky).symm
/-- The members read off the first lines, f reading one line. -/
def ReadOf (f : ByteArray → Mem) (X : List ByteArray) (L : List Mem) : Prop := ∀ i (h : i < L.length), L[i] = f (at_ X i)
theorem ReadOf.nil (f : ByteArray → Mem) (X : List ByteArray) : ReadOf f X [] := fun i h => by simp at h
theorem ReadOf.snoc {f : ByteArray → Mem} {X : List ByteArray} {L : List Mem} {r : Mem} (h : ReadOf f X L) (hr : r = f (at_ X L.length)) : ReadOf f X (L ++ [r]) := by
  intro i hi
  by_cases h1 : i < L.length
  · rw [List.getElem_append_left h1]; exact h i h1
  · have : i = L.length := by simp at hi; omega
    subst this
    rw [List.getElem_append_right (Nat.le_refl _)]
    simpa using hr
/-- All lines read: the list is the only one that could have the text. -/
theorem linesM_end {s : ByteArray} {X : List ByteArray} (hX : bl X = splitU 10 s.data.toList) {f : ByteArray → Mem} (hf : ∀ r, memOk r = true → f (lineM r) = r) {L : List Mem} (hL : ReadOf f X L) (hl : L.length + 1 = X.length) :
    (goodMem L = true → textG lineM L = s.data.toList → IsParseG lineM goodMem s L true) ∧ (¬ (goodMem L = true ∧ textG lineM L = s.data.toList) → IsParseG lineM goodMem s [] false) := by
  refine ⟨fun h1 h2 => .inl ⟨rfl, h1, h2⟩, fun h => .inr ⟨rfl, rfl, fun ys hg ht => h ?_⟩⟩
  obtain ⟨h1, h2, _⟩ := textG_at hX (fun r hr => lineM_no10 ((goodM_ok hg).1 r hr)) ht
  have e : L = ys := List.ext_getElem (by omega) fun i a b => by rw [hL i a, h2 i b, hf _ ((goodM_ok hg).1 _ (List.getElem_mem _))]
  rw [e]; exact ⟨hg, ht⟩
theorem linesM_many {s : ByteArray} {X : List ByteArray} (hX : bl X = splitU 10 s.data.toList) (h : 13 < X.length) : IsParseG lineM goodMem s [] false :=
  .inr ⟨rfl, rfl, fun ys hg ht => by have h1 := (textG_at hX (fun r hr => lineM_no10 ((goodM_ok hg).1 r hr)) ht).1; have h2 := (goodM_ok hg).2; omega⟩
theorem linesM_long {s : ByteArray} (h : 400 < s.size) : IsParseG lineM goodMem s [] false :=
  .inr ⟨rfl, rfl, fun ys hg ht => by
    have h1 := textG_len (line := lineM) (m := 30) (fun r hr => lineM_size ((goodM_ok hg).1 r hr))
    have h2 := (goodM_ok hg).2
    have h3 : s.data.toList.length = s.size := by simp
    rw [ht] at h1; omega⟩
theorem parseM_unique {s : ByteArray} {x y : List Mem} {b c : Bool} (h1 : IsParseG lineM goodMem s x b) (h2 : IsParseG lineM goodMem s y c) : x = y ∧ b = c :=
  IsParseG.unique (ok := memOk) (fun _ h => (goodM_ok h).1) (fun _ h => lineM_no10 h) (fun _ _ ha hb h => lineM_inj ha hb h) h1 h2
/-- The answer is the only one; its rows are few. -/
theorem parseM_len {s : ByteArray} {x : List Mem} {b : Bool} (h : IsParseG lineM goodMem s x b) : x.length ≤ 12 ∧ ∀ r ∈ x, r.name.size ≤ 10 := by
  rcases h with ⟨_, h, _⟩ | ⟨_, rfl, _⟩
  · exact ⟨(goodM_ok h).2, fun r hr => (word_size (mem_parts ((goodM_ok h).1 r hr)).2.1).2⟩
  · exact ⟨Nat.zero_le _, fun r hr => by simp at hr⟩
/-! ### What the program reads off a line -/
theorem cut_len (l : List UInt8) (c : List UInt8) : (Lib.cut l c).1.length ≤ l.length ∧ (Lib.cut l c).2.1.length ≤ l.length := by
  unfold Lib.cut
  split
  · exact ⟨by rw [List.length_take]; omega, by simp⟩
  · exact ⟨Nat.le_refl _, by simp⟩
theorem frontI_size (x : ByteArray) : (frontI x).size ≤ x.size ∧ (restI x).size ≤ x.size := by
  have h := cut_len x.data.toList [32]
  have e : x.data.toList.length = x.size := by simp
  rw [e] at h
  refine ⟨?_, ?_⟩
  · show (Lib.cut x.data.toList [32]).1.toArray.size ≤ _; simpa using h.1
  · show (Lib.cut x.data.toList [32]).2.1.toArray.size ≤ _; simpa using h.2
theorem nameI_size (x : ByteArray) : (nameI x).size ≤ x.size := Nat.le_trans (frontI_size (restI x)).1 (frontI_size x).2
def sufI (x : ByteArray) : ByteArray := ⟨(Lib.trimPrefix (restI x).data.toList (nameI x).data.toList).toArray⟩
def offQ (x : ByteArray) : Int := offI x.data.toList
theorem memI_eq (x : ByteArray) : memI x = ⟨(readR (frontI x)).1, nameI x, offQ (sufI x)⟩ := rfl
theorem offQ_hit {x : ByteArray} {k : Nat} (hk : k < 4) (h : x = offB k) : offQ x = k := by
  subst h
  match k, hk with
  | 0, _ => decide
  | 1, _ => decide
  | 2, _ => decide
  | 3, _ => decide
theorem offQ_miss {x : ByteArray} (h : ∀ k : Nat, k < 4 → x ≠ offB k) : offQ x = -1 := by
  unfold offQ offI
  have h0 : ¬ x.data.toList = [] := fun e => h 0 (by decide) (ba_ext (e.trans (rfl : [] = (offB (0 : Nat)).data.toList)))
  have h1 : ¬ x.data.toList = (offB 1).data.toList := fun e => h 1 (by decide) (ba_ext e)
  have h2 : ¬ x.data.toList = (offB 2).data.toList := fun e => h 2 (by decide) (ba_ext e)
  have h3 : ¬ x.data.toList = (offB 3).data.toList := fun e => h 3 (by decide) (ba_ext e)
  rw [if_neg h0, if_neg h1, if_neg h2, if_neg h3]
/-- What the reference reads off a line. -/
def memSL (x : ByteArray) : Mem := memS (splitL x 32) x
theorem offS_hit {X : List ByteArray} {x : ByteArray} {j : Nat} (h1 : 1 ≤ j) (h3 : j ≤ 3) (h : X.length = 3 ∧ lineM ⟨(readR (at_ X 0)).1, at_ X 1, (j : Int)⟩ = x)
    (hb : ∀ i : Nat, 1 ≤ i → i < j → ¬ (X.length = 3 ∧ lineM ⟨(readR (at_ X 0)).1, at_ X 1, (i : Int)⟩ = x)) : offS X x = j := by
  unfold offS
  match j, h1, h3, h, hb with
  | 1, _, _, h, _ => exact if_pos h
  | 2, _, _, h, hb =>
    have b1 := hb 1 (by decide) (by decide)
    exact (if_neg b1).trans (if_pos h)
  | 3, _, _, h, hb =>
    have b1 := hb 1 (by decide) (by decide)
    have b2 := hb 2 (by decide) (by decide)
    exact (if_neg b1).trans ((if_neg b2).trans (if_pos h))
theorem offS_miss {X : List ByteArray} {x : ByteArray} (hb : ∀ i : Nat, 1 ≤ i → i < 4 → ¬ (X.length = 3 ∧ lineM ⟨(readR (at_ X 0)).1, at_ X 1, (i : Int)⟩ = x)) : offS X x = 0 := by
  unfold offS
  have b1 := hb 1 (by decide) (by decide)
  have b2 := hb 2 (by decide) (by decide)
  have b3 := hb 3 (by decide) (by decide)
  exact (if_neg b1).trans ((if_neg b2).trans (if_neg b3))
theorem memSL_line {r : Mem} (h : memOk r = true) : memSL (lineM r) = r := (memS_line h (splitL_bl (lineM r) 32)).2.2
theorem memSL_ok {r : Mem} {x : ByteArray} (h : memOk r = true) (e : lineM r = x) : (2 ≤ (splitL x 32).length ∧ (splitL x 32).length ≤ 3) ∧ (readR (at_ (splitL x 32) 0)).2 = true := by
  subst e
  have := memS_line h (splitL_bl (lineM r) 32)
  exact ⟨this.1, this.2.1⟩
theorem below_drewW (w : World) (n : Nat) : Below w.heap.size w (w.drewN n) := ⟨rfl, rfl, rfl, Nat.le_refl _, fun _ _ => rfl⟩
end Go.My
namespace Go.Proofs.YtngheildmhimoaaGreatDoor
open Go.RowKit Go.My
/-- strings.Split at one byte. -/
theorem split_at (s : ByteArray) (b : UInt8) (w : World) (hs : s.size ≤ 1048576) (hm : MaxAt w 1) :
    Calls Tryz.prog 41 #[.string s, .string ⟨#[b]⟩] w fun e w' => e = .returned (.slice (some ⟨w.heap.size, 0, none⟩) (splitL s b).length (splitL s b).length) ∧ w' = w.alloc (.cells (sCells (splitL s b)).toArray 9) := by
  obtain ⟨m, hm⟩ := hm
  have h := Tryz.strings_Split s ⟨#[b]⟩ m w (by omega) hm (Nat.le_refl 1)
  have hl : Lib.countB s ⟨#[b]⟩ + 1 = (splitL s b).length := by
    rw [← splitB_eq, Lib.splitB_all ⟨#[b]⟩ (Nat.le_refl 1) 0 _ s rfl]
  rw [splitB_eq, hl] at h
  exact h
theorem idxOff_any (g c : Nat) (x : ByteArray) (w : World) (hg : OffAt w g) :
    Calls Tryz.prog 44 #[.slice (some ⟨g, 0, none⟩) 4 c, .string x] w fun e w' => e = .returned (.int .i64 (offQ x)) ∧ w' = w := by
  have HG : Hid (OffAt w g) := hg
  clear hg
  go_enter Tryz.func44, Tryz.ntmps44
  go_wp2
  go_loop [8] (fun i => ∃ k : Nat, 0 ≤ k ∧ k ≤ 4 ∧ i = .int .i64 k ∧ Hid (∀ j : Nat, j < k → x ≠ offB j)) (fun i => 4 - (intOf i).toNat)
  case atStart => exact ⟨0, by omega, by omega, rfl, fun j hj => by omega⟩
  case round =>
    obtain ⟨k, h0, hk, rfl, H⟩ := hrel
    by_cases hlt : k < 4
    · have hc := HG.out k hlt
      have hkI : (k : Int) < 4 := by omega
      by_cases hq : x = offB k
      · have HR : Hid (offQ x = k) := offQ_hit hlt hq
        have he : (x.toList == (offB k).toList) = true := by rw [hq]; simp
        clear H hq
        go_wp2
        go_ret
        exact ⟨by rw [HR.out]; rfl, rfl⟩
      · have HN : Hid (∀ j : Nat, j < k + 1 → x ≠ offB j) := fun j hj => by
          by_cases e : j = k
          · subst e; exact hq
          · exact H.out j (by omega)
        have he : (x.toList == (offB k).toList) = false := by
          rw [beq_eq_false_iff_ne]; exact fun e => hq (toList_inj e)
        clear H hq
        go_wp2
        go_round
        case rel => exact ⟨k + 1, by omega, by omega, by go_num, HN⟩
        case measure => simp [intOf]; omega
    · have hkn : k = 4 := by omega
      subst hkn
      have HR : Hid (offQ x = -1) := offQ_miss H.out
      clear H
      go_wp2
      go_ret
      exact ⟨by rw [HR.out]; rfl, rfl⟩
theorem cut_sp (x : ByteArray) (w : World) (hs : x.size ≤ 1048576) (hm : MaxAt w 1) :
    Calls Tryz.prog 42 #[.string x, .string ⟨#[32]⟩] w fun e w' => (∃ b, e = .returned (.tuple #[.string (frontI x), .string (restI x), .bool b])) ∧ Below w.heap.size w w' := by
  obtain ⟨m, hm⟩ := hm
  refine (Tryz.strings_Cut x ⟨#[32]⟩ m w (by omega) hm).mono fun e w' h => ?_
  obtain ⟨h1, n, rfl⟩ := h
  exact ⟨⟨_, h1⟩, below_drewW w n⟩
/-- What the program's texts read: the words for offices, a bound of the library's, its error for a bad syntax, its powers of ten. -/
def MemDoor (w : World) : Prop := OffAt w 0 ∧ MaxAt w 1 ∧ SynIs w ∧ Lib.TabIs Tryz.prog w "internal/strconv.uint64pow10" .u64 Lib.pow10Tab
theorem MemDoor.below {w w' : World} (h : MemDoor w) (hb : Below w.heap.size w w') : MemDoor w' := ⟨h.1.below hb, h.2.1.below hb, h.2.2.1.below hb, tab_below h.2.2.2 hb⟩
set_option maxHeartbeats 8000000 in
set_option maxRecDepth 100000 in
theorem implParseMembers_any (s : ByteArray) (w : World) (hs : s.size ≤ 1048576) (hd0 : MemDoor w) :
    Calls Tryz.prog 16 #[.string s] w fun e w' => ∃ (L : List Mem) (b : Bool) (A' : Option Addr) (c' : Nat), e = .returned (.tuple #[.slice A' L.length c', .bool b]) ∧ w'.ownsRow w.heap.size 54 3 (.slice A' L.length c') L.length (memCells L) ∧ IsParseG lineM goodMem s L b ∧ Below w.heap.size w w' := by
  have HX := Lib.hid (splitL_bl s 10)
  have HSZ : Hid (∀ x ∈ splitL s 10, x.size ≤ s.size) := splitL_sz s 10
  have hXp := splitL_pos s 10
  have hXM : (splitL s 10).length ≤ 1048577 := Nat.le_trans (splitL_len s 10) (by omega)
  have HC : Hid (∀ x w1, x.size ≤ 1048576 → Below w.heap.size w w1 → Calls Tryz.prog 42 #[.string x, .string ⟨#[32]⟩] w1 fun e w' => (∃ b, e = .returned (.tuple #[.string (frontI x), .string (restI x), .bool b])) ∧ Below w1.heap.size w1 w') := fun x w1 hx hb => cut_sp x w1 hx (hd0.below hb).2.1
  have HP : Hid (∀ y w1, Below w.heap.size w w1 → Calls Tryz.prog 43 #[.string y] w1 fun e w' => e = .returned (.tuple #[.int .i64 (readR y).1, .bool (readR y).2]) ∧ Below w1.heap.size w1 w') := fun y w1 hb => implParse_any y w1 (hd0.below hb).2.2.1 (hd0.below hb).2.2.2
  have HOF : Hid (∀ w1, Below w.heap.size w w1 → OffAt w1 0) := fun w1 hb => (hd0.below hb).1
  have HS := Lib.hid (split_at s 10 w hs hd0.2.1)
  have HT : Hid (∀ A c L w1, L.length ≤ 12 → Rd w1 A (memCells L) → (∀ r ∈ L, memOk r = true) → Below w.heap.size w w1 → Calls Tryz.prog 39 #[.slice A L.length c] w1 fun e w' => e = .returned (.string ⟨(textG lineM L).toArray⟩) ∧ Below w1.heap.size w1 w') := fun A c L w1 h1 h2 h3 hb => membersText_any A c L w1 h1 h2 h3 (hd0.below hb).1
  clear hd0
  generalize splitL s 10 = X at *
  go_enter Tryz.func16, Tryz.ntmps16
  go_wp2_with fail
  refine HS.out.mono ?_
  rintro e w1 ⟨rfl, rfl⟩
  have hb1 : Below w.heap.size w (w.alloc (.cells (sCells X).toArray 9)) := bnew (Below.refl _ _) _
  have hcell : ∀ j (hj : j < X.length), (w.alloc (.cells (sCells X).toArray 9)).cell? ⟨w.heap.size, j, none⟩ = some (.string X[j]) := fun j hj => (World.cell?_alloc_at _ _ _ _ rfl).trans (by simp [sCells, hj])
  have HCl := Lib.hid hcell
  clear hcell HS
  generalize w.alloc (.cells (sCells X).toArray 9) = w1 at *
  by_cases h9 : X.length ≤ 13
  rotate_left
  · have h9I : (13 : Int) < (X.length : Int) := by omega
    go_wp2
    exact bodyPost_ret (v := .tuple #[.slice none 0 0, .bool false]) (by simp [results, Tryz.results16, go_sem]) rfl ⟨[], false, none, 0, rfl, own_nil, linesM_many HX.out (by omega), hb1⟩
  have h9I : ¬ (13 : Int) < (X.length : Int) := by omega
  have ho0 := own_lit (e := 54) (size := 3) (B := w.heap.size) (w := w1) #[] 0 hb1.size (by unfold maxLen; omega) rfl
  have hb0 := bnew hb1 (.cells #[] 54)
  have HC0 : Hid (∀ j (hj : j < X.length), (w1.alloc (.cells #[] 54)).cell? ⟨w.heap.size, j, none⟩ = some (.string X[j])) := fun j hj => cell_bw (HCl.out j hj) (bnew (Below.refl _ _) _)
  obtain ⟨n, hn⟩ : ∃ n, X.length = n + 1 := ⟨X.length - 1, by omega⟩
  have hn1 : (X.length : Int) - 1 = (n : Int) := by omega
  have hnw : IntKind.i64.wrap ((X.length : Int) - 1) = (n : Int) := by rw [IntKind.wrap_i64]; omega
  have hnX : (n : Int) < (X.length : Int) := by omega
  have hnX2 : (n : Int) ≤ (X.length : Int) := by omega
  have Hn := Lib.hid hn
  have hn12 : n ≤ 12 := by omega
  clear hn
  have hne0 : some w.heap.size ≠ (Value.slice (some ⟨w1.heap.size, 0, none⟩) 0 0).ownBlock := by have : w.heap.size < w1.heap.size := World.block_lt_of_cell? _ _ (HCl.out 0 hXp); simp [Value.ownBlock]; omega
  go_wp2_with fail
  generalize w1.alloc (.cells #[] 54) = w2 at *
  go_loopw [5, 28] (fun ov i wr => ∃ (k : Nat) (L : List Mem) (A' : Option Addr) (c' : Nat), k ≤ n ∧ Hid (L.length = k) ∧ i = .int .i64 k ∧ ov = .slice A' L.length c' ∧ Hid (ReadOf memI X L) ∧ Hid (∀ r ∈ L, r.name.size ≤ 1048576) ∧ wr.ownsRow w.heap.size 54 3 (.slice A' L.length c') L.length (memCells L) ∧ some w.heap.size ≠ (Value.slice A' L.length c').ownBlock ∧ Hid (∀ j (hj : j < X.length), wr.cell? ⟨w.heap.size, j, none⟩ = some (.string X[j])) ∧ Below w.heap.size w wr) (fun _ i _ => n - (intOf i).toNat)
  case atStart => exact ⟨0, [], _, _, by omega, rfl, rfl, rfl, ReadOf.nil _ X, (fun r h => by simp at h), ho0, hne0, HC0, hb0⟩
  case round =>
    clear ho0 hb0 HC0 hne0
    obtain ⟨k, L, A', c', hk, HLk, rfl, rfl, HL, HN, ho, hne, HCr, hb⟩ := hrel
    by_cases hlt : k < n
    · have hkI : (k : Int) < (n : Int) := by omega
      have hkX : k < X.length := by have := Hn.out; omega
      have cx := HCr.out k hkX
      have hxs : X[k].size ≤ 1048576 := Nat.le_trans (HSZ.out _ (List.getElem_mem _)) hs
      have hat := at_eq hkX
      rw [← hat] at cx hxs
      clear hat
      generalize hxe : at_ X k = x at *
      have hrs : (restI x).size ≤ 1048576 := Nat.le_trans (frontI_size x).2 hxs
      have HC1 := Lib.hid (fun w1 (hb : Below w.heap.size w w1) => HC.out x w1 hxs hb)
      have HC2 := Lib.hid (fun w1 (hb : Below w.heap.size w w1) => HC.out (restI x) w1 hrs hb)
      have HME := Lib.hid (memI_eq x)
      have hns : (nameI x).size ≤ 1048576 := Nat.le_trans (nameI_size x) hxs
      have hnf : frontI (restI x) = nameI x := rfl
      rw [hnf] at HC2
      have HBAD : Hid ((readR (frontI x)).2 = false → ∀ r', memOk r' = true → lineM r' ≠ x) := fun h r' h1 h2 => by
        have := (memI_line h1).2
        rw [h2, h] at this; cases this
      have HTP : Hid (∀ w1, Calls Tryz.prog 45 #[.string (restI x), .string (nameI x)] w1 fun e w' => e = .returned (.string (sufI x)) ∧ w' = w1) := fun w1 => Tryz.strings_TrimPrefix (restI x) (nameI x) w1
      have HIX : Hid (∀ w1, Below w.heap.size w w1 → Calls Tryz.prog 44 #[.slice (some ⟨0, 0, none⟩) 4 4, .string (sufI x)] w1 fun e w' => e = .returned (.int .i64 (offQ (sufI x))) ∧ w' = w1) := fun w1 hb => idxOff_any 0 4 (sufI x) w1 (HOF.out w1 hb)
      have HPx := Lib.hid (fun w1 (hb : Below w.heap.size w w1) => HP.out (frontI x) w1 hb)
      generalize hre : memI x = r at *
      generalize offQ (sufI x) = of at *
      generalize sufI x = sx at *
      generalize readR (frontI x) = R at *
      obtain ⟨num, ok⟩ := R
      generalize nameI x = nm at *
      generalize restI x = rx at *
      generalize frontI x = fx at *
      simp only at HME HBAD HPx
      go_wp2_with fail
      refine (HC1.out _ hb).mono ?_
      rintro e w3 ⟨⟨b1, rfl⟩, hb3⟩
      have hbA := btr hb hb3
      go_wp2_with fail
      refine (HC2.out _ hbA).mono ?_
      rintro e w4 ⟨⟨b2, rfl⟩, hb4⟩
      have hbB := btr hbA hb4
      have hb34 := btr hb3 hb4
      go_wp2_with fail
      refine (HPx.out _ hbB).mono ?_
      rintro e w5 ⟨rfl, hb5⟩
      have hbC := btr hbB hb5
      cases ok with
      | false =>
        have HF : Hid (IsParseG lineM goodMem s [] false) := linesM_bad HX.out (k := k) (by have := Hn.out; omega) (by rw [hxe]; exact HBAD.out rfl)
        clear HBAD HCr HL HIX HTP HPx HC1 HC2
        go_wp2
        exact bodyPost_ret (v := .tuple #[.slice none 0 0, .bool false]) (by simp [results, Tryz.results16, go_sem]) rfl ⟨[], false, none, 0, rfl, own_nil, HF.out, hbC⟩
      | true =>
        have HL2 : Hid (ReadOf memI X (L ++ [r])) := HL.out.snoc (by rw [HLk.out, hxe]; exact hre.symm)
        have HN2 : Hid (∀ y ∈ L ++ [r], y.name.size ≤ 1048576) := fun y hy => by
          rcases List.mem_append.1 hy with hy | hy
          · exact HN.out y hy
          · simp only [List.mem_singleton] at hy; subst hy; rw [HME.out]; exact hns
        go_wp2_with fail
        refine wp_loose_tail0 (U := fun _ => undef) (τ := lk [(6, valS [] (.string sx)), (7, valS [] (.int .i64 of)), (9, litS [] w5.drew.heap.size 54 1 [.int .i64 num, .string nm, .int .i64 of])]) (F := []) 10 (by kernel_rfl) (by kernel_rfl) (fits_of rfl (by kernel_rfl)) (inv_start (by intro r s h; have := lk_mem h; simp at this; (first | omega | (simp only [List.length_cons, List.length_nil]; omega)))) ?_
        simp only [List.take_succ_cons, List.take_zero, List.drop_succ_cons, List.drop_zero]
        refine wpL_quiet 6 rfl rfl ?_
        simp only [List.take_succ_cons, List.take_zero, List.drop_succ_cons, List.drop_zero]
        repeat (go_big_quiet_step (fail))
        refine wpQuiet_nil ?_
        refine gives_loose rfl (ob_val (fun w1 h1 _ => by simp [stepTo, stepUpon, go_sem]; exact (HTP.out w1).mono fun e w2 h => ⟨_, h.1, rfl, by rw [h.2]; exact Below.refl _ _⟩)) ?_
        rintro u6 rfl
        simp only [Act.put, List.setIfInBounds_toArray, List.set_cons_zero, List.set_cons_succ]
        refine gives_loose rfl (ob_val (fun w1 h1 _ => by simp [stepTo, stepUpon, go_sem]; exact (HIX.out w1 (btr hbC.drew (clP_below' h1))).mono fun e w2 h => ⟨_, h.1, rfl, by rw [h.2]; exact Below.refl _ _⟩)) ?_
        rintro u7 rfl
        simp only [Act.put, List.setIfInBounds_toArray, List.set_cons_zero, List.set_cons_succ]
        refine wpL_quiet 1 rfl rfl ?_
        simp only [List.take_succ_cons, List.take_zero, List.drop_succ_cons, List.drop_zero]
        repeat (go_big_quiet_step (fail))
        refine wpQuiet_nil ?_
        refine gives_loose rfl (ob_litS (cs := #[.int .i64 num, .string nm, .int .i64 of]) (Nat.le_refl _) (fun w1 _ => by go_simp)) ?_
        rintro u9 ⟨g9, rfl⟩
        simp only [Act.put, List.setIfInBounds_toArray, List.set_cons_zero, List.set_cons_succ]
        refine wpL_nil ?_
        intro w8 hEnd
        obtain ⟨gg, e9, hg9, B9⟩ := ends_get hEnd 9 rfl rfl
        have e9' : (Value.slice (some ⟨g9, 0, none⟩) 1 1) = .slice (some ⟨gg, 0, none⟩) 1 1 := e9
        cases e9'
        have hb58 : Below w5.heap.size w5 w8 := btr (Below.refl _ _).drew (ends_below hEnd)
        have hbr8 := btr hb34 (btr hb5 hb58)
        have hb8 := btr hb hbr8
        have hoW := own_below ho hbr8
        have HC4 : Hid (∀ j (hj : j < X.length), w8.cell? ⟨w.heap.size, j, none⟩ = some (.string X[j])) := fun j hj => cell_bw (HCr.out j hj) hbr8
        have hrd : Rd w8 (some ⟨g9, 0, none⟩) [.int .i64 num, .string nm, .int .i64 of] := .inr ⟨g9, 0, rfl, fun j hj => by rw [Nat.zero_add]; exact B9.cell (List.getElem?_eq_getElem hj)⟩
        have hszB : w.heap.size ≤ w8.heap.size := hb8.size
        have hL8 : L.length ≤ 12 := by have := HLk.out; omega
        clear hEnd e9 hg9 B9 HIX HTP HBAD HC1 HC2 HPx HL HN ho HCr
        go_wp2_with (at_builtin; refine wpl_app rfl (.tmp 51) (.tmp 60) 24 rfl el_Mem (v := .slice A' L.length c') rfl hoW rfl rfl hrd (by simp [Value.oneCell']) (by unfold maxLen; omega) (by omega) hszB ?_; intro A5 c5 w9 ho5 hg5 hd5)
        have hne5 : some w.heap.size ≠ (Value.slice A5 (L.length + 1) c5).ownBlock := fun e => by
          rcases hd5 with h | h
          · exact hne (e.trans h)
          · have h9 := Option.some.inj (e.trans h)
            have h1 := World.block_lt_of_cell? _ _ (HC4.out 0 hXp)
            have h1' : w.heap.size < w8.heap.size := h1
            rw [← h9] at h1'; exact absurd h1' (Nat.lt_irrefl _)
        have hb9 : Below w.heap.size w w9 := hb8.grown hg5 hb8.size (fun k hk => (hoW.lt k hk).1)
        have HC5 : Hid (∀ j (hj : j < X.length), w9.cell? ⟨w.heap.size, j, none⟩ = some (.string X[j])) := fun j hj => hg5.cell (HC4.out j hj) hne
        have HME2 : Hid ([.int .i64 num, .string nm, .int .i64 of] = [Value.int .i64 r.num, .string r.name, .int .i64 r.off]) := by show _ = _; rw [HME.out]
        go_roundw
        case rel => exact ⟨k + 1, L ++ [r], A5, c5, by omega, (by have := HLk.out; show (L ++ [r]).length = k + 1; simp; omega), by go_num, by simp, HL2, HN2, (by rw [memCells_snoc, ← HME2.out]; simpa using ho5), by simpa using hne5, HC5, hb9⟩
        case measure => simp [intOf]; omega
    · have hkn : k = n := by omega
      have hkI : ¬ (k : Int) < (n : Int) := by omega
      have HE := Lib.hid (linesM_end HX.out (fun r h => (memI_line h).1) HL.out (by have := Hn.out; have := HLk.out; omega))
      have hLb : L.length ≤ 1048577 := by have := HLk.out; omega
      have hle : L.length ≤ c' := by obtain ⟨_, _, e, h⟩ := own_form ho; cases e; exact h
      have Hv : Hid (∀ w1, Below wr.heap.size wr w1 → Calls Tryz.prog 10 #[.slice A' L.length c'] w1 fun e w' => e = .returned (.bool (goodMem L)) ∧ Below w1.heap.size w1 w') := fun w1 hb => isMembers_any A' c' L w1 (by unfold maxLen; omega) hle ((own_rd ho).below hb) (fun y hy => by have := HN.out y hy; unfold maxLen; omega)
      have HTx : Hid (goodMem L = true → ∀ w1, Below wr.heap.size wr w1 → Calls Tryz.prog 39 #[.slice A' L.length c'] w1 fun e w' => e = .returned (.string ⟨(textG lineM L).toArray⟩) ∧ Below w1.heap.size w1 w') := fun hg w1 hb1 => HT.out A' c' L w1 (goodM_ok hg).2 ((own_rd ho).below hb1) (goodM_ok hg).1 (btr hb hb1)
      clear HL HCr HT hle HN
      cases hg : goodMem L with
      | false =>
        have HF : Hid (IsParseG lineM goodMem s [] false) := HE.out.2 (fun h => by rw [hg] at h; cases h.1)
        rw [hg] at Hv
        clear HE HTx
        go_wp2_with fail
        refine (Hv.out _ (Below.refl _ _)).mono ?_
        rintro e w6 ⟨rfl, hb6⟩
        have hbE := btr hb hb6
        go_wp2
        exact bodyPost_ret (v := .tuple #[.slice none 0 0, .bool false]) (by simp [results, Tryz.results16, go_sem]) rfl ⟨[], false, none, 0, rfl, own_nil, HF.out, hbE⟩
      | true =>
        have HT2 := Lib.hid (HTx.out hg)
        have hxt : (⟨(textG lineM L).toArray⟩ : ByteArray) = s ↔ textG lineM L = s.data.toList := ⟨fun h => by rw [← h], fun h => of_list h.symm ▸ rfl⟩
        rw [hg] at Hv
        clear HTx
        generalize (⟨(textG lineM L).toArray⟩ : ByteArray) = D at *
        by_cases hD : D = s
        · have HF : Hid (IsParseG lineM goodMem s L true) := HE.out.1 hg (hxt.1 hD)
          subst hD
          clear HE hxt
          go_wp2_with fail
          refine (Hv.out _ (Below.refl _ _)).mono ?_
          rintro e w6 ⟨rfl, hb6⟩
          go_wp2_with fail
          refine (HT2.out _ hb6).mono ?_
          rintro e w7 ⟨rfl, hb7⟩
          have hb67 := btr hb6 hb7
          have ho7 := own_below ho hb67
          have hb70 := btr hb hb67
          go_wp2
          exact bodyPost_ret (v := .tuple #[.slice A' L.length c', .bool true]) (by simp [results, Tryz.results16, go_sem]) rfl (by first | exact ⟨L, true, A', c', rfl, ho7, HF.out, hb70⟩ | exact ⟨L, .inr ⟨A', c', rfl, ho7, HF.out, hb70⟩⟩)
        · have HF : Hid (IsParseG lineM goodMem s [] false) := HE.out.2 (fun h => hD (hxt.2 h.2))
          have hl2 : (D.toList == s.toList) = false := ne_beq2 hD
          have hl3 : (D == s) = false := by rw [beq_toListBytes]; exact hl2
          clear HE hxt
          go_wp2_with fail
          refine (Hv.out _ (Below.refl _ _)).mono ?_
          rintro e w6 ⟨rfl, hb6⟩
          go_wp2_with fail
          refine (HT2.out _ hb6).mono ?_
          rintro e w7 ⟨rfl, hb7⟩
          have hbE := btr hb (btr hb6 hb7)
          go_wp2
          exact bodyPost_ret (v := .tuple #[.slice none 0 0, .bool false]) (by simp [results, Tryz.results16, go_sem]) rfl ⟨[], false, none, 0, rfl, own_nil, HF.out, hbE⟩
set_option maxHeartbeats 8000000 in
set_option maxRecDepth 100000 in
theorem specParseMembers_any (s : ByteArray) (w : World) (hs : s.size ≤ 1048576) :
    Calls Tryz.prog 18 #[.string s] w fun e w' => ∃ (L : List Mem) (b : Bool) (A' : Option Addr) (c' : Nat), e = .returned (.tuple #[.slice A' L.length c', .bool b]) ∧ w'.ownsRow w.heap.size 54 3 (.slice A' L.length c') L.length (memCells L) ∧ IsParseG lineM goodMem s L b ∧ Below w.heap.size w w' := by
  have HX := Lib.hid (splitL_bl s 10)
  have HSZ : Hid (∀ x ∈ splitL s 10, x.size ≤ s.size) := splitL_sz s 10
  have hXp := splitL_pos s 10
  have hoE := own_lit (e := 54) (size := 3) (B := w.heap.size) (w := w) #[] 0 (Nat.le_refl _) (by unfold maxLen; omega) rfl
  have hbE := bnew (Below.refl w.heap.size w) (.cells #[] 54)
  have hwW : w.heap.size < (w.alloc (.cells #[] 54)).heap.size := by simp
  by_cases h4 : s.size ≤ 400
  rotate_left
  · have h4I : (400 : Int) < (s.size : Int) := by omega
    go_enter Tryz.func18, Tryz.ntmps18
    go_wp2
    exact bodyPost_ret (v := .tuple #[.slice (some ⟨w.heap.size, 0, none⟩) 0 0, .bool false]) (by simp [results, Tryz.results18, go_sem]) rfl (by first | exact ⟨[], false, _, _, rfl, hoE, linesM_long (by omega), hbE⟩ | exact ⟨[], .inl ⟨_, _, rfl, hoE, linesM_long (by omega), hbE⟩⟩)
  have h4I : ¬ (400 : Int) < (s.size : Int) := by omega
  have hXM : (splitL s 10).length ≤ 401 := Nat.le_trans (splitL_len s 10) (by omega)
  have HS : Hid (∀ w1, Calls Tryz.prog 47 #[.string s, .int .u8 10] w1 fun e w' => ∃ A' c', e = .returned (.slice A' (splitL s 10).length c') ∧ w'.ownsRow w1.heap.size 9 1 (.slice A' (splitL s 10).length c') (splitL s 10).length (sCells (splitL s 10)) ∧ Below w1.heap.size w1 w') := fun w1 => l1Split_any s 10 w1 hs
  have HSS : Hid (∀ x w1, x.size ≤ 1048576 → Calls Tryz.prog 47 #[.string x, .int .u8 32] w1 fun e w' => ∃ A' c', e = .returned (.slice A' (splitL x 32).length c') ∧ w'.ownsRow w1.heap.size 9 1 (.slice A' (splitL x 32).length c') (splitL x 32).length (sCells (splitL x 32)) ∧ Below w1.heap.size w1 w') := fun x w1 hx => l1Split_any x 32 w1 hx
  have HT : Hid (∀ A c L w1, L.length ≤ 12 → Rd w1 A (memCells L) → (∀ r ∈ L, memOk r = true) → Below w.heap.size w w1 → Calls Tryz.prog 40 #[.slice A L.length c] w1 fun e w' => e = .returned (.string ⟨(textG lineM L).toArray⟩) ∧ Below w1.heap.size w1 w') := fun A c L w1 h1 h2 h3 _ => l3Text_any A c L w1 h1 h2 h3
  generalize splitL s 10 = X at *
  go_enter Tryz.func18, Tryz.ntmps18
  go_wp2_with fail
  generalize w.alloc (.cells #[] 54) = W0 at *
  refine (HS.out W0).mono ?_
  rintro e w1 ⟨A1, cc, rfl, ho1, hb01⟩
  have hb1 := btr hbE hb01
  have hoE1 := own_below hoE hb01
  obtain ⟨gx, rfl, hlogx, HCgx⟩ : ∃ gx, A1 = some ⟨gx, 0, none⟩ ∧ W0.heap.size ≤ gx ∧ Hid (∀ j (hj : j < X.length), w1.cell? ⟨gx, j, none⟩ = some (.string X[j])) := by
    obtain ⟨b, off, rfl, _⟩ := Rd.strs (own_rd ho1) hXp
    rcases ho1.2 with ⟨h2, _⟩ | ⟨g, cap, cur, hv, hg, hh, hc, _⟩
    · simp at h2
    · simp only [Value.slice.injEq, Option.some.injEq, Addr.mk.injEq, and_true, true_and] at hv
      obtain ⟨⟨rfl, rfl⟩, rfl⟩ := hv
      refine ⟨b, rfl, hg, fun j hj => ?_⟩
      obtain ⟨b', off', e', c0⟩ := Rd.strs (own_rd ho1) hj
      simp only [Option.some.injEq, Addr.mk.injEq, and_true] at e'
      obtain ⟨rfl, rfl⟩ := e'
      simpa using c0
  have hgx0 : w.heap.size < gx := by omega
  clear ho1 HS hb01 hoE hbE
  obtain ⟨n, hn⟩ : ∃ n, X.length = n + 1 := ⟨X.length - 1, by omega⟩
  have hn1 : (X.length : Int) - 1 = (n : Int) := by omega
  have hnw : IntKind.i64.wrap ((X.length : Int) - 1) = (n : Int) := by rw [IntKind.wrap_i64]; omega
  have Hn := Lib.hid hn
  have hn12 : n ≤ 400 := by omega
  clear hn
  have hne0 : some gx ≠ (Value.slice (some ⟨w.heap.size, 0, none⟩) 0 0).ownBlock := by simp [Value.ownBlock]; omega
  go_wp2_with fail
  go_loopw [4, 6] (fun ov i wr => ∃ (k : Nat) (L : List Mem) (A' : Option Addr) (c' : Nat), k ≤ n ∧ Hid (L.length = k) ∧ i = .int .i64 k ∧ ov = .slice A' L.length c' ∧ Hid (ReadOf memSL X L) ∧ Hid (∀ r ∈ L, r.name.size ≤ 1048576) ∧ wr.ownsRow w.heap.size 54 3 (.slice A' L.length c') L.length (memCells L) ∧ some gx ≠ (Value.slice A' L.length c').ownBlock ∧ Hid (∀ j (hj : j < X.length), wr.cell? ⟨gx, j, none⟩ = some (.string X[j])) ∧ Below w.heap.size w wr) (fun _ i _ => n - (intOf i).toNat)
  case atStart => exact ⟨0, [], _, _, by omega, rfl, rfl, rfl, ReadOf.nil _ X, (fun r h => by simp at h), hoE1, hne0, HCgx, hb1⟩
  case round =>
    clear hoE1 hb1 HCgx hne0
    obtain ⟨k, L, A', c', hk, HLk, rfl, rfl, HL, HN, ho, hne, HCr, hb⟩ := hrel
    by_cases hlt : k < n
    · have hkI : (k : Int) < (n : Int) := by omega
      have hkX : k < X.length := by have := Hn.out; omega
      have hkXI : (k : Int) < (X.length : Int) := by omega
      have cx := HCr.out k hkX
      have hxs : X[k].size ≤ 1048576 := Nat.le_trans (HSZ.out _ (List.getElem_mem _)) hs
      have hat := at_eq hkX
      rw [← hat] at cx hxs
      clear hat
      generalize hxe : at_ X k = x at *
      have HSx := Lib.hid (fun w1 => HSS.out x w1 hxs)
      have HOK := Lib.hid (fun (r' : Mem) (h1 : memOk r' = true) (h2 : lineM r' = x) => memSL_ok h1 h2)
      have HHIT : Hid (∀ j : Nat, 1 ≤ j → j ≤ 3 → ((splitL x 32).length = 3 ∧ lineM ⟨(readR (at_ (splitL x 32) 0)).1, at_ (splitL x 32) 1, (j : Int)⟩ = x) → (∀ i : Nat, 1 ≤ i → i < j → ¬ ((splitL x 32).length = 3 ∧ lineM ⟨(readR (at_ (splitL x 32) 0)).1, at_ (splitL x 32) 1, (i : Int)⟩ = x)) → memSL x = ⟨(readR (at_ (splitL x 32) 0)).1, at_ (splitL x 32) 1, (j : Int)⟩) := fun j h1 h3 h hb => by unfold memSL memS; rw [offS_hit h1 h3 h hb]
      have HMISS : Hid ((∀ i : Nat, 1 ≤ i → i < 4 → ¬ ((splitL x 32).length = 3 ∧ lineM ⟨(readR (at_ (splitL x 32) 0)).1, at_ (splitL x 32) 1, (i : Int)⟩ = x)) → memSL x = ⟨(readR (at_ (splitL x 32) 0)).1, at_ (splitL x 32) 1, 0⟩) := fun hb => by unfold memSL memS; rw [offS_miss hb]
      have hYp := splitL_pos x 32
      have HYS : Hid (∀ y ∈ splitL x 32, y.size ≤ x.size) := splitL_sz x 32
      generalize splitL x 32 = Y at *
      have hYI : (0 : Int) < (Y.length : Int) := by omega
      have hz0 : (at_ Y 0).size ≤ 1048576 := by rw [at_eq hYp]; exact Nat.le_trans (HYS.out _ (List.getElem_mem _)) hxs
      have hns : (at_ Y 1).size ≤ 1048576 := by
        by_cases h1 : 1 < Y.length
        · rw [at_eq h1]; exact Nat.le_trans (HYS.out _ (List.getElem_mem _)) hxs
        · unfold at_; rw [List.getD_eq_getElem?_getD, List.getElem?_eq_none (by omega)]; exact Nat.zero_le _
      have HRd := Lib.hid (fun w1 => l1Read_any (at_ Y 0) w1 hz0)
      have hnum := read_bound (at_ Y 0)
      generalize hre : memSL x = r at *
      go_wp2_with fail
      refine (HSx.out _).mono ?_
      rintro e w3 ⟨A3, c3, rfl, ho3, hb3⟩
      obtain ⟨gy, rfl, hlogy, HCgy⟩ : ∃ gx, A3 = some ⟨gx, 0, none⟩ ∧ wr.heap.size ≤ gx ∧ Hid (∀ j (hj : j < Y.length), w3.cell? ⟨gx, j, none⟩ = some (.string Y[j])) := by
        obtain ⟨b, off, rfl, _⟩ := Rd.strs (own_rd ho3) hYp
        rcases ho3.2 with ⟨h2, _⟩ | ⟨g, cap, cur, hv, hg, hh, hc, _⟩
        · simp at h2
        · simp only [Value.slice.injEq, Option.some.injEq, Addr.mk.injEq, and_true, true_and] at hv
          obtain ⟨⟨rfl, rfl⟩, rfl⟩ := hv
          refine ⟨b, rfl, hg, fun j hj => ?_⟩
          obtain ⟨b', off', e', c0⟩ := Rd.strs (own_rd ho3) hj
          simp only [Option.some.injEq, Addr.mk.injEq, and_true] at e'
          obtain ⟨rfl, rfl⟩ := e'
          simpa using c0
      have d0 : w3.cell? ⟨gy, 0, none⟩ = some (.string (at_ Y 0)) := by rw [at_eq hYp]; exact HCgy.out 0 _
      clear ho3 HSx
      go_wp2_with fail
      refine (HRd.out _).mono ?_
      rintro e w4 ⟨rfl, hb4⟩
      generalize readR (at_ Y 0) = R at *
      obtain ⟨num, ok⟩ := R
      simp only at HHIT HMISS HOK hnum
      have hb34 := btr hb3 hb4
      have hb4w := btr hb hb34
      have ho4 := own_below ho hb34
      have HC4 : Hid (∀ j (hj : j < X.length), w4.cell? ⟨gx, j, none⟩ = some (.string X[j])) := fun j hj => cell_bw (HCr.out j hj) hb34
      have HY4 : Hid (∀ j (hj : j < Y.length), w4.cell? ⟨gy, j, none⟩ = some (.string Y[j])) := fun j hj => cell_bw (HCgy.out j hj) hb4
      have cx4 := cell_bw cx hb34
      clear HRd d0 ho HCr hb3 hb4 hb34 hb HCgy
      cases ok with
      | false =>
        have HF : Hid (IsParseG lineM goodMem s [] false) := linesM_bad HX.out (k := k) (by have := Hn.out; omega) (by rw [hxe]; exact fun r' h1 h2 => absurd (HOK.out r' h1 h2).2 (by decide))
        clear HOK HL HHIT HMISS
        have hoF := own_lit (e := 54) (size := 3) (B := w.heap.size) (w := w4) #[] 0 (hb4w).size (by unfold maxLen; omega) rfl
        have hbF := bnew (hb4w) (.cells #[] 54)
        go_wp2
        exact bodyPost_ret (v := .tuple #[.slice (some ⟨w4.heap.size, 0, none⟩) 0 0, .bool false]) (by simp [results, Tryz.results18, go_sem]) rfl (by first | exact ⟨[], false, _, _, rfl, hoF, HF.out, hbF⟩ | exact ⟨[], .inl ⟨_, _, rfl, hoF, HF.out, hbF⟩⟩)
      | true =>
        by_cases hY : 2 ≤ Y.length ∧ Y.length ≤ 3
        rotate_left
        · have HB : inB (Y.length : Int) 2 3 = false := inB_no (by omega)
          have HF : Hid (IsParseG lineM goodMem s [] false) := linesM_bad HX.out (k := k) (by have := Hn.out; omega) (by rw [hxe]; exact fun r' h1 h2 => hY (HOK.out r' h1 h2).1)
          clear HOK HL HHIT HMISS
          have hoF := own_lit (e := 54) (size := 3) (B := w.heap.size) (w := w4) #[] 0 (hb4w).size (by unfold maxLen; omega) rfl
          have hbF := bnew (hb4w) (.cells #[] 54)
          go_wp2_with (go_at_call 49; refine (l1In_any _ _ _ _).mono ?_; rintro e w99 ⟨rfl, rfl⟩)
          exact bodyPost_ret (v := .tuple #[.slice (some ⟨w4.heap.size, 0, none⟩) 0 0, .bool false]) (by simp [results, Tryz.results18, go_sem]) rfl (by first | exact ⟨[], false, _, _, rfl, hoF, HF.out, hbF⟩ | exact ⟨[], .inl ⟨_, _, rfl, hoF, HF.out, hbF⟩⟩)
        obtain ⟨hY2, hY3⟩ := hY
        have HB : inB (Y.length : Int) 2 3 = true := inB_yes (by omega)
        have hY1I : (1 : Int) < (Y.length : Int) := by omega
        have d1 : w4.cell? ⟨gy, 1, none⟩ = some (.string (at_ Y 1)) := by rw [at_eq (by omega)]; exact HY4.out 1 _
        generalize at_ Y 1 = nm at *
        go_wp2_with (go_at_call 49; refine (l1In_any _ _ _ _).mono ?_; rintro e w99 ⟨rfl, rfl⟩)
        have B5 : Blk (w4.alloc (.cells #[.int .i64 num, .string nm, .int .i64 0] 54)) w4.heap.size 54 [.int .i64 num, .string nm, .int .i64 0] := blk_new w4 #[.int .i64 num, .string nm, .int .i64 0] 54
        have hb5 : Below w4.heap.size w4 (w4.alloc (.cells #[.int .i64 num, .string nm, .int .i64 0] 54)) := bnew (Below.refl _ _) _
        generalize w4.alloc (.cells #[.int .i64 num, .string nm, .int .i64 0] 54) = w5 at *
        generalize wr = wo at *
        go_loopw [11] (fun q wr => ∃ j : Nat, 1 ≤ j ∧ j ≤ 4 ∧ q = .int .i64 j ∧ Hid (∀ i : Nat, 1 ≤ i → i < j → ¬ (Y.length = 3 ∧ lineM ⟨num, nm, (i : Int)⟩ = x)) ∧ Blk wr w4.heap.size 54 [.int .i64 num, .string nm, .int .i64 0] ∧ Below w4.heap.size w4 wr) (fun q _ => 4 - (intOf q).toNat)
        case atStart => exact ⟨1, by omega, by omega, rfl, (fun i h1 h2 => by omega), B5, hb5⟩
        case round =>
          clear B5 hb5
          obtain ⟨j, hj1, hj4, rfl, HJ, B5, hb5⟩ := hrel
          by_cases hj : j ≤ 3
          · have hjI : (j : Int) ≤ 3 := by omega
            have y2 := B5.cell (j := 2) rfl
            have z2 := B5.frozen 2
            have B6 : Blk (wr.setCell ⟨w4.heap.size, 2, none⟩ (.int .i64 j)) w4.heap.size 54 [.int .i64 num, .string nm, .int .i64 j] := by simpa using B5.setv 2 (.int .i64 j)
            have hb6 : Below w4.heap.size w4 (wr.setCell ⟨w4.heap.size, 2, none⟩ (.int .i64 j)) := hb5.setCell (Nat.le_refl _) _
            by_cases h3 : Y.length = 3
            · have h3I : (Y.length : Int) = 3 := by omega
              have h3D : ((Y.length : Int) == 3) = true := by rw [beq_iff_eq]; exact h3I
              go_wp2_with fail
              generalize wr.setCell ⟨w4.heap.size, 2, none⟩ (.int .i64 j) = w6 at *
              have HLn := Lib.hid (fun w1 => l3Line_any ⟨num, nm, (j : Int)⟩ w1 hnum hns (by show (0 : Int) ≤ j ∧ (j : Int) ≤ 3; omega))
              have g0 := cell_after (B6.cell (j := 0) rfl)
              have g1 := cell_after (B6.cell (j := 1) rfl)
              have g2 := cell_after (B6.cell (j := 2) rfl)
              have g3 := cell_after (cell_bw cx4 hb6)
              by_cases he : lineM ⟨num, nm, (j : Int)⟩ = x
              · have HR9 := Lib.hid (HHIT.out j hj1 hj ⟨h3, he⟩ HJ.out)
                rw [he] at HLn
                have he2 : (x.toList == x.toList) = true := beq_self_eq_true _
                have he1 : (x == x) = true := by rw [beq_toListBytes]; exact he2
                clear HMISS HHIT HOK HJ
                refine wp_region_after (by kernel_rfl) (by kernel_rfl) ?_
                repeat (go_big_quiet_step ((go_at_call 50; exact Calls.after (HLn.out _))))
                refine wpQuiet_nil ?_
                intro nq
                have B7 := B6.below nq.bel
                have hb7 := btr hb6 nq.bel
                generalize nq.val = w7 at *
                clear nq g0 g1 g2 g3 B6 hb6
                have hoW0 := own_below ho4 hb7
                have hbW0 := btr hb4w hb7
                have y0 := B7.cell (j := 0) rfl
                have y1 := B7.cell (j := 1) rfl
                have y2 := B7.cell (j := 2) rfl
                have HL2 : Hid (ReadOf memSL X (L ++ [⟨num, nm, (j : Int)⟩])) := HL.out.snoc (by rw [HLk.out, hxe]; exact (hre.trans HR9.out).symm)
                have HN2 : Hid (∀ y ∈ L ++ [(⟨num, nm, (j : Int)⟩ : Mem)], y.name.size ≤ 1048576) := fun y hy => by
                  rcases List.mem_append.1 hy with hy | hy
                  · exact HN.out y hy
                  · simp only [List.mem_singleton] at hy; subst hy; exact hns
                have HC7 : Hid (∀ q (hq : q < X.length), (w7.alloc (.cells #[.int .i64 num, .string nm, .int .i64 (j : Int)] 54)).cell? ⟨gx, q, none⟩ = some (.string X[q])) := fun q hq => cell_bw (HC4.out q hq) (btr hb7 (bnew (Below.refl _ _) _))
                have hoW := own_below hoW0 (bnew (Below.refl w7.heap.size w7) (.cells #[.int .i64 num, .string nm, .int .i64 (j : Int)] 54))
                have hbW := bnew hbW0 (.cells #[.int .i64 num, .string nm, .int .i64 (j : Int)] 54)
                have hrd : Rd (w7.alloc (.cells #[.int .i64 num, .string nm, .int .i64 (j : Int)] 54)) (some ⟨w7.heap.size, 0, none⟩) [.int .i64 num, .string nm, .int .i64 (j : Int)] := Rd.made
                have hszB : w.heap.size ≤ (w7.alloc (.cells #[.int .i64 num, .string nm, .int .i64 (j : Int)] 54)).heap.size := hbW.size
                have hL8 : L.length ≤ 400 := by have := HLk.out; omega
                go_wp2_with (at_builtin; refine wpl_app rfl (.tmp 71) (.tmp 73) 24 rfl el_Mem (v := .slice A' L.length c') rfl hoW rfl rfl hrd (by simp [Value.oneCell']) (by unfold maxLen; omega) (by omega) hszB ?_; intro A5 c5 w9 ho5 hg5 hd5)
                have hne5 : some gx ≠ (Value.slice A5 (L.length + 1) c5).ownBlock := fun e => by
                  rcases hd5 with h | h
                  · exact hne (e.trans h)
                  · have h9 := Option.some.inj (e.trans h)
                    have h1 : gx < (w7.alloc (.cells #[.int .i64 num, .string nm, .int .i64 (j : Int)] 54)).heap.size := World.block_lt_of_cell? _ _ (HC7.out 0 hXp)
                    rw [← h9] at h1; exact absurd h1 (Nat.lt_irrefl _)
                have hb9 : Below w.heap.size w w9 := hbW.grown hg5 hbW.size (fun k hk => (hoW.lt k hk).1)
                have HC5 : Hid (∀ q (hq : q < X.length), w9.cell? ⟨gx, q, none⟩ = some (.string X[q])) := fun q hq => hg5.cell (HC7.out q hq) hne
                go_roundw
                case rel => exact ⟨k + 1, L ++ [⟨num, nm, (j : Int)⟩], A5, c5, by omega, (by have := HLk.out; show (L ++ [_]).length = k + 1; simp; omega), by go_num, by simp, HL2, HN2, (by rw [memCells_snoc]; simpa using ho5), by simpa using hne5, HC5, hb9⟩
                case measure => simp [intOf]; omega
              · have he2 := ne_beq2 he
                have he1 : (lineM ⟨num, nm, (j : Int)⟩ == x) = false := by rw [beq_toListBytes]; exact he2
                have HJ2 : Hid (∀ i : Nat, 1 ≤ i → i < j + 1 → ¬ (Y.length = 3 ∧ lineM ⟨num, nm, (i : Int)⟩ = x)) := fun i h1 h2 => by
                  by_cases e : i = j
                  · subst e; exact fun h => he h.2
                  · exact HJ.out i h1 (by omega)
                clear HJ he
                generalize lineM ⟨num, nm, (j : Int)⟩ = LB at *
                refine wp_region_after (by kernel_rfl) (by kernel_rfl) ?_
                repeat (go_big_quiet_step ((go_at_call 50; exact Calls.after (HLn.out _))))
                refine wpQuiet_nil ?_
                intro nq
                have B7 := B6.below nq.bel
                have hb7 := btr hb6 nq.bel
                generalize nq.val = w7 at *
                clear nq g0 g1 g2 g3 B6 hb6
                have y9 := B7.cell (j := 2) rfl
                have z9 := B7.frozen 2
                have B8 : Blk (w7.setCell ⟨w4.heap.size, 2, none⟩ (.int .i64 0)) w4.heap.size 54 [.int .i64 num, .string nm, .int .i64 0] := by simpa using B7.setv 2 (.int .i64 0)
                go_wp2
                go_roundw
                case rel => exact ⟨j + 1, by omega, by omega, by go_num, HJ2, B8, hb7.setCell (Nat.le_refl _) _⟩
                case measure => simp [intOf]; omega
            · have h3I : ¬ (Y.length : Int) = 3 := by omega
              have h3D : ((Y.length : Int) == 3) = false := by rw [beq_eq_false_iff_ne]; exact h3I
              have HJ2 : Hid (∀ i : Nat, 1 ≤ i → i < j + 1 → ¬ (Y.length = 3 ∧ lineM ⟨num, nm, (i : Int)⟩ = x)) := fun i _ _ h => h3 h.1
              clear HJ
              go_wp2_with fail
              generalize wr.setCell ⟨w4.heap.size, 2, none⟩ (.int .i64 j) = w6 at *
              have g0 := cell_after (B6.cell (j := 0) rfl)
              have g1 := cell_after (B6.cell (j := 1) rfl)
              have g2 := cell_after (B6.cell (j := 2) rfl)
              have g3 := cell_after (cell_bw cx4 hb6)
              refine wp_region_after (by kernel_rfl) (by kernel_rfl) ?_
              repeat (go_big_quiet_step (fail))
              refine wpQuiet_nil ?_
              intro nq
              have B7 := B6.below nq.bel
              have hb7 := btr hb6 nq.bel
              generalize nq.val = w7 at *
              clear nq g0 g1 g2 g3 B6 hb6
              have y9 := B7.cell (j := 2) rfl
              have z9 := B7.frozen 2
              have B8 : Blk (w7.setCell ⟨w4.heap.size, 2, none⟩ (.int .i64 0)) w4.heap.size 54 [.int .i64 num, .string nm, .int .i64 0] := by simpa using B7.setv 2 (.int .i64 0)
              go_wp2
              go_roundw
              case rel => exact ⟨j + 1, by omega, by omega, by go_num, HJ2, B8, hb7.setCell (Nat.le_refl _) _⟩
              case measure => simp [intOf]; omega
          · have hj4' : j = 4 := by omega
            subst hj4'
            have HR9 := Lib.hid (HMISS.out HJ.out)
            clear HMISS HHIT HOK HJ
            have hoW0 := own_below ho4 hb5
            have hbW0 := btr hb4w hb5
            have y0 := B5.cell (j := 0) rfl
            have y1 := B5.cell (j := 1) rfl
            have y2 := B5.cell (j := 2) rfl
            have HL2 : Hid (ReadOf memSL X (L ++ [⟨num, nm, 0⟩])) := HL.out.snoc (by rw [HLk.out, hxe]; exact (hre.trans HR9.out).symm)
            have HN2 : Hid (∀ y ∈ L ++ [(⟨num, nm, 0⟩ : Mem)], y.name.size ≤ 1048576) := fun y hy => by
              rcases List.mem_append.1 hy with hy | hy
              · exact HN.out y hy
              · simp only [List.mem_singleton] at hy; subst hy; exact hns
            have HC7 : Hid (∀ q (hq : q < X.length), (wr.alloc (.cells #[.int .i64 num, .string nm, .int .i64 0] 54)).cell? ⟨gx, q, none⟩ = some (.string X[q])) := fun q hq => cell_bw (HC4.out q hq) (btr hb5 (bnew (Below.refl _ _) _))
            have hoW := own_below hoW0 (bnew (Below.refl wr.heap.size wr) (.cells #[.int .i64 num, .string nm, .int .i64 0] 54))
            have hbW := bnew hbW0 (.cells #[.int .i64 num, .string nm, .int .i64 0] 54)
            have hrd : Rd (wr.alloc (.cells #[.int .i64 num, .string nm, .int .i64 0] 54)) (some ⟨wr.heap.size, 0, none⟩) [.int .i64 num, .string nm, .int .i64 0] := Rd.made
            have hszB : w.heap.size ≤ (wr.alloc (.cells #[.int .i64 num, .string nm, .int .i64 0] 54)).heap.size := hbW.size
            have hL8 : L.length ≤ 400 := by have := HLk.out; omega
            go_wp2_with (at_builtin; refine wpl_app rfl (.tmp 71) (.tmp 73) 24 rfl el_Mem (v := .slice A' L.length c') rfl hoW rfl rfl hrd (by simp [Value.oneCell']) (by unfold maxLen; omega) (by omega) hszB ?_; intro A5 c5 w9 ho5 hg5 hd5)
            have hne5 : some gx ≠ (Value.slice A5 (L.length + 1) c5).ownBlock := fun e => by
              rcases hd5 with h | h
              · exact hne (e.trans h)
              · have h9 := Option.some.inj (e.trans h)
                have h1 : gx < (wr.alloc (.cells #[.int .i64 num, .string nm, .int .i64 0] 54)).heap.size := World.block_lt_of_cell? _ _ (HC7.out 0 hXp)
                rw [← h9] at h1; exact absurd h1 (Nat.lt_irrefl _)
            have hb9 : Below w.heap.size w w9 := hbW.grown hg5 hbW.size (fun k hk => (hoW.lt k hk).1)
            have HC5 : Hid (∀ q (hq : q < X.length), w9.cell? ⟨gx, q, none⟩ = some (.string X[q])) := fun q hq => hg5.cell (HC7.out q hq) hne
            go_roundw
            case rel => exact ⟨k + 1, L ++ [⟨num, nm, 0⟩], A5, c5, by omega, (by have := HLk.out; show (L ++ [_]).length = k + 1; simp; omega), by go_num, by simp, HL2, HN2, (by rw [memCells_snoc]; simpa using ho5), by simpa using hne5, HC5, hb9⟩
            case measure => simp [intOf]; omega
    · have hkn : k = n := by omega
      have hkI : ¬ (k : Int) < (n : Int) := by omega
      have HE := Lib.hid (linesM_end HX.out (fun r h => memSL_line h) HL.out (by have := Hn.out; have := HLk.out; omega))
      have hLb : L.length ≤ 1048577 := by have := HLk.out; omega
      have hle : L.length ≤ c' := by obtain ⟨_, _, e, h⟩ := own_form ho; cases e; exact h
      have Hv : Hid (∀ w1, Below wr.heap.size wr w1 → Calls Tryz.prog 28 #[.slice A' L.length c'] w1 fun e w' => e = .returned (.bool (goodMem L)) ∧ Below w1.heap.size w1 w') := fun w1 hb => l3Good_any A' c' L w1 (by unfold maxLen; omega) hle ((own_rd ho).below hb) (fun y hy => by have := HN.out y hy; unfold maxLen; omega)
      have HTx : Hid (goodMem L = true → ∀ w1, Below wr.heap.size wr w1 → Calls Tryz.prog 40 #[.slice A' L.length c'] w1 fun e w' => e = .returned (.string ⟨(textG lineM L).toArray⟩) ∧ Below w1.heap.size w1 w') := fun hg w1 hb1 => HT.out A' c' L w1 (goodM_ok hg).2 ((own_rd ho).below hb1) (goodM_ok hg).1 (btr hb hb1)
      clear HL HCr HT hle HN
      cases hg : goodMem L with
      | false =>
        have HF : Hid (IsParseG lineM goodMem s [] false) := HE.out.2 (fun h => by rw [hg] at h; cases h.1)
        rw [hg] at Hv
        clear HE HTx
        go_wp2_with fail
        refine (Hv.out _ (Below.refl _ _)).mono ?_
        rintro e w6 ⟨rfl, hb6⟩
        have hbE := btr hb hb6
        have hoF := own_lit (e := 54) (size := 3) (B := w.heap.size) (w := w6) #[] 0 (hbE).size (by unfold maxLen; omega) rfl
        have hbF := bnew (hbE) (.cells #[] 54)
        go_wp2
        exact bodyPost_ret (v := .tuple #[.slice (some ⟨w6.heap.size, 0, none⟩) 0 0, .bool false]) (by simp [results, Tryz.results18, go_sem]) rfl (by first | exact ⟨[], false, _, _, rfl, hoF, HF.out, hbF⟩ | exact ⟨[], .inl ⟨_, _, rfl, hoF, HF.out, hbF⟩⟩)
      | true =>
        have HT2 := Lib.hid (HTx.out hg)
        have hxt : (⟨(textG lineM L).toArray⟩ : ByteArray) = s ↔ textG lineM L = s.data.toList := ⟨fun h => by rw [← h], fun h => of_list h.symm ▸ rfl⟩
        rw [hg] at Hv
        clear HTx
        generalize (⟨(textG lineM L).toArray⟩ : ByteArray) = D at *
        by_cases hD : D = s
        · have HF : Hid (IsParseG lineM goodMem s L true) := HE.out.1 hg (hxt.1 hD)
          subst hD
          clear HE hxt
          go_wp2_with fail
          refine (Hv.out _ (Below.refl _ _)).mono ?_
          rintro e w6 ⟨rfl, hb6⟩
          go_wp2_with fail
          refine (HT2.out _ hb6).mono ?_
          rintro e w7 ⟨rfl, hb7⟩
          have hb67 := btr hb6 hb7
          have ho7 := own_below ho hb67
          have hb70 := btr hb hb67
          go_wp2
          exact bodyPost_ret (v := .tuple #[.slice A' L.length c', .bool true]) (by simp [results, Tryz.results18, go_sem]) rfl (by first | exact ⟨L, true, A', c', rfl, ho7, HF.out, hb70⟩ | exact ⟨L, .inr ⟨A', c', rfl, ho7, HF.out, hb70⟩⟩)
        · have HF : Hid (IsParseG lineM goodMem s [] false) := HE.out.2 (fun h => hD (hxt.2 h.2))
          have hl2 : (D.toList == s.toList) = false := ne_beq2 hD
          have hl3 : (D == s) = false := by rw [beq_toListBytes]; exact hl2
          clear HE hxt
          go_wp2_with fail
          refine (Hv.out _ (Below.refl _ _)).mono ?_
          rintro e w6 ⟨rfl, hb6⟩
          go_wp2_with fail
          refine (HT2.out _ hb6).mono ?_
          rintro e w7 ⟨rfl, hb7⟩
          have hbE := btr hb (btr hb6 hb7)
          have hoF := own_lit (e := 54) (size := 3) (B := w.heap.size) (w := w7) #[] 0 (hbE).size (by unfold maxLen; omega) rfl
          have hbF := bnew (hbE) (.cells #[] 54)
          go_wp2
          exact bodyPost_ret (v := .tuple #[.slice (some ⟨w7.heap.size, 0, none⟩) 0 0, .bool false]) (by simp [results, Tryz.results18, go_sem]) rfl (by first | exact ⟨[], false, _, _, rfl, hoF, HF.out, hbF⟩ | exact ⟨[], .inl ⟨_, _, rfl, hoF, HF.out, hbF⟩⟩)
end Go.Proofs.YtngheildmhimoaaGreatDoor
