/-
  ParseAgenda: plain laws, and the program's own ParseAgenda. Conditions: the listed variables are as laid.
-/
import Derived.Test.YtfpjelpbeicdoaaGreatDoorAgTxt
import Derived.Test.YtfpjelpbeicdoaaGreatDoorSpl
namespace Go.My
open Go.RowKit
def stB (b : UInt8) (s : ByteArray) : Bool := s.data.toList.any (fun c => c == b)
theorem join_snoc (l : List (List UInt8)) (x y sep : List UInt8) : Lib.join (l ++ [x, y]) sep = Lib.join (l ++ [x]) sep ++ sep ++ y := by
  cases l with
  | nil => simp [Lib.join_cons, Lib.joinTail]
  | cons a l => simp [Lib.join_cons, Lib.joinTail, List.append_assoc]
theorem join_last (l : List (List UInt8)) (x y sep : List UInt8) : Lib.join (l ++ [x ++ y]) sep = Lib.join (l ++ [x]) sep ++ y := by
  cases l with
  | nil => simp [Lib.join_one]
  | cons a l => simp [Lib.join_cons, Lib.joinTail, List.append_assoc]
theorem take_snocL {α : Type} (S : List α) {f k : Nat} (hf : f ≤ k) (hk : k < S.length) : (S.drop f).take (k + 1 - f) = (S.drop f).take (k - f) ++ [S[k]] := by
  rw [show k + 1 - f = (k - f) + 1 by omega, List.take_succ_eq_append_getElem (by simp; omega)]
  congr 2
  rw [List.getElem_drop]; congr 1; omega
/-- What has been split is joined again. -/
theorem cut_join (s : ByteArray) (b : UInt8) : ∀ k, k ≤ s.size → Lib.join (bl (cutN s b k).1 ++ [(s.data.toList.drop (cutN s b k).2).take (k - (cutN s b k).2)]) [b] = s.data.toList.take k ∧ (∀ x ∈ (cutN s b k).1, stB b x = false) ∧ b ∉ (s.data.toList.drop (cutN s b k).2).take (k - (cutN s b k).2)
  | 0, _ => by simp [cutN, bl, Lib.join_one]
  | k + 1, hk => by
    obtain ⟨h1, h2, h3⟩ := cut_join s b k (by omega)
    have hle := (cutN_le s b k).1
    have hlt : k < s.size := by omega
    have hl : k < s.data.toList.length := by simpa using hlt
    have hg : s.data.toList[k] = s[k] := rfl
    by_cases hb : s[k] = b
    · rw [cutN_eq hlt hb]
      refine ⟨?_, ?_, by simp⟩
      · simp only [bl, List.map_append, List.map_cons, List.map_nil, Nat.sub_self, List.take_zero, List.append_assoc, List.cons_append, List.nil_append]
        rw [Lib.extract_data]
        have := join_snoc (bl (cutN s b k).1) ((s.data.toList.drop (cutN s b k).2).take (k - (cutN s b k).2)) [] [b]
        simp only [bl] at this h1
        rw [this, h1, List.append_nil, List.take_succ_eq_append_getElem hl, hg, hb]
      · intro x hx
        rcases List.mem_append.1 hx with hx | hx
        · exact h2 x hx
        · simp at hx; subst hx
          unfold stB
          rw [Lib.extract_data, List.any_eq_false]
          intro c hc
          simp only [beq_iff_eq]
          exact fun e => h3 (e ▸ hc)
    · rw [cutN_ne hlt hb]
      have e := take_snocL s.data.toList hle hl
      rw [e]
      refine ⟨?_, h2, ?_⟩
      · rw [join_last, h1, List.take_succ_eq_append_getElem hl]
      · intro hm
        rcases List.mem_append.1 hm with hm | hm
        · exact h3 hm
        · simp at hm; exact hb (by rw [← hg]; exact hm.symm)
theorem splitL_sz (s : ByteArray) (b : UInt8) : ∀ x ∈ splitL s b, x.size ≤ s.size := by
  have key : ∀ k, ∀ x ∈ (cutN s b k).1, x.size ≤ s.size := by
    intro k
    induction k with
    | zero => simp [cutN]
    | succ k ih =>
      by_cases hk : k < s.size
      · by_cases hb : s[k] = b
        · rw [cutN_eq hk hb]
          intro x hx
          rcases List.mem_append.1 hx with hx | hx
          · exact ih x hx
          · simp at hx; subst hx; simp; omega
        · rw [cutN_ne hk hb]; exact ih
      · simp only [cutN, hk, dif_neg, not_false_eq_true]; exact ih
  intro x hx
  rcases List.mem_append.1 (show x ∈ (cutN s b s.size).1 ++ [s.extract (cutN s b s.size).2 s.size] from hx) with hx | hx
  · exact key _ x hx
  · simp at hx; subst hx; simp
theorem splitL_bl (s : ByteArray) (b : UInt8) : bl (splitL s b) = splitU b s.data.toList := by
  obtain ⟨h1, h2, h3⟩ := cut_join s b s.size (Nat.le_refl _)
  have hsz : s.data.toList.length = s.size := by simp
  have hl : s.data.toList.take s.size = s.data.toList := by rw [← hsz, List.take_length]
  have e : bl (splitL s b) = bl (cutN s b s.size).1 ++ [(s.data.toList.drop (cutN s b s.size).2).take (s.size - (cutN s b s.size).2)] := by
    simp only [splitL, bl, List.map_append, List.map_cons, List.map_nil]
    rw [Lib.extract_data]
  rw [hl] at h1
  rw [e]
  conv => rhs; rw [← h1]
  have hno : ∀ y ∈ bl (cutN s b s.size).1, b ∉ y := by
    intro y hy
    simp only [bl, List.mem_map] at hy
    obtain ⟨x, hx, rfl⟩ := hy
    have := h2 x hx
    intro hm
    unfold stB at this
    rw [List.any_eq_false] at this
    exact this b hm (by simp)
  generalize (s.data.toList.drop (cutN s b s.size).2).take (s.size - (cutN s b s.size).2) = z at *
  generalize bl (cutN s b s.size).1 = ys at *
  cases ys with
  | nil => simp only [List.nil_append, Lib.join_one]; exact (splitU_none h3).symm
  | cons y ys =>
    rw [List.cons_append]
    refine (splitU_join (hno y (by simp)) ?_).symm
    intro x hx
    rcases List.mem_append.1 hx with hx | hx
    · exact hno x (by simp [hx])
    · simp at hx; subst hx; exact h3
theorem splitB_eq (s : ByteArray) (b : UInt8) : Lib.splitB ⟨#[b]⟩ 0 (Lib.countB s ⟨#[b]⟩) s = splitL s b := by
  apply bl_inj
  rw [splitL_bl]
  have h1 := Lib.splitB_data ⟨#[b]⟩ 0 (Lib.countB s ⟨#[b]⟩) s
  have h2 := splitK_one b s.data.toList.length s.data.toList (Nat.le_refl _)
  exact h1.trans h2
theorem splitL_pos (s : ByteArray) (b : UInt8) : 0 < (splitL s b).length := by simp [splitL]
/-- The package variable bytealg.MaxLen holds some number. -/
def MaxAt (w : World) (g : Nat) : Prop := ∃ m, w.cell? ⟨g, 0, none⟩ = some (.int .i64 m)
theorem MaxAt.below {w w' : World} {g : Nat} (h : MaxAt w g) (hb : Below w.heap.size w w') : MaxAt w' g := by
  obtain ⟨m, hm⟩ := h
  exact ⟨m, (hb.cell (World.block_lt_of_cell? w _ hm)).trans hm⟩
theorem itmCells_snoc (L : List Itm) (r : Itm) : itmCells (L ++ [r]) = itmCells L ++ [.int .i64 r.id, .string r.title, .int .i64 r.mins, .int .i64 r.time] := by simp [itmCells, Itm.cells]
/-- A line that no valid item has. -/
theorem linesA_bad {s : ByteArray} {X : List ByteArray} (hX : bl X = splitU 10 s.data.toList) {k : Nat} (hk : k + 1 < X.length) (h : ∀ r', itmOk r' = true → lineA r' ≠ at_ X k) : IsParseG lineA goodItm s [] false := by
  refine .inr ⟨rfl, rfl, fun ys hg ht => ?_⟩
  obtain ⟨h1, h2, _⟩ := textG_at hX (fun r hr => lineA_no10 ((goodA_ok hg).1 r hr)) ht
  have hky : k < ys.length := by omega
  exact h _ ((goodA_ok hg).1 _ (List.getElem_mem _)) (h2 k hky).symm
/-- The items read off the first lines, f reading one line. -/
def ReadOf (f : ByteArray → Itm) (X : List ByteArray) (L : List Itm) : Prop := ∀ i (h : i < L.length), L[i] = f (at_ X i)
theorem ReadOf.nil (f : ByteArray → Itm) (X : List ByteArray) : ReadOf f X [] := fun i h => by simp at h
theorem ReadOf.snoc {f : ByteArray → Itm} {X : List ByteArray} {L : List Itm} {r : Itm} (h : ReadOf f X L) (hr : r = f (at_ X L.length)) : ReadOf f X (L ++ [r]) := by
  intro i hi
  by_cases h1 : i < L.length
  · rw [List.getElem_append_left h1]; exact h i h1
  · have : i = L.length := by simp at hi; omega
    subst this
    rw [List.getElem_append_right (Nat.le_refl _)]
    simpa using hr
/-- All lines read: the list is the only one that could have the text. -/
theorem linesA_end {s : ByteArray} {X : List ByteArray} (hX : bl X = splitU 10 s.data.toList) {f : ByteArray → Itm} (hf : ∀ r, itmOk r = true → f (lineA r) = r) {L : List Itm} (hL : ReadOf f X L) (hl : L.length + 1 = X.length) :
    (goodItm L = true → textG lineA L = s.data.toList → IsParseG lineA goodItm s L true) ∧ (¬ (goodItm L = true ∧ textG lineA L = s.data.toList) → IsParseG lineA goodItm s [] false) := by
  refine ⟨fun h1 h2 => .inl ⟨rfl, h1, h2⟩, fun h => .inr ⟨rfl, rfl, fun ys hg ht => h ?_⟩⟩
  obtain ⟨h1, h2, _⟩ := textG_at hX (fun r hr => lineA_no10 ((goodA_ok hg).1 r hr)) ht
  have e : L = ys := List.ext_getElem (by omega) fun i a b => by rw [hL i a, h2 i b, hf _ ((goodA_ok hg).1 _ (List.getElem_mem _))]
  rw [e]; exact ⟨hg, ht⟩
theorem linesA_many {s : ByteArray} {X : List ByteArray} (hX : bl X = splitU 10 s.data.toList) (h : 11 < X.length) : IsParseG lineA goodItm s [] false :=
  .inr ⟨rfl, rfl, fun ys hg ht => by have h1 := (textG_at hX (fun r hr => lineA_no10 ((goodA_ok hg).1 r hr)) ht).1; have h2 := (goodA_ok hg).2; omega⟩
theorem linesA_long {s : ByteArray} (h : 600 < s.size) : IsParseG lineA goodItm s [] false :=
  .inr ⟨rfl, rfl, fun ys hg ht => by
    have h1 := textG_len (line := lineA) (m := 50) (fun r hr => lineA_size ((goodA_ok hg).1 r hr))
    have h2 := (goodA_ok hg).2
    have h3 : s.data.toList.length = s.size := by simp
    rw [ht] at h1; omega⟩
theorem parseA_unique {s : ByteArray} {x y : List Itm} {b c : Bool} (h1 : IsParseG lineA goodItm s x b) (h2 : IsParseG lineA goodItm s y c) : x = y ∧ b = c :=
  IsParseG.unique (ok := itmOk) (fun _ h => (goodA_ok h).1) (fun _ h => lineA_no10 h) (fun _ _ ha hb h => lineA_inj ha hb h) h1 h2
theorem parseA_len {s : ByteArray} {x : List Itm} {b : Bool} (h : IsParseG lineA goodItm s x b) : x.length ≤ 10 ∧ ∀ r ∈ x, r.title.size ≤ 10 := by
  rcases h with ⟨_, h, _⟩ | ⟨_, rfl, _⟩
  · exact ⟨(goodA_ok h).2, fun r hr => (word_size (itm_parts ((goodA_ok h).1 r hr)).2.1).2⟩
  · exact ⟨Nat.zero_le _, fun r hr => by simp at hr⟩
/-! ### What the program reads off a line -/
theorem below_drewW (w : World) (n : Nat) : Below w.heap.size w (w.drewN n) := ⟨rfl, rfl, rfl, Nat.le_refl _, fun _ _ => rfl⟩
def sufB (x : ByteArray) (l : List UInt8) : ByteArray := ⟨(Lib.trimSuffix x.data.toList l).toArray⟩
def preB (x : ByteArray) (l : List UInt8) : ByteArray := ⟨(Lib.trimPrefix x.data.toList l).toArray⟩
theorem sufB_size (x : ByteArray) (l : List UInt8) : (sufB x l).size ≤ x.size := by
  have e : x.data.toList.length = x.size := by simp
  show (Lib.trimSuffix x.data.toList l).toArray.size ≤ _
  unfold Lib.trimSuffix
  split
  · simp
  · simp
theorem at_bl {Y : List ByteArray} {ws : List (List UInt8)} (h : bl Y = ws) (k : Nat) : (at_ Y k).data.toList = ws.getD k [] := by
  subst h
  unfold at_ bl
  rw [List.getD_eq_getElem?_getD, List.getD_eq_getElem?_getD, List.getElem?_map]
  cases Y[k]? <;> rfl
theorem agI_eq {x : ByteArray} {Y : List ByteArray} (h : bl Y = wI x) :
    okI x = (decide (Y.length = 4 ∨ Y.length = 7) && (decide (Y.length ≠ 7) || clockOk (at_ Y 6)) && (readR (sufB (at_ Y 0) [46])).2 && (readR (preB (at_ Y 2) [40])).2) ∧
    itmI x = ⟨(readR (sufB (at_ Y 0) [46])).1, at_ Y 1, (readR (preB (at_ Y 2) [40])).1, if Y.length = 7 then clockV (at_ Y 6) else -1⟩ := by
  have hl : (wI x).length = Y.length := by rw [← h]; simp [bl]
  have e0 : idI x = sufB (at_ Y 0) [46] := by unfold idI sufB gI; rw [at_bl h]
  have e2 : mnI x = preB (at_ Y 2) [40] := by unfold mnI preB gI; rw [at_bl h]
  have e1 : (⟨(gI x 1).toArray⟩ : ByteArray) = at_ Y 1 := ba_ext (by rw [at_bl h]; rfl)
  have e6 : ckI x = at_ Y 6 := ba_ext (by rw [at_bl h]; rfl)
  unfold okI itmI
  rw [hl, e0, e1, e2, e6]
  exact ⟨rfl, rfl⟩
theorem take_ext (s : ByteArray) (n : Nat) : (s.extract 0 n).data.toList = s.data.toList.take n := by rw [Lib.extract_data]; simp
theorem drop_ext (s : ByteArray) (n : Nat) : (s.extract n s.size).data.toList = s.data.toList.drop n := by rw [Lib.extract_data]; simp [List.take_of_length_le]
end Go.My
namespace Go.Proofs.YtfpjelpbeicdoaaGreatDoor
open Go.RowKit Go.My
/-- strings.Split at one byte. -/
theorem split_at (s : ByteArray) (b : UInt8) (w : World) (hs : s.size ≤ 1048576) (hm : MaxAt w 0) :
    Calls Tryz.prog 36 #[.string s, .string ⟨#[b]⟩] w fun e w' => e = .returned (.slice (some ⟨w.heap.size, 0, none⟩) (splitL s b).length (splitL s b).length) ∧ w' = w.alloc (.cells (sCells (splitL s b)).toArray 9) := by
  obtain ⟨m, hm⟩ := hm
  have h := Tryz.strings_Split s ⟨#[b]⟩ m w (by omega) hm (Nat.le_refl 1)
  have hl : Lib.countB s ⟨#[b]⟩ + 1 = (splitL s b).length := by
    rw [← splitB_eq, Lib.splitB_all ⟨#[b]⟩ (Nat.le_refl 1) 0 _ s rfl]
  rw [splitB_eq, hl] at h
  exact h
/-- What the program's texts read: a bound of the library's, its error for a bad syntax, its powers of ten. -/
def AgDoor (w : World) : Prop := MaxAt w 0 ∧ SynIs w ∧ Lib.TabIs Tryz.prog w "internal/strconv.uint64pow10" .u64 Lib.pow10Tab
theorem AgDoor.below {w w' : World} (h : AgDoor w) (hb : Below w.heap.size w w') : AgDoor w' := ⟨h.1.below hb, h.2.1.below hb, tab_below h.2.2 hb⟩
/-- What Atoi answers to a short text, in one word. -/
theorem atoi_two_any (s : ByteArray) (w : World) (hs : s.size ≤ 18) (hsyn : SynIs w) :
    Calls Tryz.prog 59 #[.string s] w fun e w' => (∃ v, e = .returned (.tuple #[.int .i64 ((Lib.atoi s.data.toList).getD 0), v]) ∧ ((Lib.atoi s.data.toList).isSome = true ∧ v = .nilIface ∨ (Lib.atoi s.data.toList).isSome = false ∧ ∃ t p, v = .iface t p)) ∧ Below w.heap.size w w' := by
  cases ha : Lib.atoi s.data.toList with
  | none =>
    obtain ⟨tp, p, hvar⟩ := hsyn
    refine (Tryz.strconv_Atoi_err_var s hs ha tp p w hvar).mono fun e w' h => ?_
    obtain ⟨N, h1, _, _, hb⟩ := h
    exact ⟨⟨_, h1, .inr ⟨rfl, _, _, rfl⟩⟩, hb⟩
  | some n =>
    refine (Tryz.strconv_Atoi s n hs ha w).mono fun e w' h => ?_
    obtain ⟨h1, t, rfl⟩ := h
    exact ⟨⟨_, h1, .inl ⟨rfl, rfl⟩⟩, Lib.bytesWorld_below w 5 t⟩
set_option maxHeartbeats 4000000 in
set_option maxRecDepth 100000 in
theorem parseClock_any (s : ByteArray) (w : World) (_ : s.size ≤ 1048576) (hsyn : SynIs w) :
    Calls Tryz.prog 40 #[.string s] w fun e w' => ∃ v, e = .returned (.tuple #[.int .i64 v, .bool (clockOk s)]) ∧ (clockOk s = true → v = clockV s) ∧ Below w.heap.size w w' := by
  by_cases h5 : s.size = 5
  rotate_left
  · have h5I : ¬ (s.size : Int) = 5 := by omega
    have HR : Hid (clockOk s = false) := by show _ = _; unfold clockOk; simp [h5]
    go_enter Tryz.func40, Tryz.ntmps40
    go_wp2
    exact bodyPost_ret (v := .tuple #[.int .i64 0, .bool false]) (by simp [results, Tryz.results40, go_sem]) rfl ⟨0, by rw [HR.out], fun h => absurd (HR.out.symm.trans h) (by decide), Below.refl _ _⟩
  have h5I : (s.size : Int) = 5 := by omega
  have h2l : 2 < s.size := by omega
  have h2I : (2 : Int) < (s.size : Int) := by omega
  have hget : s.data.toList[2]? = some s[2] := by
    rw [List.getElem?_eq_getElem (by simp; omega)]
    simp; rfl
  by_cases h58 : s[2] = 58
  rotate_left
  · have h58n : ¬ s[2].toNat = 58 := fun h => h58 (UInt8.toNat_inj.1 h)
    have HR : Hid (clockOk s = false) := by show _ = _; unfold clockOk; rw [hget]; simp [h58]
    clear hget h58
    go_enter Tryz.func40, Tryz.ntmps40
    go_wp2
    exact bodyPost_ret (v := .tuple #[.int .i64 0, .bool false]) (by simp [results, Tryz.results40, go_sem]) rfl ⟨0, by rw [HR.out], fun h => absurd (HR.out.symm.trans h) (by decide), Below.refl _ _⟩
  have h58n : s[2].toNat = 58 := by rw [h58]; rfl
  have ht : (s.extract 0 2).data.toList = s.data.toList.take 2 := take_ext s 2
  have hd : (s.extract 3 s.size).data.toList = s.data.toList.drop 3 := drop_ext s 3
  have HA : Hid (∀ (y : ByteArray) w1, y.size ≤ 18 → Below w.heap.size w w1 → _) := fun y w1 hy hb => atoi_two_any y w1 hy (hsyn.below hb)
  have HAt := Lib.hid (fun w1 hb => HA.out (s.extract 0 2) w1 (by simp; omega) hb)
  have HAd := Lib.hid (fun w1 hb => HA.out (s.extract 3 s.size) w1 (by simp; omega) hb)
  have HO : Hid (clockOk s = ((Lib.atoi (s.extract 0 2).data.toList).isSome && (Lib.atoi (s.extract 3 s.size).data.toList).isSome && inB (clockV s) 0 1439 && (clockL (clockV s) == s.data.toList))) := by
    show _ = _
    unfold clockOk
    rw [ht, hd, hget, h58]; simp [h5]
  have HV : Hid (clockV s = 60 * (Lib.atoi (s.extract 0 2).data.toList).getD 0 + (Lib.atoi (s.extract 3 s.size).data.toList).getD 0) := by
    show _ = _
    unfold clockV; rw [ht, hd]
  have hb1 : ∀ l : List UInt8, l.length ≤ 2 → -100 < (Lib.atoi l).getD 0 ∧ (Lib.atoi l).getD 0 < 100 := fun l hl => by
    cases ha : Lib.atoi l with
    | none => exact ⟨by decide, by decide⟩
    | some n => exact atoi_small ha hl
  have hA0 := hb1 (s.extract 0 2).data.toList (by rw [ht]; simp; omega)
  have hA1 := hb1 (s.extract 3 s.size).data.toList (by rw [hd]; simp; omega)
  clear hb1 ht hd HA h58 hget hsyn
  generalize Lib.atoi (s.extract 0 2).data.toList = a0 at *
  generalize Lib.atoi (s.extract 3 s.size).data.toList = a1 at *
  generalize a0.getD 0 = h at *
  generalize a1.getD 0 = m at *
  have HV2 := Lib.hid HV.out.symm
  have hw1 : IntKind.i64.wrap (60 * h) = 60 * h := by rw [IntKind.wrap_i64]; omega
  have hw2 : IntKind.i64.wrap (60 * h + m) = 60 * h + m := by rw [IntKind.wrap_i64]; omega
  obtain ⟨t, hte⟩ : ∃ t, t = 60 * h + m := ⟨_, rfl⟩
  rw [← hte] at HV hw2
  rw [HV.out] at HO ⊢
  have Hte := Lib.hid hte
  have hw3 : IntKind.i64.wrap (60 * h + m) = t := by rw [IntKind.wrap_i64]; omega
  clear hte HV HV2 h5 hw2
  go_enter Tryz.func40, Tryz.ntmps40
  go_wp2_with fail
  refine (HAt.out _ (Below.refl _ _)).mono ?_
  rintro e w1 ⟨⟨v0, rfl, hv0⟩, hb1⟩
  go_wp2_with fail
  refine (HAd.out _ hb1).mono ?_
  rintro e w2 ⟨⟨v1, rfl, hv1⟩, hb12⟩
  have hb2 := btr hb1 hb12
  have HI : Hid (∀ w1, Calls Tryz.prog 34 #[.int .i64 t] w1 fun e w' => e = .returned (.bool (inB t 0 1439)) ∧ w1 = w') := fun w1 => isMinute_any t w1
  rcases hv0 with ⟨e0, rfl⟩ | ⟨e0, t0, p0, rfl⟩
  rotate_left
  · have HR : Hid (clockOk s = false) := HO.out.trans (by rw [e0]; rfl)
    clear HO HAt HAd HI
    go_wp2
    exact bodyPost_ret (v := .tuple #[.int .i64 t, .bool false]) (by simp [results, Tryz.results40, go_sem]) rfl ⟨t, by rw [HR.out], fun h => absurd (HR.out.symm.trans h) (by decide), hb2⟩
  rcases hv1 with ⟨e1, rfl⟩ | ⟨e1, t1, p1, rfl⟩
  rotate_left
  · have HR : Hid (clockOk s = false) := HO.out.trans (by rw [e0, e1]; rfl)
    clear HO HAt HAd HI
    go_wp2
    exact bodyPost_ret (v := .tuple #[.int .i64 t, .bool false]) (by simp [results, Tryz.results40, go_sem]) rfl ⟨t, by rw [HR.out], fun h => absurd (HR.out.symm.trans h) (by decide), hb2⟩
  cases hin : inB t 0 1439 with
  | false =>
    have HR : Hid (clockOk s = false) := HO.out.trans (by rw [e0, e1, hin]; rfl)
    rw [hin] at HI
    clear HO HAt HAd
    go_wp2_with (go_at_call 34; refine (HI.out _).mono ?_; rintro e w3 ⟨rfl, rfl⟩)
    exact bodyPost_ret (v := .tuple #[.int .i64 t, .bool false]) (by simp [results, Tryz.results40, go_sem]) rfl ⟨t, by rw [HR.out], fun h => absurd (HR.out.symm.trans h) (by decide), hb2⟩
  | true =>
    have hin2 : 0 ≤ t ∧ t ≤ 1439 := by simpa [inB] using hin
    have HCT := Lib.hid (fun w1 => clockText_any t w1 hin2.1 hin2.2)
    have hcl : clockL t = (clockB t).data.toList := (clockB_list t).symm
    rw [e0, e1, hin, hcl] at HO
    rw [hin] at HI
    generalize clockB t = CB at *
    by_cases hq : CB = s
    · have HR : Hid (clockOk s = true) := HO.out.trans (by rw [hq]; simp)
      have he2 : (CB.toList == s.toList) = true := by rw [hq]; exact beq_self_eq_true _
      have he1 : (CB == s) = true := by rw [beq_toListBytes]; exact he2
      clear HO HAt HAd hcl hin2 hq
      go_wp2_with (first | (go_at_call 34; refine (HI.out _).mono ?_; rintro e w3 ⟨rfl, rfl⟩) | (go_at_call 51; refine (HCT.out _).mono ?_; rintro e w4 ⟨rfl, hb4⟩))
      exact bodyPost_ret (v := .tuple #[.int .i64 t, .bool true]) (by simp [results, Tryz.results40, go_sem]) rfl ⟨t, by rw [HR.out], fun _ => rfl, btr hb2 hb4⟩
    · have HR : Hid (clockOk s = false) := HO.out.trans (by simp only [Bool.true_and]; exact ne_beq hq)
      have he2 := ne_beq2 hq
      have he1 : (CB == s) = false := by rw [beq_toListBytes]; exact he2
      clear HO HAt HAd hcl hin2 hq
      go_wp2_with (first | (go_at_call 34; refine (HI.out _).mono ?_; rintro e w3 ⟨rfl, rfl⟩) | (go_at_call 51; refine (HCT.out _).mono ?_; rintro e w4 ⟨rfl, hb4⟩))
      exact bodyPost_ret (v := .tuple #[.int .i64 t, .bool false]) (by simp [results, Tryz.results40, go_sem]) rfl ⟨t, by rw [HR.out], fun h => absurd (HR.out.symm.trans h) (by decide), btr hb2 hb4⟩
set_option maxHeartbeats 16000000 in
set_option maxRecDepth 100000 in
theorem implParseAgenda_any (s : ByteArray) (w : World) (hs : s.size ≤ 1048576) (hd0 : AgDoor w) :
    Calls Tryz.prog 18 #[.string s] w fun e w' => ∃ (L : List Itm) (b : Bool) (A' : Option Addr) (c' : Nat), e = .returned (.tuple #[.slice A' L.length c', .bool b]) ∧ w'.ownsRow w.heap.size 34 4 (.slice A' L.length c') L.length (itmCells L) ∧ IsParseG lineA goodItm s L b ∧ Below w.heap.size w w' := by
  have HX := Lib.hid (splitL_bl s 10)
  have HSZ : Hid (∀ x ∈ splitL s 10, x.size ≤ s.size) := splitL_sz s 10
  have hXp := splitL_pos s 10
  have hXM : (splitL s 10).length ≤ 1048577 := Nat.le_trans (splitL_len s 10) (by omega)
  have HSPL : Hid (∀ x w1, x.size ≤ 1048576 → Below w.heap.size w w1 → Calls Tryz.prog 36 #[.string x, .string ⟨#[32]⟩] w1 fun e w' => e = .returned (.slice (some ⟨w1.heap.size, 0, none⟩) (splitL x 32).length (splitL x 32).length) ∧ w' = w1.alloc (.cells (sCells (splitL x 32)).toArray 9)) := fun x w1 hx hb => split_at x 32 w1 hx (hd0.below hb).1
  have HP : Hid (∀ y w1, Below w.heap.size w w1 → Calls Tryz.prog 38 #[.string y] w1 fun e w' => e = .returned (.tuple #[.int .i64 (readR y).1, .bool (readR y).2]) ∧ Below w1.heap.size w1 w') := fun y w1 hb => implParse_any y w1 (hd0.below hb).2.1 (hd0.below hb).2.2
  have HPC : Hid (∀ y w1, y.size ≤ 1048576 → Below w.heap.size w w1 → Calls Tryz.prog 40 #[.string y] w1 fun e w' => ∃ v, e = .returned (.tuple #[.int .i64 v, .bool (clockOk y)]) ∧ (clockOk y = true → v = clockV y) ∧ Below w1.heap.size w1 w') := fun y w1 hy hb => parseClock_any y w1 hy (hd0.below hb).2.1
  have HS := Lib.hid (split_at s 10 w hs hd0.1)
  have HT : Hid (∀ A c L w1, L.length ≤ 10 → Rd w1 A (itmCells L) → (∀ r ∈ L, itmOk r = true) → Below w.heap.size w w1 → Calls Tryz.prog 30 #[.slice A L.length c] w1 fun e w' => e = .returned (.string ⟨(textG lineA L).toArray⟩) ∧ Below w1.heap.size w1 w') := fun A c L w1 h1 h2 h3 hb => agendaText_any A c L w1 h1 h2 h3 (hd0.below hb).2.2
  clear hd0
  generalize splitL s 10 = X at *
  go_enter Tryz.func18, Tryz.ntmps18
  go_wp2_with fail
  refine HS.out.mono ?_
  rintro e w1 ⟨rfl, rfl⟩
  have hb1 : Below w.heap.size w (w.alloc (.cells (sCells X).toArray 9)) := bnew (Below.refl _ _) _
  have hcell : ∀ j (hj : j < X.length), (w.alloc (.cells (sCells X).toArray 9)).cell? ⟨w.heap.size, j, none⟩ = some (.string X[j]) := fun j hj => (World.cell?_alloc_at _ _ _ _ rfl).trans (by simp [sCells, hj])
  have HCl := Lib.hid hcell
  clear hcell HS
  generalize w.alloc (.cells (sCells X).toArray 9) = w1 at *
  by_cases h9 : X.length ≤ 11
  rotate_left
  · have h9I : (11 : Int) < (X.length : Int) := by omega
    go_wp2
    exact bodyPost_ret (v := .tuple #[.slice none 0 0, .bool false]) (by simp [results, Tryz.results18, go_sem]) rfl ⟨[], false, none, 0, rfl, own_nil, linesA_many HX.out (by omega), hb1⟩
  have h9I : ¬ (11 : Int) < (X.length : Int) := by omega
  have ho0 := own_lit (e := 34) (size := 4) (B := w.heap.size) (w := w1) #[] 0 hb1.size (by unfold maxLen; omega) rfl
  have hb0 := bnew hb1 (.cells #[] 34)
  have HC0 : Hid (∀ j (hj : j < X.length), (w1.alloc (.cells #[] 34)).cell? ⟨w.heap.size, j, none⟩ = some (.string X[j])) := fun j hj => cell_bw (HCl.out j hj) (bnew (Below.refl _ _) _)
  obtain ⟨n, hn⟩ : ∃ n, X.length = n + 1 := ⟨X.length - 1, by omega⟩
  have hn1 : (X.length : Int) - 1 = (n : Int) := by omega
  have hnw : IntKind.i64.wrap ((X.length : Int) - 1) = (n : Int) := by rw [IntKind.wrap_i64]; omega
  have hnX : (n : Int) < (X.length : Int) := by omega
  have hnX2 : (n : Int) ≤ (X.length : Int) := by omega
  have Hn := Lib.hid hn
  have hn12 : n ≤ 10 := by omega
  clear hn
  have hne0 : some w.heap.size ≠ (Value.slice (some ⟨w1.heap.size, 0, none⟩) 0 0).ownBlock := by have : w.heap.size < w1.heap.size := World.block_lt_of_cell? _ _ (HCl.out 0 hXp); simp [Value.ownBlock]; omega
  go_wp2_with fail
  generalize w1.alloc (.cells #[] 34) = w2 at *
  go_loopw [5, 28] (fun ov i wr => ∃ (k : Nat) (L : List Itm) (A' : Option Addr) (c' : Nat), k ≤ n ∧ Hid (L.length = k) ∧ i = .int .i64 k ∧ ov = .slice A' L.length c' ∧ Hid (ReadOf itmI X L) ∧ Hid (∀ r ∈ L, r.title.size ≤ 1048576) ∧ wr.ownsRow w.heap.size 34 4 (.slice A' L.length c') L.length (itmCells L) ∧ some w.heap.size ≠ (Value.slice A' L.length c').ownBlock ∧ Hid (∀ j (hj : j < X.length), wr.cell? ⟨w.heap.size, j, none⟩ = some (.string X[j])) ∧ Below w.heap.size w wr) (fun _ i _ => n - (intOf i).toNat)
  case atStart => exact ⟨0, [], _, _, by omega, rfl, rfl, rfl, ReadOf.nil _ X, (fun r h => by simp at h), ho0, hne0, HC0, hb0⟩
  case round =>
    clear ho0 hb0 HC0 hne0
    obtain ⟨k, L, A', c', hk, HLk, rfl, rfl, HL, HN, ho, hne, HCr, hb⟩ := hrel
    by_cases hlt : k < n
    · have hkI : (k : Int) < (n : Int) := by omega
      have hkX : k < X.length := by have := Hn.out; omega
      have cx := HCr.out k hkX
      have hxs : X[k].size ≤ 1048576 := Nat.le_trans (HSZ.out _ (List.getElem_mem _)) hs
      have hat := at_eq hkX
      rw [← hat] at cx hxs
      clear hat
      generalize hxe : at_ X k = x at *
      have hsx : (sufB x [41]).size ≤ 1048576 := Nat.le_trans (sufB_size x [41]) hxs
      have HTS : Hid (∀ w1, Calls Tryz.prog 37 #[.string x, .string ⟨#[41]⟩] w1 fun e w' => e = .returned (.string (sufB x [41])) ∧ w1 = w') := fun w1 => (Tryz.strings_TrimSuffix x ⟨#[41]⟩ w1 (by omega)).mono fun e w' h => ⟨h.1, h.2.symm⟩
      have HSP := Lib.hid (fun w1 (hb : Below w.heap.size w w1) => HSPL.out (sufB x [41]) w1 hsx hb)
      have hIE := agI_eq (x := x) (splitL_bl (sufB x [41]) 32)
      have HOKX := Lib.hid hIE.1
      have HME := Lib.hid hIE.2
      have HBAD : Hid (okI x = false → ∀ r', itmOk r' = true → lineA r' ≠ x) := fun h r' h1 h2 => by
        have := (itmI_line h1).2
        rw [h2, h] at this; cases this
      have HYS : Hid (∀ y ∈ splitL (sufB x [41]) 32, y.size ≤ (sufB x [41]).size) := splitL_sz _ 32
      clear hIE
      generalize hre : itmI x = r at *
      generalize okI x = okx at *
      generalize splitL (sufB x [41]) 32 = Y at *
      generalize sufB x [41] = sx at *
      have hat6 : ∀ j, (at_ Y j).size ≤ 1048576 := fun j => by
        by_cases h1 : j < Y.length
        · rw [at_eq h1]; exact Nat.le_trans (HYS.out _ (List.getElem_mem _)) hsx
        · unfold at_; rw [List.getD_eq_getElem?_getD, List.getElem?_eq_none (by omega)]; exact Nat.zero_le _
      have hc0 := hat6 0
      have hns := hat6 1
      have hc6 := hat6 6
      clear hat6 HYS
      go_wp2_with fail
      refine (HTS.out _).mono ?_
      rintro e w3 ⟨rfl, rfl⟩
      go_wp2_with fail
      refine (HSP.out _ hb).mono ?_
      rintro e w3 ⟨rfl, rfl⟩
      have hbr3 : Below wr.heap.size wr (wr.alloc (.cells (sCells Y).toArray 9)) := bnew (Below.refl _ _) _
      have hcell : ∀ j (hj : j < Y.length), (wr.alloc (.cells (sCells Y).toArray 9)).cell? ⟨wr.heap.size, j, none⟩ = some (.string Y[j]) := fun j hj => (World.cell?_alloc_at _ _ _ _ rfl).trans (by simp [sCells, hj])
      have HY3 := Lib.hid hcell
      clear hcell HTS HSP cx
      generalize wr.alloc (.cells (sCells Y).toArray 9) = w3 at *
      obtain ⟨gy, hgy⟩ : ∃ gy, gy = wr.heap.size := ⟨_, rfl⟩
      rw [← hgy] at HY3
      rw [← hgy]
      clear hgy
      by_cases hY4 : Y.length = 4
      · have hY7n : ¬ Y.length = 7 := by omega
        have hnI : (Y.length : Int) = 4 := by omega
        have hoI : ¬ (Y.length : Int) = 7 := by omega
        have d0 : w3.cell? ⟨gy, 0, none⟩ = some (.string (at_ Y 0)) := by rw [at_eq (by omega)]; exact HY3.out 0 _
        have d1 : w3.cell? ⟨gy, 1, none⟩ = some (.string (at_ Y 1)) := by rw [at_eq (by omega)]; exact HY3.out 1 _
        have d2 : w3.cell? ⟨gy, 2, none⟩ = some (.string (at_ Y 2)) := by rw [at_eq (by omega)]; exact HY3.out 2 _
        have HNl := Lib.hid hY4
        clear hY4
        generalize at_ Y 0 = c0 at *
        generalize at_ Y 1 = t1 at *
        generalize at_ Y 2 = c2 at *
        generalize at_ Y 6 = c6 at *
        have HT0 : Hid (∀ w1, Calls Tryz.prog 37 #[.string c0, .string ⟨#[46]⟩] w1 fun e w' => e = .returned (.string (sufB c0 [46])) ∧ w1 = w') := fun w1 => (Tryz.strings_TrimSuffix c0 ⟨#[46]⟩ w1 (by omega)).mono fun e w' h => ⟨h.1, h.2.symm⟩
        have HT2 : Hid (∀ w1, Calls Tryz.prog 39 #[.string c2, .string ⟨#[40]⟩] w1 fun e w' => e = .returned (.string (preB c2 [40])) ∧ w1 = w') := fun w1 => (Tryz.strings_TrimPrefix c2 ⟨#[40]⟩ w1).mono fun e w' h => ⟨h.1, h.2.symm⟩
        have HP0 := Lib.hid (fun w1 (hb : Below w.heap.size w w1) => HP.out (sufB c0 [46]) w1 hb)
        have HP2 := Lib.hid (fun w1 (hb : Below w.heap.size w w1) => HP.out (preB c2 [40]) w1 hb)
        generalize sufB c0 [46] = s0 at *
        generalize preB c2 [40] = s2 at *
        generalize readR s0 = R0 at *
        generalize readR s2 = R2 at *
        obtain ⟨i0, b0⟩ := R0
        obtain ⟨i2, b2⟩ := R2
        simp only at HOKX HME HP0 HP2
        go_wp2_with fail
        refine (HT0.out _).mono ?_
        rintro e w4 ⟨rfl, rfl⟩
        go_wp2_with fail
        refine (HP0.out _ (btr hb hbr3)).mono ?_
        rintro e w4 ⟨rfl, hb34⟩
        have hbr4 := btr hbr3 hb34
        replace d1 := cell_bw d1 hb34
        replace d2 := cell_bw d2 hb34
        clear HT0 HP0 d0
        go_wp2_with fail
        refine (HT2.out _).mono ?_
        rintro e w5 ⟨rfl, rfl⟩
        go_wp2_with fail
        refine (HP2.out _ (btr hb hbr4)).mono ?_
        rintro e w5 ⟨rfl, hb45⟩
        have hbr5 := btr hbr4 hb45
        replace d1 := cell_bw d1 hb45
        replace d2 := cell_bw d2 hb45
        clear HT2 HP2 d2
        have B6 : Blk (w5.alloc (.cells #[.int .i64 i0, .string t1, .int .i64 i2, .int .i64 (-1)] 34)) w5.heap.size 34 [.int .i64 i0, .string t1, .int .i64 i2, .int .i64 (-1)] := blk_new w5 #[.int .i64 i0, .string t1, .int .i64 i2, .int .i64 (-1)] 34
        have hb56 : Below w5.heap.size w5 (w5.alloc (.cells #[.int .i64 i0, .string t1, .int .i64 i2, .int .i64 (-1)] 34)) := bnew (Below.refl _ _) _
        have hbr6 := btr hbr5 hb56
        have hszr : wr.heap.size ≤ w5.heap.size := hbr5.size
        generalize hW6 : w5.alloc (.cells #[.int .i64 i0, .string t1, .int .i64 i2, .int .i64 (-1)] 34) = w6 at *
        have HR9 : Hid (r = ⟨i0, t1, i2, -1⟩) := HME.out.trans (by rw [if_neg (by have := HNl.out; omega)])
        cases b0 with
        | false =>
          have HF : Hid (IsParseG lineA goodItm s [] false) := linesA_bad HX.out (k := k) (by have := Hn.out; omega) (by rw [hxe]; exact HBAD.out (HOKX.out.trans (by simp)))
          clear HOKX HBAD HME HCr HL
          go_wp2
          exact bodyPost_ret (v := .tuple #[.slice none 0 0, .bool false]) (by simp [results, Tryz.results18, go_sem]) rfl ⟨[], false, none, 0, rfl, own_nil, HF.out, (btr hb hbr6)⟩
        | true =>
          cases b2 with
          | false =>
            have HF : Hid (IsParseG lineA goodItm s [] false) := linesA_bad HX.out (k := k) (by have := Hn.out; omega) (by rw [hxe]; exact HBAD.out (HOKX.out.trans (by simp)))
            clear HOKX HBAD HME HCr HL
            go_wp2
            exact bodyPost_ret (v := .tuple #[.slice none 0 0, .bool false]) (by simp [results, Tryz.results18, go_sem]) rfl ⟨[], false, none, 0, rfl, own_nil, HF.out, (btr hb hbr6)⟩
          | true =>
            subst hW6
            generalize hW6 : w5.alloc (.cells #[.int .i64 i0, .string t1, .int .i64 i2, .int .i64 (-1)] 34) = w6 at *
            have hbW0 := btr hb hbr6
            have HC7 : Hid (∀ q (hq : q < X.length), (w6.alloc (.cells #[.int .i64 i0, .string t1, .int .i64 i2, .int .i64 (-1)] 34)).cell? ⟨w.heap.size, q, none⟩ = some (.string X[q])) := fun q hq => cell_bw (HCr.out q hq) (btr hbr6 (bnew (Below.refl _ _) _))
            have hoW := own_below ho (btr hbr6 (bnew (Below.refl w6.heap.size w6) (.cells #[.int .i64 i0, .string t1, .int .i64 i2, .int .i64 (-1)] 34)))
            have y0 := B6.cell (j := 0) rfl
            have y1 := B6.cell (j := 1) rfl
            have y2 := B6.cell (j := 2) rfl
            have y3 := B6.cell (j := 3) rfl
            have HL2 : Hid (ReadOf itmI X (L ++ [⟨i0, t1, i2, (-1)⟩])) := HL.out.snoc (by rw [HLk.out, hxe]; exact (hre.trans HR9.out).symm)
            have HN2 : Hid (∀ y ∈ L ++ [(⟨i0, t1, i2, (-1)⟩ : Itm)], y.title.size ≤ 1048576) := fun y hy => by
              rcases List.mem_append.1 hy with hy | hy
              · exact HN.out y hy
              · simp only [List.mem_singleton] at hy; subst hy; exact hns
            have hbW := bnew hbW0 (.cells #[.int .i64 i0, .string t1, .int .i64 i2, .int .i64 (-1)] 34)
            have hrd : Rd (w6.alloc (.cells #[.int .i64 i0, .string t1, .int .i64 i2, .int .i64 (-1)] 34)) (some ⟨w6.heap.size, 0, none⟩) [.int .i64 i0, .string t1, .int .i64 i2, .int .i64 (-1)] := Rd.made
            have hszB : w.heap.size ≤ (w6.alloc (.cells #[.int .i64 i0, .string t1, .int .i64 i2, .int .i64 (-1)] 34)).heap.size := hbW.size
            have hL8 : L.length ≤ 1048577 := by have := HLk.out; omega
            clear HOKX HME HBAD HL HN
            go_wp2_with (at_builtin; refine wpl_app rfl (.tmp 85) (.tmp 87) 24 rfl el_Itm (v := .slice A' L.length c') rfl hoW rfl rfl hrd (by simp [Value.oneCell']) (by unfold maxLen; omega) (by omega) hszB ?_; intro A5 c5 w19 ho5 hg5 hd5)
            have hne5 : some w.heap.size ≠ (Value.slice A5 (L.length + 1) c5).ownBlock := fun e => by
              rcases hd5 with h | h
              · exact hne (e.trans h)
              · have h9 := Option.some.inj (e.trans h)
                have h1 : w.heap.size < (w6.alloc (.cells #[.int .i64 i0, .string t1, .int .i64 i2, .int .i64 (-1)] 34)).heap.size := World.block_lt_of_cell? _ _ (HC7.out 0 hXp)
                rw [← h9] at h1; exact absurd h1 (Nat.lt_irrefl _)
            have hb9 : Below w.heap.size w w19 := hbW.grown hg5 hbW.size (fun k hk => (hoW.lt k hk).1)
            have HC5 : Hid (∀ q (hq : q < X.length), w19.cell? ⟨w.heap.size, q, none⟩ = some (.string X[q])) := fun q hq => hg5.cell (HC7.out q hq) hne
            go_roundw
            case rel => exact ⟨k + 1, L ++ [⟨i0, t1, i2, (-1)⟩], A5, c5, by omega, (by have := HLk.out; show (L ++ [_]).length = k + 1; simp; omega), by go_num, by simp, HL2, HN2, (by rw [itmCells_snoc]; simpa using ho5), by simpa using hne5, HC5, hb9⟩
            case measure => simp [intOf]; omega
      · by_cases hY7 : Y.length = 7
        · have hnI : (Y.length : Int) = 7 := by omega
          have hoI : ¬ (Y.length : Int) = 4 := by omega
          have d0 : w3.cell? ⟨gy, 0, none⟩ = some (.string (at_ Y 0)) := by rw [at_eq (by omega)]; exact HY3.out 0 _
          have d1 : w3.cell? ⟨gy, 1, none⟩ = some (.string (at_ Y 1)) := by rw [at_eq (by omega)]; exact HY3.out 1 _
          have d2 : w3.cell? ⟨gy, 2, none⟩ = some (.string (at_ Y 2)) := by rw [at_eq (by omega)]; exact HY3.out 2 _
          have d6 : w3.cell? ⟨gy, 6, none⟩ = some (.string (at_ Y 6)) := by rw [at_eq (by omega)]; exact HY3.out 6 _
          have HNl := Lib.hid hY7
          clear hY7
          generalize at_ Y 0 = c0 at *
          generalize at_ Y 1 = t1 at *
          generalize at_ Y 2 = c2 at *
          generalize at_ Y 6 = c6 at *
          have HT0 : Hid (∀ w1, Calls Tryz.prog 37 #[.string c0, .string ⟨#[46]⟩] w1 fun e w' => e = .returned (.string (sufB c0 [46])) ∧ w1 = w') := fun w1 => (Tryz.strings_TrimSuffix c0 ⟨#[46]⟩ w1 (by omega)).mono fun e w' h => ⟨h.1, h.2.symm⟩
          have HT2 : Hid (∀ w1, Calls Tryz.prog 39 #[.string c2, .string ⟨#[40]⟩] w1 fun e w' => e = .returned (.string (preB c2 [40])) ∧ w1 = w') := fun w1 => (Tryz.strings_TrimPrefix c2 ⟨#[40]⟩ w1).mono fun e w' h => ⟨h.1, h.2.symm⟩
          have HP0 := Lib.hid (fun w1 (hb : Below w.heap.size w w1) => HP.out (sufB c0 [46]) w1 hb)
          have HP2 := Lib.hid (fun w1 (hb : Below w.heap.size w w1) => HP.out (preB c2 [40]) w1 hb)
          generalize sufB c0 [46] = s0 at *
          generalize preB c2 [40] = s2 at *
          generalize readR s0 = R0 at *
          generalize readR s2 = R2 at *
          obtain ⟨i0, b0⟩ := R0
          obtain ⟨i2, b2⟩ := R2
          simp only at HOKX HME HP0 HP2
          go_wp2_with fail
          refine (HT0.out _).mono ?_
          rintro e w4 ⟨rfl, rfl⟩
          go_wp2_with fail
          refine (HP0.out _ (btr hb hbr3)).mono ?_
          rintro e w4 ⟨rfl, hb34⟩
          have hbr4 := btr hbr3 hb34
          replace d1 := cell_bw d1 hb34
          replace d2 := cell_bw d2 hb34
          replace d6 := cell_bw d6 hb34
          clear HT0 HP0 d0
          go_wp2_with fail
          refine (HT2.out _).mono ?_
          rintro e w5 ⟨rfl, rfl⟩
          go_wp2_with fail
          refine (HP2.out _ (btr hb hbr4)).mono ?_
          rintro e w5 ⟨rfl, hb45⟩
          have hbr5 := btr hbr4 hb45
          replace d1 := cell_bw d1 hb45
          replace d2 := cell_bw d2 hb45
          replace d6 := cell_bw d6 hb45
          clear HT2 HP2 d2
          have B6 : Blk (w5.alloc (.cells #[.int .i64 i0, .string t1, .int .i64 i2, .int .i64 (-1)] 34)) w5.heap.size 34 [.int .i64 i0, .string t1, .int .i64 i2, .int .i64 (-1)] := blk_new w5 #[.int .i64 i0, .string t1, .int .i64 i2, .int .i64 (-1)] 34
          have hb56 : Below w5.heap.size w5 (w5.alloc (.cells #[.int .i64 i0, .string t1, .int .i64 i2, .int .i64 (-1)] 34)) := bnew (Below.refl _ _) _
          have hbr6 := btr hbr5 hb56
          have hszr : wr.heap.size ≤ w5.heap.size := hbr5.size
          have d6' := cell_bw d6 hb56
          have HCK := Lib.hid (fun w1 (hb : Below w.heap.size w w1) => HPC.out c6 w1 hc6 hb)
          generalize clockOk c6 = ck at *
          generalize clockV c6 = cv at *
          go_wp2_with fail
          generalize w5.alloc (.cells #[.int .i64 i0, .string t1, .int .i64 i2, .int .i64 (-1)] 34) = w6 at *
          refine (HCK.out _ (btr hb hbr6)).mono ?_
          rintro e w7 ⟨v, rfl, hv, hb67⟩
          have hbr7 := btr hbr6 hb67
          have B7 := B6.below hb67
          cases ck with
          | false =>
            have HF : Hid (IsParseG lineA goodItm s [] false) := linesA_bad HX.out (k := k) (by have := Hn.out; omega) (by rw [hxe]; exact HBAD.out (HOKX.out.trans (by have h7 := HNl.out; simp [h7])))
            clear HOKX HBAD HME HCr HL
            go_wp2
            exact bodyPost_ret (v := .tuple #[.slice none 0 0, .bool false]) (by simp [results, Tryz.results18, go_sem]) rfl ⟨[], false, none, 0, rfl, own_nil, HF.out, (btr hb hbr7)⟩
          | true =>
            have hve := hv rfl
            subst hve
            have HR9 : Hid (r = ⟨i0, t1, i2, v⟩) := HME.out.trans (by rw [if_pos HNl.out])
            have x3 := B7.cell (j := 3) rfl
            have z3 := B7.frozen 3
            have B8 : Blk (w7.setCell ⟨w5.heap.size, 3, none⟩ (.int .i64 v)) w5.heap.size 34 [.int .i64 i0, .string t1, .int .i64 i2, .int .i64 v] := by simpa using B7.setv 3 (.int .i64 v)
            have hbr8 : Below wr.heap.size wr (w7.setCell ⟨w5.heap.size, 3, none⟩ (.int .i64 v)) := hbr7.setCell hszr _
            clear hv
            cases b0 with
            | false =>
              have HF : Hid (IsParseG lineA goodItm s [] false) := linesA_bad HX.out (k := k) (by have := Hn.out; omega) (by rw [hxe]; exact HBAD.out (HOKX.out.trans (by simp)))
              clear HOKX HBAD HME HCr HL
              go_wp2
              exact bodyPost_ret (v := .tuple #[.slice none 0 0, .bool false]) (by simp [results, Tryz.results18, go_sem]) rfl ⟨[], false, none, 0, rfl, own_nil, HF.out, (btr hb hbr8)⟩
            | true =>
              cases b2 with
              | false =>
                have HF : Hid (IsParseG lineA goodItm s [] false) := linesA_bad HX.out (k := k) (by have := Hn.out; omega) (by rw [hxe]; exact HBAD.out (HOKX.out.trans (by simp)))
                clear HOKX HBAD HME HCr HL
                go_wp2
                exact bodyPost_ret (v := .tuple #[.slice none 0 0, .bool false]) (by simp [results, Tryz.results18, go_sem]) rfl ⟨[], false, none, 0, rfl, own_nil, HF.out, (btr hb hbr8)⟩
              | true =>
                have y0 := B8.cell (j := 0) rfl
                have hbW0 := btr hb hbr8
                have HC7 : Hid (∀ q (hq : q < X.length), ((w7.setCell ⟨w5.heap.size, 3, none⟩ (.int .i64 v)).alloc (.cells #[.int .i64 i0, .string t1, .int .i64 i2, .int .i64 v] 34)).cell? ⟨w.heap.size, q, none⟩ = some (.string X[q])) := fun q hq => cell_bw (HCr.out q hq) (btr hbr8 (bnew (Below.refl _ _) _))
                have hoW := own_below ho (btr hbr8 (bnew (Below.refl (w7.setCell ⟨w5.heap.size, 3, none⟩ (.int .i64 v)).heap.size (w7.setCell ⟨w5.heap.size, 3, none⟩ (.int .i64 v))) (.cells #[.int .i64 i0, .string t1, .int .i64 i2, .int .i64 v] 34)))
                have y0 := B8.cell (j := 0) rfl
                have y1 := B8.cell (j := 1) rfl
                have y2 := B8.cell (j := 2) rfl
                have y3 := B8.cell (j := 3) rfl
                have HL2 : Hid (ReadOf itmI X (L ++ [⟨i0, t1, i2, v⟩])) := HL.out.snoc (by rw [HLk.out, hxe]; exact (hre.trans HR9.out).symm)
                have HN2 : Hid (∀ y ∈ L ++ [(⟨i0, t1, i2, v⟩ : Itm)], y.title.size ≤ 1048576) := fun y hy => by
                  rcases List.mem_append.1 hy with hy | hy
                  · exact HN.out y hy
                  · simp only [List.mem_singleton] at hy; subst hy; exact hns
                have hbW := bnew hbW0 (.cells #[.int .i64 i0, .string t1, .int .i64 i2, .int .i64 v] 34)
                have hrd : Rd ((w7.setCell ⟨w5.heap.size, 3, none⟩ (.int .i64 v)).alloc (.cells #[.int .i64 i0, .string t1, .int .i64 i2, .int .i64 v] 34)) (some ⟨(w7.setCell ⟨w5.heap.size, 3, none⟩ (.int .i64 v)).heap.size, 0, none⟩) [.int .i64 i0, .string t1, .int .i64 i2, .int .i64 v] := Rd.made
                have hsz7 : (w7.setCell ⟨w5.heap.size, 3, none⟩ (.int .i64 v)).heap.size = w7.heap.size := by simp
                rw [hsz7] at hrd
                have hszB : w.heap.size ≤ ((w7.setCell ⟨w5.heap.size, 3, none⟩ (.int .i64 v)).alloc (.cells #[.int .i64 i0, .string t1, .int .i64 i2, .int .i64 v] 34)).heap.size := hbW.size
                have hL8 : L.length ≤ 1048577 := by have := HLk.out; omega
                clear HOKX HME HBAD HL HN
                go_wp2_with (at_builtin; refine wpl_app rfl (.tmp 85) (.tmp 87) 24 rfl el_Itm (v := .slice A' L.length c') rfl hoW rfl rfl hrd (by simp [Value.oneCell']) (by unfold maxLen; omega) (by omega) hszB ?_; intro A5 c5 w19 ho5 hg5 hd5)
                have hne5 : some w.heap.size ≠ (Value.slice A5 (L.length + 1) c5).ownBlock := fun e => by
                  rcases hd5 with h | h
                  · exact hne (e.trans h)
                  · have h9 := Option.some.inj (e.trans h)
                    have h1 : w.heap.size < ((w7.setCell ⟨w5.heap.size, 3, none⟩ (.int .i64 v)).alloc (.cells #[.int .i64 i0, .string t1, .int .i64 i2, .int .i64 v] 34)).heap.size := World.block_lt_of_cell? _ _ (HC7.out 0 hXp)
                    rw [← h9] at h1; exact absurd h1 (Nat.lt_irrefl _)
                have hb9 : Below w.heap.size w w19 := hbW.grown hg5 hbW.size (fun k hk => (hoW.lt k hk).1)
                have HC5 : Hid (∀ q (hq : q < X.length), w19.cell? ⟨w.heap.size, q, none⟩ = some (.string X[q])) := fun q hq => hg5.cell (HC7.out q hq) hne
                go_roundw
                case rel => exact ⟨k + 1, L ++ [⟨i0, t1, i2, v⟩], A5, c5, by omega, (by have := HLk.out; show (L ++ [_]).length = k + 1; simp; omega), by go_num, by simp, HL2, HN2, (by rw [itmCells_snoc]; simpa using ho5), by simpa using hne5, HC5, hb9⟩
                case measure => simp [intOf]; omega
        · have h4I : ¬ (Y.length : Int) = 4 := by omega
          have h7I : ¬ (Y.length : Int) = 7 := by omega
          have h4B : ((Y.length : Int) != 4) = true := by rw [bne_iff_ne]; exact h4I
          have h7B : ((Y.length : Int) != 7) = true := by rw [bne_iff_ne]; exact h7I
          have HF : Hid (IsParseG lineA goodItm s [] false) := linesA_bad HX.out (k := k) (by have := Hn.out; omega) (by rw [hxe]; exact HBAD.out (HOKX.out.trans (by simp [hY4, hY7])))
          clear HOKX HBAD HME HCr HL
          go_wp2
          exact bodyPost_ret (v := .tuple #[.slice none 0 0, .bool false]) (by simp [results, Tryz.results18, go_sem]) rfl ⟨[], false, none, 0, rfl, own_nil, HF.out, (btr hb hbr3)⟩
    · have hkn : k = n := by omega
      have hkI : ¬ (k : Int) < (n : Int) := by omega
      have HE := Lib.hid (linesA_end HX.out (fun r h => (itmI_line h).1) HL.out (by have := Hn.out; have := HLk.out; omega))
      have hLb : L.length ≤ 1048577 := by have := HLk.out; omega
      have hle : L.length ≤ c' := by obtain ⟨_, _, e, h⟩ := own_form ho; cases e; exact h
      have Hv : Hid (∀ w1, Below wr.heap.size wr w1 → Calls Tryz.prog 17 #[.slice A' L.length c'] w1 fun e w' => e = .returned (.bool (goodItm L)) ∧ Below w1.heap.size w1 w') := fun w1 hb => isAgenda_any A' c' L w1 (by unfold maxLen; omega) hle ((own_rd ho).below hb) (fun y hy => by have := HN.out y hy; unfold maxLen; omega)
      have HTx : Hid (goodItm L = true → ∀ w1, Below wr.heap.size wr w1 → Calls Tryz.prog 30 #[.slice A' L.length c'] w1 fun e w' => e = .returned (.string ⟨(textG lineA L).toArray⟩) ∧ Below w1.heap.size w1 w') := fun hg w1 hb1 => HT.out A' c' L w1 (goodA_ok hg).2 ((own_rd ho).below hb1) (goodA_ok hg).1 (btr hb hb1)
      clear HL HCr HT hle HN
      cases hg : goodItm L with
      | false =>
        have HF : Hid (IsParseG lineA goodItm s [] false) := HE.out.2 (fun h => by rw [hg] at h; cases h.1)
        rw [hg] at Hv
        clear HE HTx
        go_wp2_with fail
        refine (Hv.out _ (Below.refl _ _)).mono ?_
        rintro e w6 ⟨rfl, hb6⟩
        have hbE := btr hb hb6
        go_wp2
        exact bodyPost_ret (v := .tuple #[.slice none 0 0, .bool false]) (by simp [results, Tryz.results18, go_sem]) rfl ⟨[], false, none, 0, rfl, own_nil, HF.out, hbE⟩
      | true =>
        have HT2 := Lib.hid (HTx.out hg)
        have hxt : (⟨(textG lineA L).toArray⟩ : ByteArray) = s ↔ textG lineA L = s.data.toList := ⟨fun h => by rw [← h], fun h => of_list h.symm ▸ rfl⟩
        rw [hg] at Hv
        clear HTx
        generalize (⟨(textG lineA L).toArray⟩ : ByteArray) = D at *
        by_cases hD : D = s
        · have HF : Hid (IsParseG lineA goodItm s L true) := HE.out.1 hg (hxt.1 hD)
          subst hD
          clear HE hxt
          go_wp2_with fail
          refine (Hv.out _ (Below.refl _ _)).mono ?_
          rintro e w6 ⟨rfl, hb6⟩
          go_wp2_with fail
          refine (HT2.out _ hb6).mono ?_
          rintro e w7 ⟨rfl, hb7⟩
          have hb67 := btr hb6 hb7
          have ho7 := own_below ho hb67
          have hb70 := btr hb hb67
          go_wp2
          exact bodyPost_ret (v := .tuple #[.slice A' L.length c', .bool true]) (by simp [results, Tryz.results18, go_sem]) rfl (by first | exact ⟨L, true, A', c', rfl, ho7, HF.out, hb70⟩ | exact ⟨L, .inr ⟨A', c', rfl, ho7, HF.out, hb70⟩⟩)
        · have HF : Hid (IsParseG lineA goodItm s [] false) := HE.out.2 (fun h => hD (hxt.2 h.2))
          have hl2 : (D.toList == s.toList) = false := ne_beq2 hD
          have hl3 : (D == s) = false := by rw [beq_toListBytes]; exact hl2
          clear HE hxt
          go_wp2_with fail
          refine (Hv.out _ (Below.refl _ _)).mono ?_
          rintro e w6 ⟨rfl, hb6⟩
          go_wp2_with fail
          refine (HT2.out _ hb6).mono ?_
          rintro e w7 ⟨rfl, hb7⟩
          have hbE := btr hb (btr hb6 hb7)
          go_wp2
          exact bodyPost_ret (v := .tuple #[.slice none 0 0, .bool false]) (by simp [results, Tryz.results18, go_sem]) rfl ⟨[], false, none, 0, rfl, own_nil, HF.out, hbE⟩
end Go.Proofs.YtfpjelpbeicdoaaGreatDoor
