/-
  ParseAgenda: the reference's own reading. Conditions: none.
-/
import Derived.Test.YtfpjelpbeicdoaaGreatDoorAgPars
namespace Go.My
open Go.RowKit
def unsplit (b : UInt8) : List (List UInt8) → List UInt8
  | [] => []
  | [x] => x
  | x :: y :: r => x ++ b :: unsplit b (y :: r)
theorem unsplit_splitU (b : UInt8) : ∀ l, unsplit b (splitU b l) = l
  | [] => rfl
  | c :: l => by
    have ih := unsplit_splitU b l
    have hne := splitU_ne b l
    unfold splitU
    split
    · rename_i h
      subst h
      cases hs : splitU c l with
      | nil => exact absurd hs hne
      | cons y r => rw [hs] at ih; simp [unsplit, ih]
    · cases hs : splitU b l with
      | nil => exact absurd hs hne
      | cons y r =>
        rw [hs] at ih
        cases r with
        | nil => simpa [unsplit] using ih
        | cons z r => simpa [unsplit] using ih
theorem splitU_inj {b : UInt8} {l m : List UInt8} (h : splitU b l = splitU b m) : l = m := by
  rw [← unsplit_splitU b l, h, unsplit_splitU]
theorem goodA_one (x : Itm) : goodItm [x] = itmOk x := by simp [goodItm, goodPre, itmFits]
def itm0 : Itm := ⟨0, ⟨#[]⟩, 0, 0⟩
/-- The answer to one line. -/
def IsPA (s : ByteArray) (r : Itm) (b : Bool) : Prop := (b = true ∧ itmOk r = true ∧ lineA r = s) ∨ (b = false ∧ r = itm0 ∧ ∀ r', itmOk r' = true → lineA r' ≠ s)
def LinesA (X : List ByteArray) (L : List Itm) : Prop := ∀ i (h : i < L.length), itmOk L[i] = true ∧ lineA L[i] = at_ X i
theorem LinesA.nil (X : List ByteArray) : LinesA X [] := fun i h => by simp at h
theorem LinesA.snoc {X : List ByteArray} {L : List Itm} {r : Itm} (h : LinesA X L) (hr : itmOk r = true) (hl : lineA r = at_ X L.length) : LinesA X (L ++ [r]) := by
  intro i hi
  by_cases h1 : i < L.length
  · rw [List.getElem_append_left h1]; exact h i h1
  · have : i = L.length := by simp at hi; omega
    subst this
    rw [List.getElem_append_right (Nat.le_refl _)]
    simp only [Nat.sub_self, List.getElem_singleton]
    exact ⟨hr, hl⟩
theorem LinesA.ok {X : List ByteArray} {L : List Itm} (h : LinesA X L) : ∀ r ∈ L, itmOk r = true := by
  intro r hr
  obtain ⟨i, hi, rfl⟩ := List.getElem_of_mem hr
  exact (h i hi).1
theorem LinesA.text {s : ByteArray} {X : List ByteArray} {L : List Itm} (hX : bl X = splitU 10 s.data.toList) (h : LinesA X L) (hl : L.length + 1 = X.length) (he : at_ X L.length = ⟨#[]⟩) : textG lineA L = s.data.toList := by
  apply splitU_inj (b := 10)
  rw [textG_split (fun r hr => lineA_no10 (h.ok r hr)), ← hX]
  refine List.ext_getElem (by simp [bl]; omega) fun i h1 h2 => ?_
  have hi : i < X.length := by simpa [bl] using h2
  have e : (bl X)[i] = (at_ X i).data.toList := by rw [at_eq hi]; simp [bl]
  rw [e]
  by_cases hlt : i < L.length
  · rw [List.getElem_append_left (by simpa using hlt), List.getElem_map, (h i hlt).2]
  · have : i = L.length := by omega
    subst this
    rw [List.getElem_append_right (by simp), he]; simp
theorem linesS_end {s : ByteArray} {X : List ByteArray} (hX : bl X = splitU 10 s.data.toList) {L : List Itm} (hL : LinesA X L) (hl : L.length + 1 = X.length) (he : at_ X L.length = ⟨#[]⟩) :
    (goodItm L = true → IsParseG lineA goodItm s L true) ∧ (goodItm L = false → IsParseG lineA goodItm s [] false) := by
  refine ⟨fun h1 => .inl ⟨rfl, h1, hL.text hX hl he⟩, fun h => .inr ⟨rfl, rfl, fun ys hg ht => ?_⟩⟩
  obtain ⟨h1, h2, _⟩ := textG_at hX (fun r hr => lineA_no10 ((goodA_ok hg).1 r hr)) ht
  have e : L = ys := List.ext_getElem (by omega) fun i a b => lineA_inj (hL i a).1 ((goodA_ok hg).1 _ (List.getElem_mem _)) ((hL i a).2.trans (h2 i b))
  rw [e, hg] at h; cases h
theorem linesS_last {s : ByteArray} {X : List ByteArray} (hX : bl X = splitU 10 s.data.toList) {n : Nat} (hn : X.length = n + 1) (h : at_ X n ≠ ⟨#[]⟩) : IsParseG lineA goodItm s [] false :=
  .inr ⟨rfl, rfl, fun ys hg ht => by
    obtain ⟨h1, _, h3⟩ := textG_at hX (fun r hr => lineA_no10 ((goodA_ok hg).1 r hr)) ht
    have : ys.length = n := by omega
    rw [this] at h3; exact h h3⟩
theorem digS_eq {s : ByteArray} (h0 : 0 < s.size) (h1 : 1 < s.size) (h : s.size = 2) : digS s.data.toList = if s[0].toNat < 48 ∨ 57 < s[0].toNat ∨ s[1].toNat < 48 ∨ 57 < s[1].toNat then (99 : Int) else 10 * ((s[0].toNat : Int) - 48) + (s[1].toNat : Int) - 48 := by
  obtain ⟨⟨l⟩⟩ := s
  match l, h with
  | [a, b], _ => rfl
theorem digS_bound (l : List UInt8) : 0 ≤ digS l ∧ digS l ≤ 99 := by
  unfold digS
  split
  · split
    · exact ⟨by decide, by decide⟩
    · omega
  · exact ⟨by decide, by decide⟩
end Go.My
namespace Go.Proofs.YtfpjelpbeicdoaaGreatDoor
open Go.RowKit Go.My
set_option maxRecDepth 100000 in
theorem l5Digits_any (s : ByteArray) (w : World) (h : s.size = 2) : Calls Tryz.prog 62 #[.string s] w fun e w' => e = .returned (.int .i64 (digS s.data.toList)) ∧ Below w.heap.size w w' := by
  have hl0 : 0 < s.size := by omega
  have hl1 : 1 < s.size := by omega
  have hl0I : (0 : Int) < (s.size : Int) := by omega
  have hl1I : (1 : Int) < (s.size : Int) := by omega
  have HD := Lib.hid (digS_eq hl0 hl1 h)
  have ha : s[0].toNat < 256 := s[0].toNat_lt
  have hb : s[1].toNat < 256 := s[1].toNat_lt
  clear h
  by_cases h1 : s[0].toNat < 48
  · have HR : Hid (digS s.data.toList = 99) := HD.out.trans (if_pos (.inl h1))
    rw [HR.out]
    go_enter Tryz.func62, Tryz.ntmps62
    go_wp2
    go_ret
    exact ⟨rfl, Below.refl _ _⟩
  · by_cases h2 : 57 < s[0].toNat
    · have HR : Hid (digS s.data.toList = 99) := HD.out.trans (if_pos (.inr (.inl h2)))
      rw [HR.out]
      go_enter Tryz.func62, Tryz.ntmps62
      go_wp2
      go_ret
      exact ⟨rfl, Below.refl _ _⟩
    · by_cases h3 : s[1].toNat < 48
      · have HR : Hid (digS s.data.toList = 99) := HD.out.trans (if_pos (.inr (.inr (.inl h3))))
        rw [HR.out]
        go_enter Tryz.func62, Tryz.ntmps62
        go_wp2
        go_ret
        exact ⟨rfl, Below.refl _ _⟩
      · by_cases h4 : 57 < s[1].toNat
        · have HR : Hid (digS s.data.toList = 99) := HD.out.trans (if_pos (.inr (.inr (.inr h4))))
          rw [HR.out]
          go_enter Tryz.func62, Tryz.ntmps62
          go_wp2
          go_ret
          exact ⟨rfl, Below.refl _ _⟩
        · have HR : Hid (digS s.data.toList = 10 * ((s[0].toNat : Int) - 48) + (s[1].toNat : Int) - 48) := HD.out.trans (if_neg (by omega))
          rw [HR.out]
          have hw1 : IntKind.i64.wrap ((s[0].toNat : Int) - 48) = (s[0].toNat : Int) - 48 := by rw [IntKind.wrap_i64]; omega
          have hw2 : IntKind.i64.wrap (10 * ((s[0].toNat : Int) - 48)) = 10 * ((s[0].toNat : Int) - 48) := by rw [IntKind.wrap_i64]; omega
          have hw3 : IntKind.i64.wrap (10 * ((s[0].toNat : Int) - 48) + (s[1].toNat : Int)) = 10 * ((s[0].toNat : Int) - 48) + (s[1].toNat : Int) := by rw [IntKind.wrap_i64]; omega
          have hw4 : IntKind.i64.wrap (10 * ((s[0].toNat : Int) - 48) + (s[1].toNat : Int) - 48) = 10 * ((s[0].toNat : Int) - 48) + (s[1].toNat : Int) - 48 := by rw [IntKind.wrap_i64]; omega
          have hw5 : IntKind.i64.wrap (s[0].toNat : Int) = (s[0].toNat : Int) := by rw [IntKind.wrap_i64]; omega
          have hw6 : IntKind.i64.wrap (s[1].toNat : Int) = (s[1].toNat : Int) := by rw [IntKind.wrap_i64]; omega
          clear HR HD
          go_enter Tryz.func62, Tryz.ntmps62
          go_wp2_with fail
          refine wp_region_after (by kernel_rfl) (by kernel_rfl) ?_
          repeat (go_big_quiet_step (fail))
          refine wpQuiet_nil ?_
          intro nq
          have hbx := nq.bel
          generalize nq.val = w1 at *
          go_wp2
          go_ret
          exact ⟨rfl, hbx⟩
set_option maxHeartbeats 16000000 in
set_option maxRecDepth 100000 in
theorem l5Parse_any (s : ByteArray) (w : World) (hs : s.size ≤ 1048576) :
    Calls Tryz.prog 44 #[.string s] w fun e w' => ∃ (r : Itm) (b : Bool), e = .returned (.tuple #[.agg #[.int .i64 r.id, .string r.title, .int .i64 r.mins, .int .i64 r.time], .bool b]) ∧ IsPA s r b ∧ Below w.heap.size w w' := by
  have HS : Hid (∀ w1, Calls Tryz.prog 43 #[.string s, .int .u8 32] w1 fun e w' => ∃ A' c', e = .returned (.slice A' (splitL s 32).length c') ∧ w'.ownsRow w1.heap.size 9 1 (.slice A' (splitL s 32).length c') (splitL s 32).length (sCells (splitL s 32)) ∧ Below w1.heap.size w1 w') := fun w1 => l1Split_any s 32 w1 hs
  have HBL := Lib.hid (splitL_bl s 32)
  have HNO : Hid (∀ r', itmOk r' = true → lineA r' = s → ((splitL s 32).length = 4 ∨ (splitL s 32).length = 7) ∧ 2 ≤ (at_ (splitL s 32) 0).size ∧ 2 ≤ (at_ (splitL s 32) 2).size ∧ (readR (cutLast (at_ (splitL s 32) 0))).2 = true ∧ (readR (cutFirst (at_ (splitL s 32) 2))).2 = true ∧ itmS (splitL s 32) = r') := fun r' h1 h2 => itmS_line h1 (HBL.out.trans (by rw [h2]))
  have HSZ : Hid (∀ x ∈ splitL s 32, x.size ≤ s.size) := splitL_sz s 32
  clear HBL
  have hXp := splitL_pos s 32
  generalize splitL s 32 = X at *
  have hat6 : ∀ j, (at_ X j).size ≤ 1048576 := fun j => by
    by_cases h1 : j < X.length
    · rw [at_eq h1]; exact Nat.le_trans (HSZ.out _ (List.getElem_mem _)) hs
    · unfold at_; rw [List.getD_eq_getElem?_getD, List.getElem?_eq_none (by omega)]; exact Nat.zero_le _
  go_enter Tryz.func44, Tryz.ntmps44
  go_wp2_with fail
  have hb00 : Below w.heap.size w (w.alloc (.cells #[.int .i64 0, .string ⟨#[]⟩, .int .i64 0, .int .i64 0] 34)) := bnew (Below.refl _ _) _
  have hb0 : Below w.heap.size w ((w.alloc (.cells #[.int .i64 0, .string ⟨#[]⟩, .int .i64 0, .int .i64 0] 34)).alloc (.cells #[.int .i64 0, .string ⟨#[]⟩, .int .i64 0, .int .i64 0] 34)) := bnew hb00 _
  have B0 : Blk ((w.alloc (.cells #[.int .i64 0, .string ⟨#[]⟩, .int .i64 0, .int .i64 0] 34)).alloc (.cells #[.int .i64 0, .string ⟨#[]⟩, .int .i64 0, .int .i64 0] 34)) w.heap.size 34 [.int .i64 0, .string ⟨#[]⟩, .int .i64 0, .int .i64 0] := (blk_new w #[.int .i64 0, .string ⟨#[]⟩, .int .i64 0, .int .i64 0] 34).below (bnew (Below.refl _ _) _)
  have BN : Blk ((w.alloc (.cells #[.int .i64 0, .string ⟨#[]⟩, .int .i64 0, .int .i64 0] 34)).alloc (.cells #[.int .i64 0, .string ⟨#[]⟩, .int .i64 0, .int .i64 0] 34)) (w.heap.size + 1) 34 [.int .i64 0, .string ⟨#[]⟩, .int .i64 0, .int .i64 0] := by
    have := blk_new (w.alloc (.cells #[.int .i64 0, .string ⟨#[]⟩, .int .i64 0, .int .i64 0] 34)) #[.int .i64 0, .string ⟨#[]⟩, .int .i64 0, .int .i64 0] 34
    simpa using this
  generalize (w.alloc (.cells #[.int .i64 0, .string ⟨#[]⟩, .int .i64 0, .int .i64 0] 34)).alloc (.cells #[.int .i64 0, .string ⟨#[]⟩, .int .i64 0, .int .i64 0] 34) = W0 at *
  refine (HS.out W0).mono ?_
  rintro e w1 ⟨A1, cc, rfl, ho1, hb01⟩
  have hb1 := btr hb0 hb01
  replace B0 := B0.below hb01
  replace BN := BN.below hb01
  obtain ⟨gx, rfl, hlogx, HCgx⟩ : ∃ gx, A1 = some ⟨gx, 0, none⟩ ∧ W0.heap.size ≤ gx ∧ Hid (∀ j (hj : j < X.length), w1.cell? ⟨gx, j, none⟩ = some (.string X[j])) := by
    obtain ⟨b, off, rfl, _⟩ := Rd.strs (own_rd ho1) hXp
    rcases ho1.2 with ⟨h2, _⟩ | ⟨g, cap, cur, hv, hg, hh, hc, _⟩
    · simp at h2
    · simp only [Value.slice.injEq, Option.some.injEq, Addr.mk.injEq, and_true, true_and] at hv
      obtain ⟨⟨rfl, rfl⟩, rfl⟩ := hv
      refine ⟨b, rfl, hg, fun j hj => ?_⟩
      obtain ⟨b', off', e', c0⟩ := Rd.strs (own_rd ho1) hj
      simp only [Option.some.injEq, Addr.mk.injEq, and_true] at e'
      obtain ⟨rfl, rfl⟩ := e'
      simpa using c0
  clear ho1 HS hb00 hb0 hb01
  by_cases hX4 : X.length = 4
  · have hX7n : ¬ X.length = 7 := by omega
    have hnI : (X.length : Int) = 4 := by omega
    have hoI : ¬ (X.length : Int) = 7 := by omega
    have c0 : w1.cell? ⟨gx, 0, none⟩ = some (.string (at_ X 0)) := by rw [at_eq (by omega)]; exact HCgx.out 0 _
    have c1 : w1.cell? ⟨gx, 1, none⟩ = some (.string (at_ X 1)) := by rw [at_eq (by omega)]; exact HCgx.out 1 _
    have c2 : w1.cell? ⟨gx, 2, none⟩ = some (.string (at_ X 2)) := by rw [at_eq (by omega)]; exact HCgx.out 2 _
    have HNl := Lib.hid hX4
    clear hX4
    by_cases h0 : 2 ≤ (at_ X 0).size
    rotate_left
    · have h0I : ((at_ X 0).size : Int) < 2 := by omega
      have f0 := B0.cell (j := 0) rfl
      have z0 := B0.frozen 0
      have n0_ := BN.cell (j := 0) rfl
      have f1 := B0.cell (j := 1) rfl
      have z1 := B0.frozen 1
      have n1_ := BN.cell (j := 1) rfl
      have f2 := B0.cell (j := 2) rfl
      have z2 := B0.frozen 2
      have n2_ := BN.cell (j := 2) rfl
      have f3 := B0.cell (j := 3) rfl
      have z3 := B0.frozen 3
      have n3_ := BN.cell (j := 3) rfl
      go_wp2
      exact bodyPost_ret (v := .tuple #[.agg #[.int .i64 0, .string ⟨#[]⟩, .int .i64 0, .int .i64 0], .bool false]) (by simp [results, Tryz.results44, go_sem, f0, f1, f2, f3]) rfl (by first | exact ⟨itm0, false, rfl, .inr ⟨rfl, rfl, fun r' q1 q2 => h0 (HNO.out r' q1 q2).2.1⟩, ((((hb1).setCell (Nat.le_refl _) _).setCell (Nat.le_refl _) _).setCell (Nat.le_refl _) _).setCell (Nat.le_refl _) _⟩ | exact ⟨itm0, .inl ⟨rfl, .inr ⟨rfl, rfl, fun r' q1 q2 => h0 (HNO.out r' q1 q2).2.1⟩, ((((hb1).setCell (Nat.le_refl _) _).setCell (Nat.le_refl _) _).setCell (Nat.le_refl _) _).setCell (Nat.le_refl _) _⟩⟩)
    have h0I : ¬ ((at_ X 0).size : Int) < 2 := by omega
    by_cases h2 : 2 ≤ (at_ X 2).size
    rotate_left
    · have h2I : ((at_ X 2).size : Int) < 2 := by omega
      have f0 := B0.cell (j := 0) rfl
      have z0 := B0.frozen 0
      have n0_ := BN.cell (j := 0) rfl
      have f1 := B0.cell (j := 1) rfl
      have z1 := B0.frozen 1
      have n1_ := BN.cell (j := 1) rfl
      have f2 := B0.cell (j := 2) rfl
      have z2 := B0.frozen 2
      have n2_ := BN.cell (j := 2) rfl
      have f3 := B0.cell (j := 3) rfl
      have z3 := B0.frozen 3
      have n3_ := BN.cell (j := 3) rfl
      go_wp2
      exact bodyPost_ret (v := .tuple #[.agg #[.int .i64 0, .string ⟨#[]⟩, .int .i64 0, .int .i64 0], .bool false]) (by simp [results, Tryz.results44, go_sem, f0, f1, f2, f3]) rfl (by first | exact ⟨itm0, false, rfl, .inr ⟨rfl, rfl, fun r' q1 q2 => h2 (HNO.out r' q1 q2).2.2.1⟩, ((((hb1).setCell (Nat.le_refl _) _).setCell (Nat.le_refl _) _).setCell (Nat.le_refl _) _).setCell (Nat.le_refl _) _⟩ | exact ⟨itm0, .inl ⟨rfl, .inr ⟨rfl, rfl, fun r' q1 q2 => h2 (HNO.out r' q1 q2).2.2.1⟩, ((((hb1).setCell (Nat.le_refl _) _).setCell (Nat.le_refl _) _).setCell (Nat.le_refl _) _).setCell (Nat.le_refl _) _⟩⟩)
    have h2I : ¬ ((at_ X 2).size : Int) < 2 := by omega
    obtain ⟨m0, hm0⟩ : ∃ m0, (at_ X 0).size = m0 + 1 := ⟨(at_ X 0).size - 1, by omega⟩
    have e0 : cutLast (at_ X 0) = (at_ X 0).extract 0 m0 := by unfold cutLast; rw [hm0]; simp
    have e2 : cutFirst (at_ X 2) = (at_ X 2).extract 1 (at_ X 2).size := rfl
    have HIS : Hid (itmS X = ⟨(readR (cutLast (at_ X 0))).1, at_ X 1, (readR (cutFirst (at_ X 2))).1, timeS X⟩) := rfl
    have HTS : Hid (timeS X = if X.length = 7 ∧ (at_ X 6).size = 6 then 60 * digS ((at_ X 6).data.toList.take 2) + digS (((at_ X 6).data.toList.drop 3).take 2) else -1) := rfl
    rw [e0, e2] at HIS HNO
    have hx0 : ((at_ X 0).extract 0 m0).size ≤ 1048576 := by have := hat6 0; simp; omega
    have hx2 : ((at_ X 2).extract 1 (at_ X 2).size).size ≤ 1048576 := by have := hat6 2; simp; omega
    have hns := hat6 1
    have hm1 : ((at_ X 0).size : Int) - 1 = (m0 : Int) := by omega
    have hmb : m0 ≤ 1048576 := by have := hat6 0; omega
    have hmw7 : IntKind.i64.wrap (m0 : Int) = (m0 : Int) := by rw [IntKind.wrap_i64]; omega
    have hmw : IntKind.i64.wrap (((at_ X 0).size : Int) - 1) = (m0 : Int) := by rw [IntKind.wrap_i64]; omega
    have hml : (m0 : Int) ≤ ((at_ X 0).size : Int) := by omega
    have h2J : (1 : Int) ≤ ((at_ X 2).size : Int) := by omega
    have HR0 := Lib.hid (fun w1 => l1Read_any ((at_ X 0).extract 0 m0) w1 hx0)
    have HR2 := Lib.hid (fun w1 => l1Read_any ((at_ X 2).extract 1 (at_ X 2).size) w1 hx2)
    clear hm0 e0 e2 hx0 hx2 h0 h2
    generalize readR ((at_ X 0).extract 0 m0) = R0 at *
    generalize readR ((at_ X 2).extract 1 (at_ X 2).size) = R2 at *
    obtain ⟨i0, b0⟩ := R0
    obtain ⟨i2, b2⟩ := R2
    simp only at HIS HNO HR0 HR2
    generalize at_ X 0 = q0s at *
    generalize at_ X 1 = q1s at *
    generalize at_ X 2 = q2s at *
    generalize at_ X 6 = q6s at *
    go_wp2_with fail
    have g0 := cell_after c0
    refine wp_region_after (by kernel_rfl) (by kernel_rfl) ?_
    repeat (go_big_quiet_step ((go_at_call 61; exact Calls.after (HR0.out _))))
    refine wpQuiet_nil ?_
    intro nq
    have hb2' := btr hb1 nq.bel
    replace B0 := B0.below nq.bel
    replace BN := BN.below nq.bel
    replace c1 := cell_bw c1 nq.bel
    replace c2 := cell_bw c2 nq.bel
    generalize nq.val = w2 at *
    clear nq g0 c0 HR0
    go_wp2_with fail
    refine (HR2.out _).mono ?_
    rintro e w3 ⟨rfl, hb23⟩
    have hb3 := btr hb2' hb23
    replace B0 := B0.below hb23
    replace BN := BN.below hb23
    replace c1 := cell_bw c1 hb23
    replace c2 := cell_bw c2 hb23
    clear HR2 c2 hb2' hb23 hb1
    have hlt0 := B0.lt
    have hltN := BN.lt
    have hb34 : Below w3.heap.size w3 (w3.alloc (.cells #[.int .i64 i0, .string q1s, .int .i64 i2, .int .i64 (-1)] 34)) := bnew (Below.refl _ _) _
    have B9 : Blk (w3.alloc (.cells #[.int .i64 i0, .string q1s, .int .i64 i2, .int .i64 (-1)] 34)) w3.heap.size 34 [.int .i64 i0, .string q1s, .int .i64 i2, .int .i64 (-1)] := blk_new w3 #[.int .i64 i0, .string q1s, .int .i64 i2, .int .i64 (-1)] 34
    have hb4 := btr hb3 hb34
    have B0o := B0
    replace B0 := B0.below hb34
    replace BN := BN.below hb34
    have HRS : Hid (itmS X = ⟨i0, q1s, i2, -1⟩) := HIS.out.trans (by rw [HTS.out, if_neg (fun h => by have := HNl.out; omega)])
    clear HIS HTS
    generalize hW4 : w3.alloc (.cells #[.int .i64 i0, .string q1s, .int .i64 i2, .int .i64 (-1)] 34) = w4 at *
    subst hW4
    cases b0 with
    | false =>
      have o0 := B0o.cell (j := 0) rfl
      have p0 := B0o.frozen 0
      have n0_ := BN.cell (j := 0) rfl
      have o1 := B0o.cell (j := 1) rfl
      have p1 := B0o.frozen 1
      have n1_ := BN.cell (j := 1) rfl
      have o2 := B0o.cell (j := 2) rfl
      have p2 := B0o.frozen 2
      have n2_ := BN.cell (j := 2) rfl
      have o3 := B0o.cell (j := 3) rfl
      have p3 := B0o.frozen 3
      have n3_ := BN.cell (j := 3) rfl
      have RF : Blk (((((w3.setCell ⟨w.heap.size, 0, none⟩ (.int .i64 0)).setCell ⟨w.heap.size, 1, none⟩ (.string ⟨#[]⟩)).setCell ⟨w.heap.size, 2, none⟩ (.int .i64 0)).setCell ⟨w.heap.size, 3, none⟩ (.int .i64 0)).alloc (.cells #[.int .i64 i0, .string q1s, .int .i64 i2, .int .i64 (-1)] 34)) w.heap.size 34 [.int .i64 0, .string ⟨#[]⟩, .int .i64 0, .int .i64 0] := Blk.below (show Blk ((((w3.setCell ⟨w.heap.size, 0, none⟩ (.int .i64 0)).setCell ⟨w.heap.size, 1, none⟩ (.string ⟨#[]⟩)).setCell ⟨w.heap.size, 2, none⟩ (.int .i64 0)).setCell ⟨w.heap.size, 3, none⟩ (.int .i64 0)) w.heap.size 34 [.int .i64 0, .string ⟨#[]⟩, .int .i64 0, .int .i64 0] from ((((B0o.setv 0 (.int .i64 0)).setv 1 (.string ⟨#[]⟩)).setv 2 (.int .i64 0)).setv 3 (.int .i64 0))) (bnew (Below.refl _ _) _)
      have f0 := RF.cell (j := 0) rfl
      have f1 := RF.cell (j := 1) rfl
      have f2 := RF.cell (j := 2) rfl
      have f3 := RF.cell (j := 3) rfl
      go_wp2
      exact bodyPost_ret (v := .tuple #[.agg #[.int .i64 0, .string ⟨#[]⟩, .int .i64 0, .int .i64 0], .bool false]) (by simp [results, Tryz.results44, go_sem, f0, f1, f2, f3]) rfl (by first | exact ⟨itm0, false, rfl, .inr ⟨rfl, rfl, fun r' q1 q2 => absurd (HNO.out r' q1 q2).2.2.2.1 (by decide)⟩, bnew (((((hb3).setCell (Nat.le_refl _) _).setCell (Nat.le_refl _) _).setCell (Nat.le_refl _) _).setCell (Nat.le_refl _) _) (.cells #[.int .i64 i0, .string q1s, .int .i64 i2, .int .i64 (-1)] 34)⟩ | exact ⟨itm0, .inl ⟨rfl, .inr ⟨rfl, rfl, fun r' q1 q2 => absurd (HNO.out r' q1 q2).2.2.2.1 (by decide)⟩, bnew (((((hb3).setCell (Nat.le_refl _) _).setCell (Nat.le_refl _) _).setCell (Nat.le_refl _) _).setCell (Nat.le_refl _) _) (.cells #[.int .i64 i0, .string q1s, .int .i64 i2, .int .i64 (-1)] 34)⟩⟩)
    | true =>
      cases b2 with
      | false =>
        have o0 := B0o.cell (j := 0) rfl
        have p0 := B0o.frozen 0
        have n0_ := BN.cell (j := 0) rfl
        have o1 := B0o.cell (j := 1) rfl
        have p1 := B0o.frozen 1
        have n1_ := BN.cell (j := 1) rfl
        have o2 := B0o.cell (j := 2) rfl
        have p2 := B0o.frozen 2
        have n2_ := BN.cell (j := 2) rfl
        have o3 := B0o.cell (j := 3) rfl
        have p3 := B0o.frozen 3
        have n3_ := BN.cell (j := 3) rfl
        have RF : Blk (((((w3.setCell ⟨w.heap.size, 0, none⟩ (.int .i64 0)).setCell ⟨w.heap.size, 1, none⟩ (.string ⟨#[]⟩)).setCell ⟨w.heap.size, 2, none⟩ (.int .i64 0)).setCell ⟨w.heap.size, 3, none⟩ (.int .i64 0)).alloc (.cells #[.int .i64 i0, .string q1s, .int .i64 i2, .int .i64 (-1)] 34)) w.heap.size 34 [.int .i64 0, .string ⟨#[]⟩, .int .i64 0, .int .i64 0] := Blk.below (show Blk ((((w3.setCell ⟨w.heap.size, 0, none⟩ (.int .i64 0)).setCell ⟨w.heap.size, 1, none⟩ (.string ⟨#[]⟩)).setCell ⟨w.heap.size, 2, none⟩ (.int .i64 0)).setCell ⟨w.heap.size, 3, none⟩ (.int .i64 0)) w.heap.size 34 [.int .i64 0, .string ⟨#[]⟩, .int .i64 0, .int .i64 0] from ((((B0o.setv 0 (.int .i64 0)).setv 1 (.string ⟨#[]⟩)).setv 2 (.int .i64 0)).setv 3 (.int .i64 0))) (bnew (Below.refl _ _) _)
        have f0 := RF.cell (j := 0) rfl
        have f1 := RF.cell (j := 1) rfl
        have f2 := RF.cell (j := 2) rfl
        have f3 := RF.cell (j := 3) rfl
        go_wp2
        exact bodyPost_ret (v := .tuple #[.agg #[.int .i64 0, .string ⟨#[]⟩, .int .i64 0, .int .i64 0], .bool false]) (by simp [results, Tryz.results44, go_sem, f0, f1, f2, f3]) rfl (by first | exact ⟨itm0, false, rfl, .inr ⟨rfl, rfl, fun r' q1 q2 => absurd (HNO.out r' q1 q2).2.2.2.2.1 (by decide)⟩, bnew (((((hb3).setCell (Nat.le_refl _) _).setCell (Nat.le_refl _) _).setCell (Nat.le_refl _) _).setCell (Nat.le_refl _) _) (.cells #[.int .i64 i0, .string q1s, .int .i64 i2, .int .i64 (-1)] 34)⟩ | exact ⟨itm0, .inl ⟨rfl, .inr ⟨rfl, rfl, fun r' q1 q2 => absurd (HNO.out r' q1 q2).2.2.2.2.1 (by decide)⟩, bnew (((((hb3).setCell (Nat.le_refl _) _).setCell (Nat.le_refl _) _).setCell (Nat.le_refl _) _).setCell (Nat.le_refl _) _) (.cells #[.int .i64 i0, .string q1s, .int .i64 i2, .int .i64 (-1)] 34)⟩⟩)
      | true =>
        obtain ⟨R, hRe⟩ : ∃ R : Itm, R = ⟨i0, q1s, i2, (-1)⟩ := ⟨_, rfl⟩
        have HRX : Hid (itmS X = R) := HRS.out.trans hRe.symm
        have HE : Hid (Ending.returned (.tuple #[.agg #[.int .i64 i0, .string q1s, .int .i64 i2, .int .i64 (-1)], .bool true]) = .returned (.tuple #[.agg #[.int .i64 R.id, .string R.title, .int .i64 R.mins, .int .i64 R.time], .bool true])) := by rw [hRe]; rfl
        have HRC : Hid (itmCells [R] = [.int .i64 i0, .string q1s, .int .i64 i2, .int .i64 (-1)]) := by rw [hRe]; rfl
        have hRt : R.title.size ≤ maxLen := by rw [hRe]; unfold maxLen; show q1s.size ≤ _; omega
        have Hl : Hid (itmOk R = true → ∀ w1, Calls Tryz.prog 54 #[.agg #[.int .i64 i0, .string q1s, .int .i64 i2, .int .i64 (-1)]] w1 fun e w' => e = .returned (.string (lineA R)) ∧ Below w1.heap.size w1 w') := fun h w1 => by
          have := l5Line_any R w1 h
          rw [hRe] at this ⊢
          exact this
        clear hRe HRS
        have y0 := B9.cell (j := 0) rfl
        have y1 := B9.cell (j := 1) rfl
        have y2 := B9.cell (j := 2) rfl
        have y3 := B9.cell (j := 3) rfl
        have hbL := bnew hb4 (.cells #[.int .i64 i0, .string q1s, .int .i64 i2, .int .i64 (-1)] 34)
        have hbL1 := bnew (Below.refl (w3.alloc (.cells #[.int .i64 i0, .string q1s, .int .i64 i2, .int .i64 (-1)] 34)).heap.size (w3.alloc (.cells #[.int .i64 i0, .string q1s, .int .i64 i2, .int .i64 (-1)] 34))) (.cells #[.int .i64 i0, .string q1s, .int .i64 i2, .int .i64 (-1)] 34)
        have hrdL : Rd ((w3.alloc (.cells #[.int .i64 i0, .string q1s, .int .i64 i2, .int .i64 (-1)] 34)).alloc (.cells #[.int .i64 i0, .string q1s, .int .i64 i2, .int .i64 (-1)] 34)) (some ⟨w3.heap.size + 1, 0, none⟩) (itmCells [R]) := by rw [HRC.out]; have h0 : Rd ((w3.alloc (.cells #[.int .i64 i0, .string q1s, .int .i64 i2, .int .i64 (-1)] 34)).alloc (.cells #[.int .i64 i0, .string q1s, .int .i64 i2, .int .i64 (-1)] 34)) (some ⟨(w3.alloc (.cells #[.int .i64 i0, .string q1s, .int .i64 i2, .int .i64 (-1)] 34)).heap.size, 0, none⟩) [.int .i64 i0, .string q1s, .int .i64 i2, .int .i64 (-1)] := Rd.made; simpa using h0
        have Hv : Hid (Calls Tryz.prog 31 #[.slice (some ⟨w3.heap.size + 1, 0, none⟩) 1 1] ((w3.alloc (.cells #[.int .i64 i0, .string q1s, .int .i64 i2, .int .i64 (-1)] 34)).alloc (.cells #[.int .i64 i0, .string q1s, .int .i64 i2, .int .i64 (-1)] 34)) fun e w' => e = .returned (.bool (itmOk R)) ∧ Below ((w3.alloc (.cells #[.int .i64 i0, .string q1s, .int .i64 i2, .int .i64 (-1)] 34)).alloc (.cells #[.int .i64 i0, .string q1s, .int .i64 i2, .int .i64 (-1)] 34)).heap.size ((w3.alloc (.cells #[.int .i64 i0, .string q1s, .int .i64 i2, .int .i64 (-1)] 34)).alloc (.cells #[.int .i64 i0, .string q1s, .int .i64 i2, .int .i64 (-1)] 34)) w') := by
          have := l5Good_any (some ⟨w3.heap.size + 1, 0, none⟩) 1 [R] ((w3.alloc (.cells #[.int .i64 i0, .string q1s, .int .i64 i2, .int .i64 (-1)] 34)).alloc (.cells #[.int .i64 i0, .string q1s, .int .i64 i2, .int .i64 (-1)] 34)) (by unfold maxLen; simp) (Nat.le_refl _) hrdL (fun y hy => by simp only [List.mem_singleton] at hy; subst hy; exact hRt)
          rw [goodA_one] at this
          exact this
        replace B9 := B9.below hbL1
        replace B0 := B0.below hbL1
        replace BN := BN.below hbL1
        clear hrdL HRC hRt
        go_wp2_with fail
        refine Hv.out.mono ?_
        rintro e w20 ⟨rfl, hb20⟩
        have hb21 := btr hbL hb20
        replace B9 := B9.below hb20
        replace B0 := B0.below hb20
        replace BN := BN.below hb20
        clear Hv hbL hbL1 y0 y1 y2 y3
        have y0 := B9.cell (j := 0) rfl
        have y1 := B9.cell (j := 1) rfl
        have y2 := B9.cell (j := 2) rfl
        have y3 := B9.cell (j := 3) rfl
        cases hok : itmOk R with
        | false =>
          have f0 := B0.cell (j := 0) rfl
          have z0 := B0.frozen 0
          have n0_ := BN.cell (j := 0) rfl
          have f1 := B0.cell (j := 1) rfl
          have z1 := B0.frozen 1
          have n1_ := BN.cell (j := 1) rfl
          have f2 := B0.cell (j := 2) rfl
          have z2 := B0.frozen 2
          have n2_ := BN.cell (j := 2) rfl
          have f3 := B0.cell (j := 3) rfl
          have z3 := B0.frozen 3
          have n3_ := BN.cell (j := 3) rfl
          go_wp2
          exact bodyPost_ret (v := .tuple #[.agg #[.int .i64 0, .string ⟨#[]⟩, .int .i64 0, .int .i64 0], .bool false]) (by simp [results, Tryz.results44, go_sem, f0, f1, f2, f3]) rfl (by first | exact ⟨itm0, false, rfl, .inr ⟨rfl, rfl, fun r' q1 q2 => by have h1 := (HNO.out r' q1 q2).2.2.2.2.2; rw [HRX.out] at h1; rw [h1, q1] at hok; cases hok⟩, ((((hb21).setCell (Nat.le_refl _) _).setCell (Nat.le_refl _) _).setCell (Nat.le_refl _) _).setCell (Nat.le_refl _) _⟩ | exact ⟨itm0, .inl ⟨rfl, .inr ⟨rfl, rfl, fun r' q1 q2 => by have h1 := (HNO.out r' q1 q2).2.2.2.2.2; rw [HRX.out] at h1; rw [h1, q1] at hok; cases hok⟩, ((((hb21).setCell (Nat.le_refl _) _).setCell (Nat.le_refl _) _).setCell (Nat.le_refl _) _).setCell (Nat.le_refl _) _⟩⟩)
        | true =>
          have Hl2 := Lib.hid (Hl.out hok)
          clear Hl
          go_wp2_with fail
          refine (Hl2.out _).mono ?_
          rintro e w22 ⟨rfl, hb22⟩
          have hbE := btr hb21 hb22
          replace B9 := B9.below hb22
          replace B0 := B0.below hb22
          replace BN := BN.below hb22
          clear y0 y1 y2 y3
          have y0 := B9.cell (j := 0) rfl
          have y1 := B9.cell (j := 1) rfl
          have y2 := B9.cell (j := 2) rfl
          have y3 := B9.cell (j := 3) rfl
          by_cases hline : lineA R = s
          · have he2 : (s.toList == s.toList) = true := beq_self_eq_true _
            have he1 : (s == s) = true := by rw [beq_toListBytes]; exact he2
            rw [hline]
            have f0_ := B0.cell (j := 0) rfl
            have f1_ := B0.cell (j := 1) rfl
            have f2_ := B0.cell (j := 2) rfl
            have f3_ := B0.cell (j := 3) rfl
            have z0_ := B0.frozen 0
            have z1_ := B0.frozen 1
            have z2_ := B0.frozen 2
            have z3_ := B0.frozen 3
            go_wp2
            exact bodyPost_ret (v := .tuple #[.agg #[.int .i64 i0, .string q1s, .int .i64 i2, .int .i64 (-1)], .bool true]) (by simp [results, Tryz.results44, go_sem, f0_, f1_, f2_, f3_]) rfl (by first | exact ⟨R, true, HE.out, .inl ⟨rfl, hok, hline⟩, ((((hbE).setCell (Nat.le_refl _) _).setCell (Nat.le_refl _) _).setCell (Nat.le_refl _) _).setCell (Nat.le_refl _) _⟩ | exact ⟨R, .inr ⟨HE.out, .inl ⟨rfl, hok, hline⟩, ((((hbE).setCell (Nat.le_refl _) _).setCell (Nat.le_refl _) _).setCell (Nat.le_refl _) _).setCell (Nat.le_refl _) _⟩⟩)
          · have hl2 : ((lineA R).toList == s.toList) = false := ne_beq2 hline
            have hl3 : (lineA R == s) = false := by rw [beq_toListBytes]; exact hl2
            have HLN0 : Hid (∀ y, y = R → lineA y = s → False) := fun y e h => hline (by rw [← e]; exact h)
            clear hline
            generalize lineA R = LR at *
            have HLN := HLN0
            have f0 := B0.cell (j := 0) rfl
            have z0 := B0.frozen 0
            have n0_ := BN.cell (j := 0) rfl
            have f1 := B0.cell (j := 1) rfl
            have z1 := B0.frozen 1
            have n1_ := BN.cell (j := 1) rfl
            have f2 := B0.cell (j := 2) rfl
            have z2 := B0.frozen 2
            have n2_ := BN.cell (j := 2) rfl
            have f3 := B0.cell (j := 3) rfl
            have z3 := B0.frozen 3
            have n3_ := BN.cell (j := 3) rfl
            go_wp2
            exact bodyPost_ret (v := .tuple #[.agg #[.int .i64 0, .string ⟨#[]⟩, .int .i64 0, .int .i64 0], .bool false]) (by simp [results, Tryz.results44, go_sem, f0, f1, f2, f3]) rfl (by first | exact ⟨itm0, false, rfl, .inr ⟨rfl, rfl, fun r' q1 q2 => HLN.out r' ((HNO.out r' q1 q2).2.2.2.2.2.symm.trans HRX.out) q2⟩, ((((hbE).setCell (Nat.le_refl _) _).setCell (Nat.le_refl _) _).setCell (Nat.le_refl _) _).setCell (Nat.le_refl _) _⟩ | exact ⟨itm0, .inl ⟨rfl, .inr ⟨rfl, rfl, fun r' q1 q2 => HLN.out r' ((HNO.out r' q1 q2).2.2.2.2.2.symm.trans HRX.out) q2⟩, ((((hbE).setCell (Nat.le_refl _) _).setCell (Nat.le_refl _) _).setCell (Nat.le_refl _) _).setCell (Nat.le_refl _) _⟩⟩)
  · by_cases hX7 : X.length = 7
    · have hnI : (X.length : Int) = 7 := by omega
      have hoI : ¬ (X.length : Int) = 4 := by omega
      have c0 : w1.cell? ⟨gx, 0, none⟩ = some (.string (at_ X 0)) := by rw [at_eq (by omega)]; exact HCgx.out 0 _
      have c1 : w1.cell? ⟨gx, 1, none⟩ = some (.string (at_ X 1)) := by rw [at_eq (by omega)]; exact HCgx.out 1 _
      have c2 : w1.cell? ⟨gx, 2, none⟩ = some (.string (at_ X 2)) := by rw [at_eq (by omega)]; exact HCgx.out 2 _
      have c6 : w1.cell? ⟨gx, 6, none⟩ = some (.string (at_ X 6)) := by rw [at_eq (by omega)]; exact HCgx.out 6 _
      have HNl := Lib.hid hX7
      clear hX7
      by_cases h0 : 2 ≤ (at_ X 0).size
      rotate_left
      · have h0I : ((at_ X 0).size : Int) < 2 := by omega
        have f0 := B0.cell (j := 0) rfl
        have z0 := B0.frozen 0
        have n0_ := BN.cell (j := 0) rfl
        have f1 := B0.cell (j := 1) rfl
        have z1 := B0.frozen 1
        have n1_ := BN.cell (j := 1) rfl
        have f2 := B0.cell (j := 2) rfl
        have z2 := B0.frozen 2
        have n2_ := BN.cell (j := 2) rfl
        have f3 := B0.cell (j := 3) rfl
        have z3 := B0.frozen 3
        have n3_ := BN.cell (j := 3) rfl
        go_wp2
        exact bodyPost_ret (v := .tuple #[.agg #[.int .i64 0, .string ⟨#[]⟩, .int .i64 0, .int .i64 0], .bool false]) (by simp [results, Tryz.results44, go_sem, f0, f1, f2, f3]) rfl (by first | exact ⟨itm0, false, rfl, .inr ⟨rfl, rfl, fun r' q1 q2 => h0 (HNO.out r' q1 q2).2.1⟩, ((((hb1).setCell (Nat.le_refl _) _).setCell (Nat.le_refl _) _).setCell (Nat.le_refl _) _).setCell (Nat.le_refl _) _⟩ | exact ⟨itm0, .inl ⟨rfl, .inr ⟨rfl, rfl, fun r' q1 q2 => h0 (HNO.out r' q1 q2).2.1⟩, ((((hb1).setCell (Nat.le_refl _) _).setCell (Nat.le_refl _) _).setCell (Nat.le_refl _) _).setCell (Nat.le_refl _) _⟩⟩)
      have h0I : ¬ ((at_ X 0).size : Int) < 2 := by omega
      by_cases h2 : 2 ≤ (at_ X 2).size
      rotate_left
      · have h2I : ((at_ X 2).size : Int) < 2 := by omega
        have f0 := B0.cell (j := 0) rfl
        have z0 := B0.frozen 0
        have n0_ := BN.cell (j := 0) rfl
        have f1 := B0.cell (j := 1) rfl
        have z1 := B0.frozen 1
        have n1_ := BN.cell (j := 1) rfl
        have f2 := B0.cell (j := 2) rfl
        have z2 := B0.frozen 2
        have n2_ := BN.cell (j := 2) rfl
        have f3 := B0.cell (j := 3) rfl
        have z3 := B0.frozen 3
        have n3_ := BN.cell (j := 3) rfl
        go_wp2
        exact bodyPost_ret (v := .tuple #[.agg #[.int .i64 0, .string ⟨#[]⟩, .int .i64 0, .int .i64 0], .bool false]) (by simp [results, Tryz.results44, go_sem, f0, f1, f2, f3]) rfl (by first | exact ⟨itm0, false, rfl, .inr ⟨rfl, rfl, fun r' q1 q2 => h2 (HNO.out r' q1 q2).2.2.1⟩, ((((hb1).setCell (Nat.le_refl _) _).setCell (Nat.le_refl _) _).setCell (Nat.le_refl _) _).setCell (Nat.le_refl _) _⟩ | exact ⟨itm0, .inl ⟨rfl, .inr ⟨rfl, rfl, fun r' q1 q2 => h2 (HNO.out r' q1 q2).2.2.1⟩, ((((hb1).setCell (Nat.le_refl _) _).setCell (Nat.le_refl _) _).setCell (Nat.le_refl _) _).setCell (Nat.le_refl _) _⟩⟩)
      have h2I : ¬ ((at_ X 2).size : Int) < 2 := by omega
      obtain ⟨m0, hm0⟩ : ∃ m0, (at_ X 0).size = m0 + 1 := ⟨(at_ X 0).size - 1, by omega⟩
      have e0 : cutLast (at_ X 0) = (at_ X 0).extract 0 m0 := by unfold cutLast; rw [hm0]; simp
      have e2 : cutFirst (at_ X 2) = (at_ X 2).extract 1 (at_ X 2).size := rfl
      have HIS : Hid (itmS X = ⟨(readR (cutLast (at_ X 0))).1, at_ X 1, (readR (cutFirst (at_ X 2))).1, timeS X⟩) := rfl
      have HTS : Hid (timeS X = if X.length = 7 ∧ (at_ X 6).size = 6 then 60 * digS ((at_ X 6).data.toList.take 2) + digS (((at_ X 6).data.toList.drop 3).take 2) else -1) := rfl
      rw [e0, e2] at HIS HNO
      have hx0 : ((at_ X 0).extract 0 m0).size ≤ 1048576 := by have := hat6 0; simp; omega
      have hx2 : ((at_ X 2).extract 1 (at_ X 2).size).size ≤ 1048576 := by have := hat6 2; simp; omega
      have hns := hat6 1
      have hm1 : ((at_ X 0).size : Int) - 1 = (m0 : Int) := by omega
      have hmb : m0 ≤ 1048576 := by have := hat6 0; omega
      have hmw7 : IntKind.i64.wrap (m0 : Int) = (m0 : Int) := by rw [IntKind.wrap_i64]; omega
      have hmw : IntKind.i64.wrap (((at_ X 0).size : Int) - 1) = (m0 : Int) := by rw [IntKind.wrap_i64]; omega
      have hml : (m0 : Int) ≤ ((at_ X 0).size : Int) := by omega
      have h2J : (1 : Int) ≤ ((at_ X 2).size : Int) := by omega
      have HR0 := Lib.hid (fun w1 => l1Read_any ((at_ X 0).extract 0 m0) w1 hx0)
      have HR2 := Lib.hid (fun w1 => l1Read_any ((at_ X 2).extract 1 (at_ X 2).size) w1 hx2)
      clear hm0 e0 e2 hx0 hx2 h0 h2
      generalize readR ((at_ X 0).extract 0 m0) = R0 at *
      generalize readR ((at_ X 2).extract 1 (at_ X 2).size) = R2 at *
      obtain ⟨i0, b0⟩ := R0
      obtain ⟨i2, b2⟩ := R2
      simp only at HIS HNO HR0 HR2
      generalize at_ X 0 = q0s at *
      generalize at_ X 1 = q1s at *
      generalize at_ X 2 = q2s at *
      generalize at_ X 6 = q6s at *
      go_wp2_with fail
      have g0 := cell_after c0
      refine wp_region_after (by kernel_rfl) (by kernel_rfl) ?_
      repeat (go_big_quiet_step ((go_at_call 61; exact Calls.after (HR0.out _))))
      refine wpQuiet_nil ?_
      intro nq
      have hb2' := btr hb1 nq.bel
      replace B0 := B0.below nq.bel
      replace BN := BN.below nq.bel
      replace c1 := cell_bw c1 nq.bel
      replace c2 := cell_bw c2 nq.bel
      replace c6 := cell_bw c6 nq.bel
      generalize nq.val = w2 at *
      clear nq g0 c0 HR0
      go_wp2_with fail
      refine (HR2.out _).mono ?_
      rintro e w3 ⟨rfl, hb23⟩
      have hb3 := btr hb2' hb23
      replace B0 := B0.below hb23
      replace BN := BN.below hb23
      replace c1 := cell_bw c1 hb23
      replace c2 := cell_bw c2 hb23
      replace c6 := cell_bw c6 hb23
      clear HR2 c2 hb2' hb23 hb1
      have hlt0 := B0.lt
      have hltN := BN.lt
      have hb34 : Below w3.heap.size w3 (w3.alloc (.cells #[.int .i64 i0, .string q1s, .int .i64 i2, .int .i64 (-1)] 34)) := bnew (Below.refl _ _) _
      have B9 : Blk (w3.alloc (.cells #[.int .i64 i0, .string q1s, .int .i64 i2, .int .i64 (-1)] 34)) w3.heap.size 34 [.int .i64 i0, .string q1s, .int .i64 i2, .int .i64 (-1)] := blk_new w3 #[.int .i64 i0, .string q1s, .int .i64 i2, .int .i64 (-1)] 34
      have hb4 := btr hb3 hb34
      have B0o := B0
      replace B0 := B0.below hb34
      replace BN := BN.below hb34
      have c6' := cell_bw c6 hb34
      by_cases h6 : q6s.size = 6
      · have h6I : (q6s.size : Int) = 6 := by omega
        have HRS0 : Hid (itmS X = ⟨i0, q1s, i2, 60 * digS (q6s.data.toList.take 2) + digS ((q6s.data.toList.drop 3).take 2)⟩) := HIS.out.trans (by rw [HTS.out, if_pos ⟨HNl.out, h6⟩])
        have e1 : (q6s.extract 0 2).data.toList = q6s.data.toList.take 2 := take_ext q6s 2
        have e3 : (q6s.extract 3 5).data.toList = (q6s.data.toList.drop 3).take 2 := by rw [Lib.extract_data]
        have HD1 := Lib.hid (fun w1 => l5Digits_any (q6s.extract 0 2) w1 (by simp; omega))
        have HD2 := Lib.hid (fun w1 => l5Digits_any (q6s.extract 3 5) w1 (by simp; omega))
        rw [e1] at HD1
        rw [e3] at HD2
        have hD1 := digS_bound (q6s.data.toList.take 2)
        have hD2 := digS_bound ((q6s.data.toList.drop 3).take 2)
        clear HIS HTS e1 e3 h6
        generalize digS (q6s.data.toList.take 2) = D1 at *
        generalize digS ((q6s.data.toList.drop 3).take 2) = D2 at *
        have hw1 : IntKind.i64.wrap (60 * D1) = 60 * D1 := by rw [IntKind.wrap_i64]; omega
        obtain ⟨tm, htm⟩ : ∃ tm, tm = 60 * D1 + D2 := ⟨_, rfl⟩
        have hw2 : IntKind.i64.wrap (60 * D1 + D2) = tm := by rw [IntKind.wrap_i64]; omega
        have HRS : Hid (itmS X = ⟨i0, q1s, i2, tm⟩) := HRS0.out.trans (by rw [htm])
        clear HRS0 htm
        go_wp2_with fail
        generalize w3.alloc (.cells #[.int .i64 i0, .string q1s, .int .i64 i2, .int .i64 (-1)] 34) = w3x at *
        have d6 := cell_cl (w := w3x.drew) c6'
        refine wp_loose_tail0 (U := fun _ => undef) (τ := lk [(4, valS [] (.int .i64 D1)), (10, valS [] (.int .i64 D2))]) (F := []) 13 (by kernel_rfl) (by kernel_rfl) (fits_of rfl (by kernel_rfl)) (inv_start (by intro r s h; have := lk_mem h; simp at this; (first | omega | (simp only [List.length_cons, List.length_nil]; omega)))) ?_
        simp only [List.take_succ_cons, List.take_zero, List.drop_succ_cons, List.drop_zero]
        refine wpL_quiet 4 rfl rfl ?_
        simp only [List.take_succ_cons, List.take_zero, List.drop_succ_cons, List.drop_zero]
        repeat (go_big_quiet_step (fail))
        refine wpQuiet_nil ?_
        refine gives_loose rfl (ob_val (fun w1 h1 _ => by simp [stepTo, stepUpon, go_sem]; exact (HD1.out w1).mono fun e w2 h => ⟨_, h.1, rfl, h.2⟩)) ?_
        rintro u4 rfl
        simp only [Act.put, List.setIfInBounds_toArray, List.set_cons_zero, List.set_cons_succ]
        refine wpL_quiet 5 rfl rfl ?_
        simp only [List.take_succ_cons, List.take_zero, List.drop_succ_cons, List.drop_zero]
        repeat (go_big_quiet_step (fail))
        refine wpQuiet_nil ?_
        refine gives_loose rfl (ob_val (fun w1 h1 _ => by simp [stepTo, stepUpon, go_sem]; exact (HD2.out w1).mono fun e w2 h => ⟨_, h.1, rfl, h.2⟩)) ?_
        rintro u10 rfl
        simp only [Act.put, List.setIfInBounds_toArray, List.set_cons_zero, List.set_cons_succ]
        refine wpL_quiet 2 rfl rfl ?_
        simp only [List.take_succ_cons, List.take_zero, List.drop_succ_cons, List.drop_zero]
        repeat (go_big_quiet_step (fail))
        refine wpQuiet_nil ?_
        refine wpL_nil ?_
        intro w8 hEnd
        have hb38 : Below w3x.heap.size w3x w8 := btr (Below.refl _ _).drew (ends_below hEnd)
        clear hEnd d6
        have hb8 := btr hb4 hb38
        replace B9 := B9.below hb38
        replace B0 := B0.below hb38
        replace BN := BN.below hb38
        have x3 := B9.cell (j := 3) rfl
        have z3 := B9.frozen 3
        have B9s : Blk (w8.setCell ⟨w3.heap.size, 3, none⟩ (.int .i64 tm)) w3.heap.size 34 [.int .i64 i0, .string q1s, .int .i64 i2, .int .i64 tm] := by simpa using B9.setv 3 (.int .i64 tm)
        have B0s : Blk (w8.setCell ⟨w3.heap.size, 3, none⟩ (.int .i64 tm)) w.heap.size 34 [.int .i64 0, .string ⟨#[]⟩, .int .i64 0, .int .i64 0] := B0.setw (by omega) 3 _
        have BNs : Blk (w8.setCell ⟨w3.heap.size, 3, none⟩ (.int .i64 tm)) (w.heap.size + 1) 34 [.int .i64 0, .string ⟨#[]⟩, .int .i64 0, .int .i64 0] := BN.setw (by omega) 3 _
        have hb8s : Below w.heap.size w (w8.setCell ⟨w3.heap.size, 3, none⟩ (.int .i64 tm)) := hb8.setCell (show w.heap.size ≤ w3.heap.size by omega) _
        have hszs : (w8.setCell ⟨w3.heap.size, 3, none⟩ (.int .i64 tm)).heap.size = w8.heap.size := by simp
        clear B0o
        have B0o := B0
        clear B9 B0 BN hb8 hb38 hszs hD1 hD2 hw1
        have B9 := B9s
        have B0 := B0s
        have BN := BNs
        clear B9s B0s BNs
        cases b0 with
        | false =>
          have y0 := B9.cell (j := 0) rfl
          have y1 := B9.cell (j := 1) rfl
          have y2 := B9.cell (j := 2) rfl
          have y3 := B9.cell (j := 3) rfl
          have o0 := B0o.cell (j := 0) rfl
          have p0 := B0o.frozen 0
          have o1 := B0o.cell (j := 1) rfl
          have p1 := B0o.frozen 1
          have o2 := B0o.cell (j := 2) rfl
          have p2 := B0o.frozen 2
          have o3 := B0o.cell (j := 3) rfl
          have p3 := B0o.frozen 3
          have f0 := B0.cell (j := 0) rfl
          have z0 := B0.frozen 0
          have n0_ := BN.cell (j := 0) rfl
          have f1 := B0.cell (j := 1) rfl
          have z1 := B0.frozen 1
          have n1_ := BN.cell (j := 1) rfl
          have f2 := B0.cell (j := 2) rfl
          have z2 := B0.frozen 2
          have n2_ := BN.cell (j := 2) rfl
          have f3 := B0.cell (j := 3) rfl
          have z3 := B0.frozen 3
          have n3_ := BN.cell (j := 3) rfl
          go_wp2
          exact bodyPost_ret (v := .tuple #[.agg #[.int .i64 0, .string ⟨#[]⟩, .int .i64 0, .int .i64 0], .bool false]) (by simp [results, Tryz.results44, go_sem, f0, f1, f2, f3]) rfl (by first | exact ⟨itm0, false, rfl, .inr ⟨rfl, rfl, fun r' q1 q2 => absurd (HNO.out r' q1 q2).2.2.2.1 (by decide)⟩, ((((hb8s).setCell (Nat.le_refl _) _).setCell (Nat.le_refl _) _).setCell (Nat.le_refl _) _).setCell (Nat.le_refl _) _⟩ | exact ⟨itm0, .inl ⟨rfl, .inr ⟨rfl, rfl, fun r' q1 q2 => absurd (HNO.out r' q1 q2).2.2.2.1 (by decide)⟩, ((((hb8s).setCell (Nat.le_refl _) _).setCell (Nat.le_refl _) _).setCell (Nat.le_refl _) _).setCell (Nat.le_refl _) _⟩⟩)
        | true =>
          cases b2 with
          | false =>
            have y0 := B9.cell (j := 0) rfl
            have y1 := B9.cell (j := 1) rfl
            have y2 := B9.cell (j := 2) rfl
            have y3 := B9.cell (j := 3) rfl
            have o0 := B0o.cell (j := 0) rfl
            have p0 := B0o.frozen 0
            have o1 := B0o.cell (j := 1) rfl
            have p1 := B0o.frozen 1
            have o2 := B0o.cell (j := 2) rfl
            have p2 := B0o.frozen 2
            have o3 := B0o.cell (j := 3) rfl
            have p3 := B0o.frozen 3
            have f0 := B0.cell (j := 0) rfl
            have z0 := B0.frozen 0
            have n0_ := BN.cell (j := 0) rfl
            have f1 := B0.cell (j := 1) rfl
            have z1 := B0.frozen 1
            have n1_ := BN.cell (j := 1) rfl
            have f2 := B0.cell (j := 2) rfl
            have z2 := B0.frozen 2
            have n2_ := BN.cell (j := 2) rfl
            have f3 := B0.cell (j := 3) rfl
            have z3 := B0.frozen 3
            have n3_ := BN.cell (j := 3) rfl
            go_wp2
            exact bodyPost_ret (v := .tuple #[.agg #[.int .i64 0, .string ⟨#[]⟩, .int .i64 0, .int .i64 0], .bool false]) (by simp [results, Tryz.results44, go_sem, f0, f1, f2, f3]) rfl (by first | exact ⟨itm0, false, rfl, .inr ⟨rfl, rfl, fun r' q1 q2 => absurd (HNO.out r' q1 q2).2.2.2.2.1 (by decide)⟩, ((((hb8s).setCell (Nat.le_refl _) _).setCell (Nat.le_refl _) _).setCell (Nat.le_refl _) _).setCell (Nat.le_refl _) _⟩ | exact ⟨itm0, .inl ⟨rfl, .inr ⟨rfl, rfl, fun r' q1 q2 => absurd (HNO.out r' q1 q2).2.2.2.2.1 (by decide)⟩, ((((hb8s).setCell (Nat.le_refl _) _).setCell (Nat.le_refl _) _).setCell (Nat.le_refl _) _).setCell (Nat.le_refl _) _⟩⟩)
          | true =>
            obtain ⟨R, hRe⟩ : ∃ R : Itm, R = ⟨i0, q1s, i2, tm⟩ := ⟨_, rfl⟩
            have HRX : Hid (itmS X = R) := HRS.out.trans hRe.symm
            have HE : Hid (Ending.returned (.tuple #[.agg #[.int .i64 i0, .string q1s, .int .i64 i2, .int .i64 tm], .bool true]) = .returned (.tuple #[.agg #[.int .i64 R.id, .string R.title, .int .i64 R.mins, .int .i64 R.time], .bool true])) := by rw [hRe]; rfl
            have HRC : Hid (itmCells [R] = [.int .i64 i0, .string q1s, .int .i64 i2, .int .i64 tm]) := by rw [hRe]; rfl
            have hRt : R.title.size ≤ maxLen := by rw [hRe]; unfold maxLen; show q1s.size ≤ _; omega
            have Hl : Hid (itmOk R = true → ∀ w1, Calls Tryz.prog 54 #[.agg #[.int .i64 i0, .string q1s, .int .i64 i2, .int .i64 tm]] w1 fun e w' => e = .returned (.string (lineA R)) ∧ Below w1.heap.size w1 w') := fun h w1 => by
              have := l5Line_any R w1 h
              rw [hRe] at this ⊢
              exact this
            clear hRe HRS
            have y0 := B9.cell (j := 0) rfl
            have y1 := B9.cell (j := 1) rfl
            have y2 := B9.cell (j := 2) rfl
            have y3 := B9.cell (j := 3) rfl
            have hbL := bnew hb8s (.cells #[.int .i64 i0, .string q1s, .int .i64 i2, .int .i64 tm] 34)
            have hbL1 := bnew (Below.refl (w8.setCell ⟨w3.heap.size, 3, none⟩ (.int .i64 tm)).heap.size (w8.setCell ⟨w3.heap.size, 3, none⟩ (.int .i64 tm))) (.cells #[.int .i64 i0, .string q1s, .int .i64 i2, .int .i64 tm] 34)
            have hrdL : Rd ((w8.setCell ⟨w3.heap.size, 3, none⟩ (.int .i64 tm)).alloc (.cells #[.int .i64 i0, .string q1s, .int .i64 i2, .int .i64 tm] 34)) (some ⟨w8.heap.size, 0, none⟩) (itmCells [R]) := by rw [HRC.out]; have h0 : Rd ((w8.setCell ⟨w3.heap.size, 3, none⟩ (.int .i64 tm)).alloc (.cells #[.int .i64 i0, .string q1s, .int .i64 i2, .int .i64 tm] 34)) (some ⟨(w8.setCell ⟨w3.heap.size, 3, none⟩ (.int .i64 tm)).heap.size, 0, none⟩) [.int .i64 i0, .string q1s, .int .i64 i2, .int .i64 tm] := Rd.made; simpa using h0
            have Hv : Hid (Calls Tryz.prog 31 #[.slice (some ⟨w8.heap.size, 0, none⟩) 1 1] ((w8.setCell ⟨w3.heap.size, 3, none⟩ (.int .i64 tm)).alloc (.cells #[.int .i64 i0, .string q1s, .int .i64 i2, .int .i64 tm] 34)) fun e w' => e = .returned (.bool (itmOk R)) ∧ Below ((w8.setCell ⟨w3.heap.size, 3, none⟩ (.int .i64 tm)).alloc (.cells #[.int .i64 i0, .string q1s, .int .i64 i2, .int .i64 tm] 34)).heap.size ((w8.setCell ⟨w3.heap.size, 3, none⟩ (.int .i64 tm)).alloc (.cells #[.int .i64 i0, .string q1s, .int .i64 i2, .int .i64 tm] 34)) w') := by
              have := l5Good_any (some ⟨w8.heap.size, 0, none⟩) 1 [R] ((w8.setCell ⟨w3.heap.size, 3, none⟩ (.int .i64 tm)).alloc (.cells #[.int .i64 i0, .string q1s, .int .i64 i2, .int .i64 tm] 34)) (by unfold maxLen; simp) (Nat.le_refl _) hrdL (fun y hy => by simp only [List.mem_singleton] at hy; subst hy; exact hRt)
              rw [goodA_one] at this
              exact this
            replace B9 := B9.below hbL1
            replace B0 := B0.below hbL1
            replace BN := BN.below hbL1
            clear hrdL HRC hRt
            go_wp2_with fail
            refine Hv.out.mono ?_
            rintro e w20 ⟨rfl, hb20⟩
            have hb21 := btr hbL hb20
            replace B9 := B9.below hb20
            replace B0 := B0.below hb20
            replace BN := BN.below hb20
            clear Hv hbL hbL1 y0 y1 y2 y3
            have y0 := B9.cell (j := 0) rfl
            have y1 := B9.cell (j := 1) rfl
            have y2 := B9.cell (j := 2) rfl
            have y3 := B9.cell (j := 3) rfl
            cases hok : itmOk R with
            | false =>
              have f0 := B0.cell (j := 0) rfl
              have z0 := B0.frozen 0
              have n0_ := BN.cell (j := 0) rfl
              have f1 := B0.cell (j := 1) rfl
              have z1 := B0.frozen 1
              have n1_ := BN.cell (j := 1) rfl
              have f2 := B0.cell (j := 2) rfl
              have z2 := B0.frozen 2
              have n2_ := BN.cell (j := 2) rfl
              have f3 := B0.cell (j := 3) rfl
              have z3 := B0.frozen 3
              have n3_ := BN.cell (j := 3) rfl
              go_wp2
              exact bodyPost_ret (v := .tuple #[.agg #[.int .i64 0, .string ⟨#[]⟩, .int .i64 0, .int .i64 0], .bool false]) (by simp [results, Tryz.results44, go_sem, f0, f1, f2, f3]) rfl (by first | exact ⟨itm0, false, rfl, .inr ⟨rfl, rfl, fun r' q1 q2 => by have h1 := (HNO.out r' q1 q2).2.2.2.2.2; rw [HRX.out] at h1; rw [h1, q1] at hok; cases hok⟩, ((((hb21).setCell (Nat.le_refl _) _).setCell (Nat.le_refl _) _).setCell (Nat.le_refl _) _).setCell (Nat.le_refl _) _⟩ | exact ⟨itm0, .inl ⟨rfl, .inr ⟨rfl, rfl, fun r' q1 q2 => by have h1 := (HNO.out r' q1 q2).2.2.2.2.2; rw [HRX.out] at h1; rw [h1, q1] at hok; cases hok⟩, ((((hb21).setCell (Nat.le_refl _) _).setCell (Nat.le_refl _) _).setCell (Nat.le_refl _) _).setCell (Nat.le_refl _) _⟩⟩)
            | true =>
              have Hl2 := Lib.hid (Hl.out hok)
              clear Hl
              go_wp2_with fail
              refine (Hl2.out _).mono ?_
              rintro e w22 ⟨rfl, hb22⟩
              have hbE := btr hb21 hb22
              replace B9 := B9.below hb22
              replace B0 := B0.below hb22
              replace BN := BN.below hb22
              clear y0 y1 y2 y3
              have y0 := B9.cell (j := 0) rfl
              have y1 := B9.cell (j := 1) rfl
              have y2 := B9.cell (j := 2) rfl
              have y3 := B9.cell (j := 3) rfl
              by_cases hline : lineA R = s
              · have he2 : (s.toList == s.toList) = true := beq_self_eq_true _
                have he1 : (s == s) = true := by rw [beq_toListBytes]; exact he2
                rw [hline]
                have f0_ := B0.cell (j := 0) rfl
                have f1_ := B0.cell (j := 1) rfl
                have f2_ := B0.cell (j := 2) rfl
                have f3_ := B0.cell (j := 3) rfl
                have z0_ := B0.frozen 0
                have z1_ := B0.frozen 1
                have z2_ := B0.frozen 2
                have z3_ := B0.frozen 3
                go_wp2
                exact bodyPost_ret (v := .tuple #[.agg #[.int .i64 i0, .string q1s, .int .i64 i2, .int .i64 tm], .bool true]) (by simp [results, Tryz.results44, go_sem, f0_, f1_, f2_, f3_]) rfl (by first | exact ⟨R, true, HE.out, .inl ⟨rfl, hok, hline⟩, ((((hbE).setCell (Nat.le_refl _) _).setCell (Nat.le_refl _) _).setCell (Nat.le_refl _) _).setCell (Nat.le_refl _) _⟩ | exact ⟨R, .inr ⟨HE.out, .inl ⟨rfl, hok, hline⟩, ((((hbE).setCell (Nat.le_refl _) _).setCell (Nat.le_refl _) _).setCell (Nat.le_refl _) _).setCell (Nat.le_refl _) _⟩⟩)
              · have hl2 : ((lineA R).toList == s.toList) = false := ne_beq2 hline
                have hl3 : (lineA R == s) = false := by rw [beq_toListBytes]; exact hl2
                have HLN0 : Hid (∀ y, y = R → lineA y = s → False) := fun y e h => hline (by rw [← e]; exact h)
                clear hline
                generalize lineA R = LR at *
                have HLN := HLN0
                have f0 := B0.cell (j := 0) rfl
                have z0 := B0.frozen 0
                have n0_ := BN.cell (j := 0) rfl
                have f1 := B0.cell (j := 1) rfl
                have z1 := B0.frozen 1
                have n1_ := BN.cell (j := 1) rfl
                have f2 := B0.cell (j := 2) rfl
                have z2 := B0.frozen 2
                have n2_ := BN.cell (j := 2) rfl
                have f3 := B0.cell (j := 3) rfl
                have z3 := B0.frozen 3
                have n3_ := BN.cell (j := 3) rfl
                go_wp2
                exact bodyPost_ret (v := .tuple #[.agg #[.int .i64 0, .string ⟨#[]⟩, .int .i64 0, .int .i64 0], .bool false]) (by simp [results, Tryz.results44, go_sem, f0, f1, f2, f3]) rfl (by first | exact ⟨itm0, false, rfl, .inr ⟨rfl, rfl, fun r' q1 q2 => HLN.out r' ((HNO.out r' q1 q2).2.2.2.2.2.symm.trans HRX.out) q2⟩, ((((hbE).setCell (Nat.le_refl _) _).setCell (Nat.le_refl _) _).setCell (Nat.le_refl _) _).setCell (Nat.le_refl _) _⟩ | exact ⟨itm0, .inl ⟨rfl, .inr ⟨rfl, rfl, fun r' q1 q2 => HLN.out r' ((HNO.out r' q1 q2).2.2.2.2.2.symm.trans HRX.out) q2⟩, ((((hbE).setCell (Nat.le_refl _) _).setCell (Nat.le_refl _) _).setCell (Nat.le_refl _) _).setCell (Nat.le_refl _) _⟩⟩)
      · have h6I : ¬ (q6s.size : Int) = 6 := by omega
        have HRS : Hid (itmS X = ⟨i0, q1s, i2, -1⟩) := HIS.out.trans (by rw [HTS.out, if_neg (fun h => h6 h.2)])
        clear HIS HTS h6
        cases b0 with
        | false =>
          have o0 := B0o.cell (j := 0) rfl
          have p0 := B0o.frozen 0
          have n0_ := BN.cell (j := 0) rfl
          have o1 := B0o.cell (j := 1) rfl
          have p1 := B0o.frozen 1
          have n1_ := BN.cell (j := 1) rfl
          have o2 := B0o.cell (j := 2) rfl
          have p2 := B0o.frozen 2
          have n2_ := BN.cell (j := 2) rfl
          have o3 := B0o.cell (j := 3) rfl
          have p3 := B0o.frozen 3
          have n3_ := BN.cell (j := 3) rfl
          have RF : Blk (((((w3.setCell ⟨w.heap.size, 0, none⟩ (.int .i64 0)).setCell ⟨w.heap.size, 1, none⟩ (.string ⟨#[]⟩)).setCell ⟨w.heap.size, 2, none⟩ (.int .i64 0)).setCell ⟨w.heap.size, 3, none⟩ (.int .i64 0)).alloc (.cells #[.int .i64 i0, .string q1s, .int .i64 i2, .int .i64 (-1)] 34)) w.heap.size 34 [.int .i64 0, .string ⟨#[]⟩, .int .i64 0, .int .i64 0] := Blk.below (show Blk ((((w3.setCell ⟨w.heap.size, 0, none⟩ (.int .i64 0)).setCell ⟨w.heap.size, 1, none⟩ (.string ⟨#[]⟩)).setCell ⟨w.heap.size, 2, none⟩ (.int .i64 0)).setCell ⟨w.heap.size, 3, none⟩ (.int .i64 0)) w.heap.size 34 [.int .i64 0, .string ⟨#[]⟩, .int .i64 0, .int .i64 0] from ((((B0o.setv 0 (.int .i64 0)).setv 1 (.string ⟨#[]⟩)).setv 2 (.int .i64 0)).setv 3 (.int .i64 0))) (bnew (Below.refl _ _) _)
          have f0 := RF.cell (j := 0) rfl
          have f1 := RF.cell (j := 1) rfl
          have f2 := RF.cell (j := 2) rfl
          have f3 := RF.cell (j := 3) rfl
          go_wp2
          exact bodyPost_ret (v := .tuple #[.agg #[.int .i64 0, .string ⟨#[]⟩, .int .i64 0, .int .i64 0], .bool false]) (by simp [results, Tryz.results44, go_sem, f0, f1, f2, f3]) rfl (by first | exact ⟨itm0, false, rfl, .inr ⟨rfl, rfl, fun r' q1 q2 => absurd (HNO.out r' q1 q2).2.2.2.1 (by decide)⟩, bnew (((((hb3).setCell (Nat.le_refl _) _).setCell (Nat.le_refl _) _).setCell (Nat.le_refl _) _).setCell (Nat.le_refl _) _) (.cells #[.int .i64 i0, .string q1s, .int .i64 i2, .int .i64 (-1)] 34)⟩ | exact ⟨itm0, .inl ⟨rfl, .inr ⟨rfl, rfl, fun r' q1 q2 => absurd (HNO.out r' q1 q2).2.2.2.1 (by decide)⟩, bnew (((((hb3).setCell (Nat.le_refl _) _).setCell (Nat.le_refl _) _).setCell (Nat.le_refl _) _).setCell (Nat.le_refl _) _) (.cells #[.int .i64 i0, .string q1s, .int .i64 i2, .int .i64 (-1)] 34)⟩⟩)
        | true =>
          cases b2 with
          | false =>
            have o0 := B0o.cell (j := 0) rfl
            have p0 := B0o.frozen 0
            have n0_ := BN.cell (j := 0) rfl
            have o1 := B0o.cell (j := 1) rfl
            have p1 := B0o.frozen 1
            have n1_ := BN.cell (j := 1) rfl
            have o2 := B0o.cell (j := 2) rfl
            have p2 := B0o.frozen 2
            have n2_ := BN.cell (j := 2) rfl
            have o3 := B0o.cell (j := 3) rfl
            have p3 := B0o.frozen 3
            have n3_ := BN.cell (j := 3) rfl
            have RF : Blk (((((w3.setCell ⟨w.heap.size, 0, none⟩ (.int .i64 0)).setCell ⟨w.heap.size, 1, none⟩ (.string ⟨#[]⟩)).setCell ⟨w.heap.size, 2, none⟩ (.int .i64 0)).setCell ⟨w.heap.size, 3, none⟩ (.int .i64 0)).alloc (.cells #[.int .i64 i0, .string q1s, .int .i64 i2, .int .i64 (-1)] 34)) w.heap.size 34 [.int .i64 0, .string ⟨#[]⟩, .int .i64 0, .int .i64 0] := Blk.below (show Blk ((((w3.setCell ⟨w.heap.size, 0, none⟩ (.int .i64 0)).setCell ⟨w.heap.size, 1, none⟩ (.string ⟨#[]⟩)).setCell ⟨w.heap.size, 2, none⟩ (.int .i64 0)).setCell ⟨w.heap.size, 3, none⟩ (.int .i64 0)) w.heap.size 34 [.int .i64 0, .string ⟨#[]⟩, .int .i64 0, .int .i64 0] from ((((B0o.setv 0 (.int .i64 0)).setv 1 (.string ⟨#[]⟩)).setv 2 (.int .i64 0)).setv 3 (.int .i64 0))) (bnew (Below.refl _ _) _)
            have f0 := RF.cell (j := 0) rfl
            have f1 := RF.cell (j := 1) rfl
            have f2 := RF.cell (j := 2) rfl
            have f3 := RF.cell (j := 3) rfl
            go_wp2
            exact bodyPost_ret (v := .tuple #[.agg #[.int .i64 0, .string ⟨#[]⟩, .int .i64 0, .int .i64 0], .bool false]) (by simp [results, Tryz.results44, go_sem, f0, f1, f2, f3]) rfl (by first | exact ⟨itm0, false, rfl, .inr ⟨rfl, rfl, fun r' q1 q2 => absurd (HNO.out r' q1 q2).2.2.2.2.1 (by decide)⟩, bnew (((((hb3).setCell (Nat.le_refl _) _).setCell (Nat.le_refl _) _).setCell (Nat.le_refl _) _).setCell (Nat.le_refl _) _) (.cells #[.int .i64 i0, .string q1s, .int .i64 i2, .int .i64 (-1)] 34)⟩ | exact ⟨itm0, .inl ⟨rfl, .inr ⟨rfl, rfl, fun r' q1 q2 => absurd (HNO.out r' q1 q2).2.2.2.2.1 (by decide)⟩, bnew (((((hb3).setCell (Nat.le_refl _) _).setCell (Nat.le_refl _) _).setCell (Nat.le_refl _) _).setCell (Nat.le_refl _) _) (.cells #[.int .i64 i0, .string q1s, .int .i64 i2, .int .i64 (-1)] 34)⟩⟩)
          | true =>
            obtain ⟨R, hRe⟩ : ∃ R : Itm, R = ⟨i0, q1s, i2, (-1)⟩ := ⟨_, rfl⟩
            have HRX : Hid (itmS X = R) := HRS.out.trans hRe.symm
            have HE : Hid (Ending.returned (.tuple #[.agg #[.int .i64 i0, .string q1s, .int .i64 i2, .int .i64 (-1)], .bool true]) = .returned (.tuple #[.agg #[.int .i64 R.id, .string R.title, .int .i64 R.mins, .int .i64 R.time], .bool true])) := by rw [hRe]; rfl
            have HRC : Hid (itmCells [R] = [.int .i64 i0, .string q1s, .int .i64 i2, .int .i64 (-1)]) := by rw [hRe]; rfl
            have hRt : R.title.size ≤ maxLen := by rw [hRe]; unfold maxLen; show q1s.size ≤ _; omega
            have Hl : Hid (itmOk R = true → ∀ w1, Calls Tryz.prog 54 #[.agg #[.int .i64 i0, .string q1s, .int .i64 i2, .int .i64 (-1)]] w1 fun e w' => e = .returned (.string (lineA R)) ∧ Below w1.heap.size w1 w') := fun h w1 => by
              have := l5Line_any R w1 h
              rw [hRe] at this ⊢
              exact this
            clear hRe HRS
            have y0 := B9.cell (j := 0) rfl
            have y1 := B9.cell (j := 1) rfl
            have y2 := B9.cell (j := 2) rfl
            have y3 := B9.cell (j := 3) rfl
            have hbL := bnew hb4 (.cells #[.int .i64 i0, .string q1s, .int .i64 i2, .int .i64 (-1)] 34)
            have hbL1 := bnew (Below.refl (w3.alloc (.cells #[.int .i64 i0, .string q1s, .int .i64 i2, .int .i64 (-1)] 34)).heap.size (w3.alloc (.cells #[.int .i64 i0, .string q1s, .int .i64 i2, .int .i64 (-1)] 34))) (.cells #[.int .i64 i0, .string q1s, .int .i64 i2, .int .i64 (-1)] 34)
            have hrdL : Rd ((w3.alloc (.cells #[.int .i64 i0, .string q1s, .int .i64 i2, .int .i64 (-1)] 34)).alloc (.cells #[.int .i64 i0, .string q1s, .int .i64 i2, .int .i64 (-1)] 34)) (some ⟨w3.heap.size + 1, 0, none⟩) (itmCells [R]) := by rw [HRC.out]; have h0 : Rd ((w3.alloc (.cells #[.int .i64 i0, .string q1s, .int .i64 i2, .int .i64 (-1)] 34)).alloc (.cells #[.int .i64 i0, .string q1s, .int .i64 i2, .int .i64 (-1)] 34)) (some ⟨(w3.alloc (.cells #[.int .i64 i0, .string q1s, .int .i64 i2, .int .i64 (-1)] 34)).heap.size, 0, none⟩) [.int .i64 i0, .string q1s, .int .i64 i2, .int .i64 (-1)] := Rd.made; simpa using h0
            have Hv : Hid (Calls Tryz.prog 31 #[.slice (some ⟨w3.heap.size + 1, 0, none⟩) 1 1] ((w3.alloc (.cells #[.int .i64 i0, .string q1s, .int .i64 i2, .int .i64 (-1)] 34)).alloc (.cells #[.int .i64 i0, .string q1s, .int .i64 i2, .int .i64 (-1)] 34)) fun e w' => e = .returned (.bool (itmOk R)) ∧ Below ((w3.alloc (.cells #[.int .i64 i0, .string q1s, .int .i64 i2, .int .i64 (-1)] 34)).alloc (.cells #[.int .i64 i0, .string q1s, .int .i64 i2, .int .i64 (-1)] 34)).heap.size ((w3.alloc (.cells #[.int .i64 i0, .string q1s, .int .i64 i2, .int .i64 (-1)] 34)).alloc (.cells #[.int .i64 i0, .string q1s, .int .i64 i2, .int .i64 (-1)] 34)) w') := by
              have := l5Good_any (some ⟨w3.heap.size + 1, 0, none⟩) 1 [R] ((w3.alloc (.cells #[.int .i64 i0, .string q1s, .int .i64 i2, .int .i64 (-1)] 34)).alloc (.cells #[.int .i64 i0, .string q1s, .int .i64 i2, .int .i64 (-1)] 34)) (by unfold maxLen; simp) (Nat.le_refl _) hrdL (fun y hy => by simp only [List.mem_singleton] at hy; subst hy; exact hRt)
              rw [goodA_one] at this
              exact this
            replace B9 := B9.below hbL1
            replace B0 := B0.below hbL1
            replace BN := BN.below hbL1
            clear hrdL HRC hRt
            go_wp2_with fail
            refine Hv.out.mono ?_
            rintro e w20 ⟨rfl, hb20⟩
            have hb21 := btr hbL hb20
            replace B9 := B9.below hb20
            replace B0 := B0.below hb20
            replace BN := BN.below hb20
            clear Hv hbL hbL1 y0 y1 y2 y3
            have y0 := B9.cell (j := 0) rfl
            have y1 := B9.cell (j := 1) rfl
            have y2 := B9.cell (j := 2) rfl
            have y3 := B9.cell (j := 3) rfl
            cases hok : itmOk R with
            | false =>
              have f0 := B0.cell (j := 0) rfl
              have z0 := B0.frozen 0
              have n0_ := BN.cell (j := 0) rfl
              have f1 := B0.cell (j := 1) rfl
              have z1 := B0.frozen 1
              have n1_ := BN.cell (j := 1) rfl
              have f2 := B0.cell (j := 2) rfl
              have z2 := B0.frozen 2
              have n2_ := BN.cell (j := 2) rfl
              have f3 := B0.cell (j := 3) rfl
              have z3 := B0.frozen 3
              have n3_ := BN.cell (j := 3) rfl
              go_wp2
              exact bodyPost_ret (v := .tuple #[.agg #[.int .i64 0, .string ⟨#[]⟩, .int .i64 0, .int .i64 0], .bool false]) (by simp [results, Tryz.results44, go_sem, f0, f1, f2, f3]) rfl (by first | exact ⟨itm0, false, rfl, .inr ⟨rfl, rfl, fun r' q1 q2 => by have h1 := (HNO.out r' q1 q2).2.2.2.2.2; rw [HRX.out] at h1; rw [h1, q1] at hok; cases hok⟩, ((((hb21).setCell (Nat.le_refl _) _).setCell (Nat.le_refl _) _).setCell (Nat.le_refl _) _).setCell (Nat.le_refl _) _⟩ | exact ⟨itm0, .inl ⟨rfl, .inr ⟨rfl, rfl, fun r' q1 q2 => by have h1 := (HNO.out r' q1 q2).2.2.2.2.2; rw [HRX.out] at h1; rw [h1, q1] at hok; cases hok⟩, ((((hb21).setCell (Nat.le_refl _) _).setCell (Nat.le_refl _) _).setCell (Nat.le_refl _) _).setCell (Nat.le_refl _) _⟩⟩)
            | true =>
              have Hl2 := Lib.hid (Hl.out hok)
              clear Hl
              go_wp2_with fail
              refine (Hl2.out _).mono ?_
              rintro e w22 ⟨rfl, hb22⟩
              have hbE := btr hb21 hb22
              replace B9 := B9.below hb22
              replace B0 := B0.below hb22
              replace BN := BN.below hb22
              clear y0 y1 y2 y3
              have y0 := B9.cell (j := 0) rfl
              have y1 := B9.cell (j := 1) rfl
              have y2 := B9.cell (j := 2) rfl
              have y3 := B9.cell (j := 3) rfl
              by_cases hline : lineA R = s
              · have he2 : (s.toList == s.toList) = true := beq_self_eq_true _
                have he1 : (s == s) = true := by rw [beq_toListBytes]; exact he2
                rw [hline]
                have f0_ := B0.cell (j := 0) rfl
                have f1_ := B0.cell (j := 1) rfl
                have f2_ := B0.cell (j := 2) rfl
                have f3_ := B0.cell (j := 3) rfl
                have z0_ := B0.frozen 0
                have z1_ := B0.frozen 1
                have z2_ := B0.frozen 2
                have z3_ := B0.frozen 3
                go_wp2
                exact bodyPost_ret (v := .tuple #[.agg #[.int .i64 i0, .string q1s, .int .i64 i2, .int .i64 (-1)], .bool true]) (by simp [results, Tryz.results44, go_sem, f0_, f1_, f2_, f3_]) rfl (by first | exact ⟨R, true, HE.out, .inl ⟨rfl, hok, hline⟩, ((((hbE).setCell (Nat.le_refl _) _).setCell (Nat.le_refl _) _).setCell (Nat.le_refl _) _).setCell (Nat.le_refl _) _⟩ | exact ⟨R, .inr ⟨HE.out, .inl ⟨rfl, hok, hline⟩, ((((hbE).setCell (Nat.le_refl _) _).setCell (Nat.le_refl _) _).setCell (Nat.le_refl _) _).setCell (Nat.le_refl _) _⟩⟩)
              · have hl2 : ((lineA R).toList == s.toList) = false := ne_beq2 hline
                have hl3 : (lineA R == s) = false := by rw [beq_toListBytes]; exact hl2
                have HLN0 : Hid (∀ y, y = R → lineA y = s → False) := fun y e h => hline (by rw [← e]; exact h)
                clear hline
                generalize lineA R = LR at *
                have HLN := HLN0
                have f0 := B0.cell (j := 0) rfl
                have z0 := B0.frozen 0
                have n0_ := BN.cell (j := 0) rfl
                have f1 := B0.cell (j := 1) rfl
                have z1 := B0.frozen 1
                have n1_ := BN.cell (j := 1) rfl
                have f2 := B0.cell (j := 2) rfl
                have z2 := B0.frozen 2
                have n2_ := BN.cell (j := 2) rfl
                have f3 := B0.cell (j := 3) rfl
                have z3 := B0.frozen 3
                have n3_ := BN.cell (j := 3) rfl
                go_wp2
                exact bodyPost_ret (v := .tuple #[.agg #[.int .i64 0, .string ⟨#[]⟩, .int .i64 0, .int .i64 0], .bool false]) (by simp [results, Tryz.results44, go_sem, f0, f1, f2, f3]) rfl (by first | exact ⟨itm0, false, rfl, .inr ⟨rfl, rfl, fun r' q1 q2 => HLN.out r' ((HNO.out r' q1 q2).2.2.2.2.2.symm.trans HRX.out) q2⟩, ((((hbE).setCell (Nat.le_refl _) _).setCell (Nat.le_refl _) _).setCell (Nat.le_refl _) _).setCell (Nat.le_refl _) _⟩ | exact ⟨itm0, .inl ⟨rfl, .inr ⟨rfl, rfl, fun r' q1 q2 => HLN.out r' ((HNO.out r' q1 q2).2.2.2.2.2.symm.trans HRX.out) q2⟩, ((((hbE).setCell (Nat.le_refl _) _).setCell (Nat.le_refl _) _).setCell (Nat.le_refl _) _).setCell (Nat.le_refl _) _⟩⟩)
    · have h4I : ¬ (X.length : Int) = 4 := by omega
      have h7I : ¬ (X.length : Int) = 7 := by omega
      have h4B : ((X.length : Int) != 4) = true := by rw [bne_iff_ne]; exact h4I
      have h7B : ((X.length : Int) != 7) = true := by rw [bne_iff_ne]; exact h7I
      have f0 := B0.cell (j := 0) rfl
      have z0 := B0.frozen 0
      have n0_ := BN.cell (j := 0) rfl
      have f1 := B0.cell (j := 1) rfl
      have z1 := B0.frozen 1
      have n1_ := BN.cell (j := 1) rfl
      have f2 := B0.cell (j := 2) rfl
      have z2 := B0.frozen 2
      have n2_ := BN.cell (j := 2) rfl
      have f3 := B0.cell (j := 3) rfl
      have z3 := B0.frozen 3
      have n3_ := BN.cell (j := 3) rfl
      go_wp2
      exact bodyPost_ret (v := .tuple #[.agg #[.int .i64 0, .string ⟨#[]⟩, .int .i64 0, .int .i64 0], .bool false]) (by simp [results, Tryz.results44, go_sem, f0, f1, f2, f3]) rfl (by first | exact ⟨itm0, false, rfl, .inr ⟨rfl, rfl, fun r' q1 q2 => (HNO.out r' q1 q2).1.elim hX4 hX7⟩, ((((hb1).setCell (Nat.le_refl _) _).setCell (Nat.le_refl _) _).setCell (Nat.le_refl _) _).setCell (Nat.le_refl _) _⟩ | exact ⟨itm0, .inl ⟨rfl, .inr ⟨rfl, rfl, fun r' q1 q2 => (HNO.out r' q1 q2).1.elim hX4 hX7⟩, ((((hb1).setCell (Nat.le_refl _) _).setCell (Nat.le_refl _) _).setCell (Nat.le_refl _) _).setCell (Nat.le_refl _) _⟩⟩)
end Go.Proofs.YtfpjelpbeicdoaaGreatDoor
