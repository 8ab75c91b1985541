/-
  ParseRules: contracts of both texts. Conditions: the listed variables are as laid.
-/
import Derived.Test.YtfaphackdhdcaaaDoorRulPar2
namespace Go.My
open Go.RowKit
theorem rulCells_snoc (L : List Rul) (r : Rul) : rulCells (L ++ [r]) = rulCells L ++ [.int .i64 r.id, .string r.name, .int .i64 r.rank, .bool r.sec, .bool r.deb, .bool r.am, .int .i64 r.need] := by simp [rulCells, Rul.cells]
theorem LinesOf.ok {X : List ByteArray} {L : List Rul} (h : LinesOf X L) : ∀ r ∈ L, rulOk r = true := by
  intro r hr
  obtain ⟨i, hi, rfl⟩ := List.getElem_of_mem hr
  exact (h i hi).1
/-- A line that no valid rule has. -/
theorem lines_bad {s : ByteArray} {X : List ByteArray} (hX : bl X = splitU 10 s.data.toList) {k : Nat} (hk : k + 1 < X.length) (h : ∀ r', rulOk r' = true → lineB r' ≠ at_ X k) : IsParseL s [] false := by
  refine .inr ⟨rfl, rfl, fun ys hg ht => ?_⟩
  obtain ⟨h1, h2⟩ := text_at hX (good_ok hg).1 ht
  have hky : k < ys.length := by omega
  exact h _ ((good_ok hg).1 _ (List.getElem_mem _)) (h2 k hky).symm
/-- All lines read: the list is the only one that could have the text. -/
theorem lines_end {s : ByteArray} {X : List ByteArray} (hX : bl X = splitU 10 s.data.toList) {L : List Rul} (hL : LinesOf X L) (hl : L.length + 1 = X.length) :
    (goodRul L = true → textL L = s.data.toList → IsParseL s L true) ∧ (¬ (goodRul L = true ∧ textL L = s.data.toList) → IsParseL s [] false) := by
  refine ⟨fun h1 h2 => .inl ⟨rfl, h1, h2⟩, fun h => .inr ⟨rfl, rfl, fun ys hg ht => h ?_⟩⟩
  obtain ⟨h1, h2⟩ := text_at hX (good_ok hg).1 ht
  have := LinesOf.eq hL (by omega) (good_ok hg).1 h2
  rw [this]; exact ⟨hg, ht⟩
theorem lines_many {s : ByteArray} {X : List ByteArray} (hX : bl X = splitU 10 s.data.toList) (h : 9 < X.length) : IsParseL s [] false :=
  .inr ⟨rfl, rfl, fun ys hg ht => by have h1 := (text_at hX (good_ok hg).1 ht).1; have h2 := (good_ok hg).2; omega⟩
theorem lines_long {s : ByteArray} (h : 700 < s.size) : IsParseL s [] false :=
  .inr ⟨rfl, rfl, fun ys hg ht => by
    have h1 := textL_len (good_ok hg).1
    have h2 := (good_ok hg).2
    have h3 : s.data.toList.length = s.size := by simp
    rw [ht] at h1; omega⟩
end Go.My
namespace Go.Proofs.YtfaphackdhdcaaaDoor
open Go.RowKit Go.My
set_option maxHeartbeats 8000000 in
set_option maxRecDepth 100000 in
theorem implParseRules_any (s : ByteArray) (w : World) (hs : s.size ≤ 1048576) (hd0 : ParDoor w) :
    Calls Tryd.prog 21 #[.string s] w fun e w' => ∃ (L : List Rul) (b : Bool) (A' : Option Addr) (c' : Nat), e = .returned (.tuple #[.slice A' L.length c', .bool b]) ∧ w'.ownsRow w.heap.size 27 7 (.slice A' L.length c') L.length (rulCells L) ∧ IsParseL s L b ∧ Below w.heap.size w w' := by
  have HX := Lib.hid (splitL_bl s 10)
  have HSZ : Hid (∀ x ∈ splitL s 10, x.size ≤ s.size) := splitL_sz s 10
  have hXp := splitL_pos s 10
  have hXM : (splitL s 10).length ≤ 1048577 := Nat.le_trans (splitL_len s 10) (by omega)
  have HO : Hid (∀ x w1, x.size ≤ 1048576 → Below w.heap.size w w1 → Calls Tryd.prog 18 #[.string x] w1 fun e w' => e = .returned (.tuple #[.agg #[.int .i64 (parseR x).1.id, .string (parseR x).1.name, .int .i64 (parseR x).1.rank, .bool (parseR x).1.sec, .bool (parseR x).1.deb, .bool (parseR x).1.am, .int .i64 (parseR x).1.need], .bool (parseR x).2]) ∧ Below w1.heap.size w1 w') := fun x w1 hx hb => implParseRule_d x w1 (by unfold maxLen; omega) hx (hd0.below hb)
  have HS := Lib.hid (split_at s 10 w hs hd0.2.1)
  have HT : Hid (∀ A c L w1, L.length ≤ 8 → Rd w1 A (rulCells L) → (∀ r ∈ L, rulOk r = true) → Below w.heap.size w w1 → Calls Tryd.prog 37 #[.slice A L.length c] w1 fun e w' => e = .returned (.string ⟨(textL L).toArray⟩) ∧ Below w1.heap.size w1 w') := fun A c L w1 h1 h2 h3 hb => rulesText_any A c L w1 h1 h2 h3 (hd0.below hb).1
  clear hd0
  generalize splitL s 10 = X at *
  go_enter Tryd.func21, Tryd.ntmps21
  go_wp2_with fail
  refine HS.out.mono ?_
  rintro e w1 ⟨rfl, rfl⟩
  have hb1 : Below w.heap.size w (w.alloc (.cells (sCells X).toArray 9)) := bnew (Below.refl _ _) _
  have hcell : ∀ j (hj : j < X.length), (w.alloc (.cells (sCells X).toArray 9)).cell? ⟨w.heap.size, j, none⟩ = some (.string X[j]) := fun j hj => (World.cell?_alloc_at _ _ _ _ rfl).trans (by simp [sCells, hj])
  have HC := Lib.hid hcell
  clear hcell HS
  generalize w.alloc (.cells (sCells X).toArray 9) = w1 at *
  by_cases h9 : X.length ≤ 9
  rotate_left
  · have h9I : (9 : Int) < (X.length : Int) := by omega
    go_wp2
    exact bodyPost_ret (v := .tuple #[.slice none 0 0, .bool false]) (by simp [results, Tryd.results21, go_sem]) rfl ⟨[], false, none, 0, rfl, own_nil, lines_many HX.out (by omega), hb1⟩
  have h9I : ¬ (9 : Int) < (X.length : Int) := by omega
  have ho0 := own_lit (e := 27) (size := 7) (B := w.heap.size) (w := w1) #[] 0 hb1.size (by unfold maxLen; omega) rfl
  have hb0 := bnew hb1 (.cells #[] 27)
  have HC0 : Hid (∀ j (hj : j < X.length), (w1.alloc (.cells #[] 27)).cell? ⟨w.heap.size, j, none⟩ = some (.string X[j])) := fun j hj => cell_bw (HC.out j hj) (bnew (Below.refl _ _) _)
  obtain ⟨n, hn⟩ : ∃ n, X.length = n + 1 := ⟨X.length - 1, by omega⟩
  have hn1 : (X.length : Int) - 1 = (n : Int) := by omega
  have hnw : IntKind.i64.wrap ((X.length : Int) - 1) = (n : Int) := by rw [IntKind.wrap_i64]; omega
  have hnX : (n : Int) < (X.length : Int) := by omega
  have hnX2 : (n : Int) ≤ (X.length : Int) := by omega
  have Hn := Lib.hid hn
  clear hn
  have hne0 : some w.heap.size ≠ (Value.slice (some ⟨w1.heap.size, 0, none⟩) 0 0).ownBlock := by have : w.heap.size < w1.heap.size := World.block_lt_of_cell? _ _ (HC.out 0 hXp); simp [Value.ownBlock]; omega
  go_wp2_with fail
  generalize w1.alloc (.cells #[] 27) = w2 at *
  go_loopw [5, 22] (fun ov i wr => ∃ (k : Nat) (L : List Rul) (A' : Option Addr) (c' : Nat), k ≤ n ∧ Hid (L.length = k) ∧ i = .int .i64 k ∧ ov = .slice A' L.length c' ∧ Hid (LinesOf X L) ∧ wr.ownsRow w.heap.size 27 7 (.slice A' L.length c') L.length (rulCells L) ∧ some w.heap.size ≠ (Value.slice A' L.length c').ownBlock ∧ Hid (∀ j (hj : j < X.length), wr.cell? ⟨w.heap.size, j, none⟩ = some (.string X[j])) ∧ Below w.heap.size w wr) (fun _ i _ => n - (intOf i).toNat)
  case atStart => exact ⟨0, [], _, _, by omega, rfl, rfl, rfl, LinesOf.nil X, ho0, hne0, HC0, hb0⟩
  case round =>
    clear ho0 hb0 HC0 hne0
    obtain ⟨k, L, A', c', hk, HLk, rfl, rfl, HL, ho, hne, HCr, hb⟩ := hrel
    by_cases hlt : k < n
    · have hkI : (k : Int) < (n : Int) := by omega
      have hkX : k < X.length := by have := Hn.out; omega
      have cx := HCr.out k hkX
      have hxs : X[k].size ≤ 1048576 := Nat.le_trans (HSZ.out _ (List.getElem_mem _)) hs
      have hat := at_eq hkX
      have HP := Lib.hid (parseR_is X[k])
      have HOx := Lib.hid (fun w1 (hb : Below w.heap.size w w1) => HO.out X[k] w1 hxs hb)
      rw [← hat] at HP HOx cx
      clear hxs hat
      generalize hxe : at_ X k = x at *
      generalize hre : parseR x = R at *
      obtain ⟨r, b⟩ := R
      simp only at *
      go_wp2_with fail
      refine (HOx.out _ hb).mono ?_
      rintro e w3 ⟨rfl, hb3⟩
      have hbA := btr hb hb3
      have hoA := own_below ho hb3
      have hbB := bnew hbA (.cells #[.int .i64 r.id, .string r.name, .int .i64 r.rank, .bool r.sec, .bool r.deb, .bool r.am, .int .i64 r.need] 27)
      have hoB := own_below hoA (bnew (Below.refl w3.heap.size w3) (.cells #[.int .i64 r.id, .string r.name, .int .i64 r.rank, .bool r.sec, .bool r.deb, .bool r.am, .int .i64 r.need] 27))
      cases b with
      | false =>
        have HF : Hid (IsParseL s [] false) := lines_bad HX.out (k := k) (by have := Hn.out; omega) (by
          rcases HP.out with ⟨h, _⟩ | ⟨_, _, h⟩
          · cases h
          · rw [hxe]; exact h)
        clear HP HOx HCr HL
        go_wp2
        exact bodyPost_ret (v := .tuple #[.slice none 0 0, .bool false]) (by simp [results, Tryd.results21, go_sem]) rfl ⟨[], false, none, 0, rfl, own_nil, HF.out, hbB⟩
      | true =>
        have HG : Hid (rulOk r = true ∧ lineB r = x) := by
          rcases HP.out with ⟨_, h1, h2⟩ | ⟨h, _⟩
          · exact ⟨h1, h2⟩
          · cases h
        have HL2 : Hid (LinesOf X (L ++ [r])) := HL.out.snoc HG.out.1 (by rw [HG.out.2, HLk.out, hxe])
        have HC4 : Hid (∀ j (hj : j < X.length), (w3.alloc (.cells #[.int .i64 r.id, .string r.name, .int .i64 r.rank, .bool r.sec, .bool r.deb, .bool r.am, .int .i64 r.need] 27)).cell? ⟨w.heap.size, j, none⟩ = some (.string X[j])) := fun j hj => cell_bw (HCr.out j hj) (btr hb3 (bnew (Below.refl _ _) _))
        have z0 : (w3.alloc (.cells #[.int .i64 r.id, .string r.name, .int .i64 r.rank, .bool r.sec, .bool r.deb, .bool r.am, .int .i64 r.need] 27)).cell? ⟨w3.heap.size, 0, none⟩ = some (.int .i64 r.id) := (World.cell?_alloc_at _ _ _ _ rfl).trans rfl
        have z1 : (w3.alloc (.cells #[.int .i64 r.id, .string r.name, .int .i64 r.rank, .bool r.sec, .bool r.deb, .bool r.am, .int .i64 r.need] 27)).cell? ⟨w3.heap.size, 1, none⟩ = some (.string r.name) := (World.cell?_alloc_at _ _ _ _ rfl).trans rfl
        have z2 : (w3.alloc (.cells #[.int .i64 r.id, .string r.name, .int .i64 r.rank, .bool r.sec, .bool r.deb, .bool r.am, .int .i64 r.need] 27)).cell? ⟨w3.heap.size, 2, none⟩ = some (.int .i64 r.rank) := (World.cell?_alloc_at _ _ _ _ rfl).trans rfl
        have z3 : (w3.alloc (.cells #[.int .i64 r.id, .string r.name, .int .i64 r.rank, .bool r.sec, .bool r.deb, .bool r.am, .int .i64 r.need] 27)).cell? ⟨w3.heap.size, 3, none⟩ = some (.bool r.sec) := (World.cell?_alloc_at _ _ _ _ rfl).trans rfl
        have z4 : (w3.alloc (.cells #[.int .i64 r.id, .string r.name, .int .i64 r.rank, .bool r.sec, .bool r.deb, .bool r.am, .int .i64 r.need] 27)).cell? ⟨w3.heap.size, 4, none⟩ = some (.bool r.deb) := (World.cell?_alloc_at _ _ _ _ rfl).trans rfl
        have z5 : (w3.alloc (.cells #[.int .i64 r.id, .string r.name, .int .i64 r.rank, .bool r.sec, .bool r.deb, .bool r.am, .int .i64 r.need] 27)).cell? ⟨w3.heap.size, 5, none⟩ = some (.bool r.am) := (World.cell?_alloc_at _ _ _ _ rfl).trans rfl
        have z6 : (w3.alloc (.cells #[.int .i64 r.id, .string r.name, .int .i64 r.rank, .bool r.sec, .bool r.deb, .bool r.am, .int .i64 r.need] 27)).cell? ⟨w3.heap.size, 6, none⟩ = some (.int .i64 r.need) := (World.cell?_alloc_at _ _ _ _ rfl).trans rfl
        clear HP HOx HCr HL HG hoA
        have hoW := own_below hoB (bnew (Below.refl (w3.alloc (.cells #[.int .i64 r.id, .string r.name, .int .i64 r.rank, .bool r.sec, .bool r.deb, .bool r.am, .int .i64 r.need] 27)).heap.size (w3.alloc (.cells #[.int .i64 r.id, .string r.name, .int .i64 r.rank, .bool r.sec, .bool r.deb, .bool r.am, .int .i64 r.need] 27))) (.cells #[.int .i64 r.id, .string r.name, .int .i64 r.rank, .bool r.sec, .bool r.deb, .bool r.am, .int .i64 r.need] 27))
        have hbW := bnew hbB (.cells #[.int .i64 r.id, .string r.name, .int .i64 r.rank, .bool r.sec, .bool r.deb, .bool r.am, .int .i64 r.need] 27)
        have hrd : Rd ((w3.alloc (.cells #[.int .i64 r.id, .string r.name, .int .i64 r.rank, .bool r.sec, .bool r.deb, .bool r.am, .int .i64 r.need] 27)).alloc (.cells #[.int .i64 r.id, .string r.name, .int .i64 r.rank, .bool r.sec, .bool r.deb, .bool r.am, .int .i64 r.need] 27)) (some ⟨w3.heap.size + 1, 0, none⟩) [.int .i64 r.id, .string r.name, .int .i64 r.rank, .bool r.sec, .bool r.deb, .bool r.am, .int .i64 r.need] := by have := rd_new (w3.alloc (.cells #[.int .i64 r.id, .string r.name, .int .i64 r.rank, .bool r.sec, .bool r.deb, .bool r.am, .int .i64 r.need] 27)) #[.int .i64 r.id, .string r.name, .int .i64 r.rank, .bool r.sec, .bool r.deb, .bool r.am, .int .i64 r.need] 27; simpa using this
        have hszB : w.heap.size ≤ ((w3.alloc (.cells #[.int .i64 r.id, .string r.name, .int .i64 r.rank, .bool r.sec, .bool r.deb, .bool r.am, .int .i64 r.need] 27)).alloc (.cells #[.int .i64 r.id, .string r.name, .int .i64 r.rank, .bool r.sec, .bool r.deb, .bool r.am, .int .i64 r.need] 27)).heap.size := hbW.size
        have hL8 : L.length ≤ 1048577 := by have := HLk.out; omega
        go_wp2_with (at_builtin; refine wpl_app rfl (.tmp 33) (.tmp 35) 33 rfl el_Rul (v := .slice A' L.length c') rfl hoW rfl rfl hrd (by simp [Value.oneCell']) (by unfold maxLen; omega) (by omega) hszB ?_; intro A5 c5 w5 ho5 hg5 hd5)
        have hgl : w.heap.size < ((w3.alloc (.cells #[.int .i64 r.id, .string r.name, .int .i64 r.rank, .bool r.sec, .bool r.deb, .bool r.am, .int .i64 r.need] 27)).alloc (.cells #[.int .i64 r.id, .string r.name, .int .i64 r.rank, .bool r.sec, .bool r.deb, .bool r.am, .int .i64 r.need] 27)).heap.size := by
          have h1 := World.block_lt_of_cell? _ _ (HC4.out 0 hXp)
          have h2 := (bnew (Below.refl (w3.alloc (.cells #[.int .i64 r.id, .string r.name, .int .i64 r.rank, .bool r.sec, .bool r.deb, .bool r.am, .int .i64 r.need] 27)).heap.size (w3.alloc (.cells #[.int .i64 r.id, .string r.name, .int .i64 r.rank, .bool r.sec, .bool r.deb, .bool r.am, .int .i64 r.need] 27))) (.cells #[.int .i64 r.id, .string r.name, .int .i64 r.rank, .bool r.sec, .bool r.deb, .bool r.am, .int .i64 r.need] 27)).size
          exact Nat.lt_of_lt_of_le h1 h2
        have hne5 : some w.heap.size ≠ (Value.slice A5 (L.length + 1) c5).ownBlock := fun e => by
          rcases hd5 with h | h
          · exact hne (e.trans h)
          · have h9 := Option.some.inj (e.trans h); rw [h9] at hgl; exact absurd hgl (Nat.lt_irrefl _)
        have hb5 : Below w.heap.size w w5 := hbW.grown hg5 hbW.size (fun k hk => (hoW.lt k hk).1)
        have HC5 : Hid (∀ j (hj : j < X.length), w5.cell? ⟨w.heap.size, j, none⟩ = some (.string X[j])) := fun j hj => hg5.cell (cell_bw (HC4.out j hj) (bnew (Below.refl _ _) _)) hne
        go_roundw
        case rel => exact ⟨k + 1, L ++ [r], A5, c5, by omega, (by have := HLk.out; show (L ++ [r]).length = k + 1; simp; omega), by go_num, by simp, HL2, by (rw [rulCells_snoc]; simpa using ho5), by simpa using hne5, HC5, hb5⟩
        case measure => simp [intOf]; omega
    · have hkn : k = n := by omega
      have hkI : ¬ (k : Int) < (n : Int) := by omega
      have HE := Lib.hid (lines_end HX.out HL.out (by have := Hn.out; have := HLk.out; omega))
      have hLb : L.length ≤ 1048577 := by have := HLk.out; omega
      have hok := HL.out.ok
      have hle : L.length ≤ c' := by obtain ⟨_, _, e, h⟩ := own_form ho; cases e; exact h
      have Hv : Hid (∀ w1, Below wr.heap.size wr w1 → Calls Tryd.prog 29 #[.slice A' L.length c'] w1 fun e w' => e = .returned (.bool (goodRul L)) ∧ Below w1.heap.size w1 w') := fun w1 hb => isRules_any A' c' L w1 (by unfold maxLen; omega) hle ((own_rd ho).below hb) (fun y hy => by have := (word_size (rul_parts (hok y hy)).2.1).2; unfold maxLen; omega)
      have HTx : Hid (L.length ≤ 8 → ∀ w1, Below wr.heap.size wr w1 → Calls Tryd.prog 37 #[.slice A' L.length c'] w1 fun e w' => e = .returned (.string ⟨(textL L).toArray⟩) ∧ Below w1.heap.size w1 w') := fun h8 w1 hb1 => HT.out A' c' L w1 h8 ((own_rd ho).below hb1) hok (btr hb hb1)
      clear HL HCr HO HT hok hle
      cases hg : goodRul L with
      | false =>
        have HF : Hid (IsParseL s [] false) := HE.out.2 (fun h => by rw [hg] at h; cases h.1)
        rw [hg] at Hv
        clear HE HTx
        go_wp2_with fail
        refine (Hv.out _ (Below.refl _ _)).mono ?_
        rintro e w6 ⟨rfl, hb6⟩
        have hbE := btr hb hb6
        go_wp2
        exact bodyPost_ret (v := .tuple #[.slice none 0 0, .bool false]) (by simp [results, Tryd.results21, go_sem]) rfl ⟨[], false, none, 0, rfl, own_nil, HF.out, hbE⟩
      | true =>
        have h8 := (good_ok hg).2
        have HT2 := Lib.hid (HTx.out h8)
        have hxt : (⟨(textL L).toArray⟩ : ByteArray) = s ↔ textL L = s.data.toList := ⟨fun h => by rw [← h], fun h => of_list h.symm ▸ rfl⟩
        rw [hg] at Hv
        clear HTx
        generalize (⟨(textL L).toArray⟩ : ByteArray) = D at *
        by_cases hD : D = s
        · have HF : Hid (IsParseL s L true) := HE.out.1 hg (hxt.1 hD)
          subst hD
          clear HE hxt
          go_wp2_with fail
          refine (Hv.out _ (Below.refl _ _)).mono ?_
          rintro e w6 ⟨rfl, hb6⟩
          go_wp2_with fail
          refine (HT2.out _ hb6).mono ?_
          rintro e w7 ⟨rfl, hb7⟩
          have hb67 := btr hb6 hb7
          have ho7 := own_below ho hb67
          have hb70 := btr hb hb67
          go_wp2
          exact bodyPost_ret (v := .tuple #[.slice A' L.length c', .bool true]) (by simp [results, Tryd.results21, go_sem]) rfl (by first | exact ⟨L, true, A', c', rfl, ho7, HF.out, hb70⟩ | exact ⟨L, .inr ⟨A', c', rfl, ho7, HF.out, hb70⟩⟩)
        · have HF : Hid (IsParseL s [] false) := HE.out.2 (fun h => hD (hxt.2 h.2))
          have hl2 : (D.toList == s.toList) = false := ne_beq2 hD
          have hl3 : (D == s) = false := by rw [beq_toListBytes]; exact hl2
          clear HE hxt
          go_wp2_with fail
          refine (Hv.out _ (Below.refl _ _)).mono ?_
          rintro e w6 ⟨rfl, hb6⟩
          go_wp2_with fail
          refine (HT2.out _ hb6).mono ?_
          rintro e w7 ⟨rfl, hb7⟩
          have hbE := btr hb (btr hb6 hb7)
          go_wp2
          exact bodyPost_ret (v := .tuple #[.slice none 0 0, .bool false]) (by simp [results, Tryd.results21, go_sem]) rfl ⟨[], false, none, 0, rfl, own_nil, HF.out, hbE⟩
set_option maxHeartbeats 8000000 in
set_option maxRecDepth 100000 in
theorem specParseRules_any (s : ByteArray) (w : World) (hs : s.size ≤ 1048576) :
    Calls Tryd.prog 20 #[.string s] w fun e w' => ∃ (L : List Rul) (b : Bool) (A' : Option Addr) (c' : Nat), e = .returned (.tuple #[.slice A' L.length c', .bool b]) ∧ w'.ownsRow w.heap.size 27 7 (.slice A' L.length c') L.length (rulCells L) ∧ IsParseL s L b ∧ Below w.heap.size w w' := by
  have HX := Lib.hid (splitL_bl s 10)
  have HSZ : Hid (∀ x ∈ splitL s 10, x.size ≤ s.size) := splitL_sz s 10
  have hXp := splitL_pos s 10
  have hXM : (splitL s 10).length ≤ 1048577 := Nat.le_trans (splitL_len s 10) (by omega)
  have HO : Hid (∀ x w1, x.size ≤ 1048576 → Below w.heap.size w w1 → Calls Tryd.prog 38 #[.string x] w1 fun e w' => e = .returned (.tuple #[.agg #[.int .i64 (parseR x).1.id, .string (parseR x).1.name, .int .i64 (parseR x).1.rank, .bool (parseR x).1.sec, .bool (parseR x).1.deb, .bool (parseR x).1.am, .int .i64 (parseR x).1.need], .bool (parseR x).2]) ∧ Below w1.heap.size w1 w') := fun x w1 hx hb => l2Parse_d x w1 hx
  have HS : Hid (∀ w1, Calls Tryd.prog 43 #[.string s, .int .u8 10] w1 fun e w' => ∃ A' c', e = .returned (.slice A' (splitL s 10).length c') ∧ w'.ownsRow w1.heap.size 9 1 (.slice A' (splitL s 10).length c') (splitL s 10).length (sCells (splitL s 10)) ∧ Below w1.heap.size w1 w') := fun w1 => l1Split_any s 10 w1 hs
  have HT : Hid (∀ A c L w1, L.length ≤ 8 → Rd w1 A (rulCells L) → (∀ r ∈ L, rulOk r = true) → Below w.heap.size w w1 → Calls Tryd.prog 36 #[.slice A L.length c] w1 fun e w' => e = .returned (.string ⟨(textL L).toArray⟩) ∧ Below w1.heap.size w1 w') := fun A c L w1 h1 h2 h3 _ => l2Text_any A c L w1 h1 h2 h3
  generalize splitL s 10 = X at *
  go_enter Tryd.func20, Tryd.ntmps20
  go_wp2_with fail
  have hoE := own_lit (e := 27) (size := 7) (B := w.heap.size) (w := w) #[] 0 (Nat.le_refl _) (by unfold maxLen; omega) rfl
  have hbE := bnew (Below.refl w.heap.size w) (.cells #[] 27)
  have hwW : w.heap.size < (w.alloc (.cells #[] 27)).heap.size := by simp
  generalize w.alloc (.cells #[] 27) = W0 at *
  refine (HS.out W0).mono ?_
  rintro e w1 ⟨A1, cc, rfl, ho1, hb01⟩
  have hb1 := btr hbE hb01
  have hoE1 := own_below hoE hb01
  obtain ⟨gx, rfl, hgx0, HC⟩ : ∃ gx, A1 = some ⟨gx, 0, none⟩ ∧ w.heap.size < gx ∧ Hid (∀ j (hj : j < X.length), w1.cell? ⟨gx, j, none⟩ = some (.string X[j])) := by
    obtain ⟨b, off, rfl, _⟩ := Rd.strs (own_rd ho1) hXp
    rcases ho1.2 with ⟨h2, _⟩ | ⟨g, cap, cur, hv, hg, hh, hc, _⟩
    · simp at h2
    · simp only [Value.slice.injEq, Option.some.injEq, Addr.mk.injEq, and_true, true_and] at hv
      obtain ⟨⟨rfl, rfl⟩, rfl⟩ := hv
      refine ⟨b, rfl, Nat.lt_of_lt_of_le hwW hg, fun j hj => ?_⟩
      obtain ⟨b', off', e', c0⟩ := Rd.strs (own_rd ho1) hj
      simp only [Option.some.injEq, Addr.mk.injEq, and_true] at e'
      obtain ⟨rfl, rfl⟩ := e'
      simpa using c0
  clear ho1 HS hb01 hoE hbE
  by_cases h7 : s.size ≤ 700
  rotate_left
  · have h7I : (700 : Int) < (s.size : Int) := by omega
    go_wp2
    exact bodyPost_ret (v := .tuple #[.slice (some ⟨w.heap.size, 0, none⟩) 0 0, .bool false]) (by simp [results, Tryd.results20, go_sem]) rfl ⟨[], false, _, _, rfl, hoE1, lines_long (by omega), hb1⟩
  have h7I : ¬ (700 : Int) < (s.size : Int) := by omega
  obtain ⟨n, hn⟩ : ∃ n, X.length = n + 1 := ⟨X.length - 1, by omega⟩
  have hn1 : (X.length : Int) - 1 = (n : Int) := by omega
  have hnw : IntKind.i64.wrap ((X.length : Int) - 1) = (n : Int) := by rw [IntKind.wrap_i64]; omega
  have hnX : (n : Int) < (X.length : Int) := by omega
  have hnX2 : (n : Int) ≤ (X.length : Int) := by omega
  have Hn := Lib.hid hn
  clear hn
  go_wp2_with fail
  have hne0 : some gx ≠ (Value.slice (some ⟨w.heap.size, 0, none⟩) 0 0).ownBlock := by simp [Value.ownBlock]; omega
  have ho0 := hoE1
  have hb0 := hb1
  have HC0 := HC
  generalize w1 = w2 at *
  go_loopw [4, 6] (fun ov i wr => ∃ (k : Nat) (L : List Rul) (A' : Option Addr) (c' : Nat), k ≤ n ∧ Hid (L.length = k) ∧ i = .int .i64 k ∧ ov = .slice A' L.length c' ∧ Hid (LinesOf X L) ∧ wr.ownsRow w.heap.size 27 7 (.slice A' L.length c') L.length (rulCells L) ∧ some gx ≠ (Value.slice A' L.length c').ownBlock ∧ Hid (∀ j (hj : j < X.length), wr.cell? ⟨gx, j, none⟩ = some (.string X[j])) ∧ Below w.heap.size w wr) (fun _ i _ => n - (intOf i).toNat)
  case atStart => exact ⟨0, [], _, _, by omega, rfl, rfl, rfl, LinesOf.nil X, ho0, hne0, HC0, hb0⟩
  case round =>
    clear ho0 hb0 HC0 hne0
    obtain ⟨k, L, A', c', hk, HLk, rfl, rfl, HL, ho, hne, HCr, hb⟩ := hrel
    by_cases hlt : k < n
    · have hkI : (k : Int) < (n : Int) := by omega
      have hkX : k < X.length := by have := Hn.out; omega
      have cx := HCr.out k hkX
      have hxs : X[k].size ≤ 1048576 := Nat.le_trans (HSZ.out _ (List.getElem_mem _)) hs
      have hat := at_eq hkX
      have HP := Lib.hid (parseR_is X[k])
      have HOx := Lib.hid (fun w1 (hb : Below w.heap.size w w1) => HO.out X[k] w1 hxs hb)
      rw [← hat] at HP HOx cx
      clear hxs hat
      generalize hxe : at_ X k = x at *
      generalize hre : parseR x = R at *
      obtain ⟨r, b⟩ := R
      simp only at *
      go_wp2_with fail
      refine (HOx.out _ hb).mono ?_
      rintro e w3 ⟨rfl, hb3⟩
      have hbA := btr hb hb3
      have hoA := own_below ho hb3
      have hbB := bnew hbA (.cells #[.int .i64 r.id, .string r.name, .int .i64 r.rank, .bool r.sec, .bool r.deb, .bool r.am, .int .i64 r.need] 27)
      have hoB := own_below hoA (bnew (Below.refl w3.heap.size w3) (.cells #[.int .i64 r.id, .string r.name, .int .i64 r.rank, .bool r.sec, .bool r.deb, .bool r.am, .int .i64 r.need] 27))
      cases b with
      | false =>
        have HF : Hid (IsParseL s [] false) := lines_bad HX.out (k := k) (by have := Hn.out; omega) (by
          rcases HP.out with ⟨h, _⟩ | ⟨_, _, h⟩
          · cases h
          · rw [hxe]; exact h)
        clear HP HOx HCr HL
        have hoF := own_lit (e := 27) (size := 7) (B := w.heap.size) (w := (w3.alloc (.cells #[.int .i64 r.id, .string r.name, .int .i64 r.rank, .bool r.sec, .bool r.deb, .bool r.am, .int .i64 r.need] 27))) #[] 0 (hbB).size (by unfold maxLen; omega) rfl
        have hbF := bnew (hbB) (.cells #[] 27)
        go_wp2
        exact bodyPost_ret (v := .tuple #[.slice (some ⟨(w3.alloc (.cells #[.int .i64 r.id, .string r.name, .int .i64 r.rank, .bool r.sec, .bool r.deb, .bool r.am, .int .i64 r.need] 27)).heap.size, 0, none⟩) 0 0, .bool false]) (by simp [results, Tryd.results20, go_sem]) rfl (by first | exact ⟨[], false, _, _, rfl, hoF, HF.out, hbF⟩ | exact ⟨[], .inl ⟨_, _, rfl, hoF, HF.out, hbF⟩⟩)
      | true =>
        have HG : Hid (rulOk r = true ∧ lineB r = x) := by
          rcases HP.out with ⟨_, h1, h2⟩ | ⟨h, _⟩
          · exact ⟨h1, h2⟩
          · cases h
        have HL2 : Hid (LinesOf X (L ++ [r])) := HL.out.snoc HG.out.1 (by rw [HG.out.2, HLk.out, hxe])
        have HC4 : Hid (∀ j (hj : j < X.length), (w3.alloc (.cells #[.int .i64 r.id, .string r.name, .int .i64 r.rank, .bool r.sec, .bool r.deb, .bool r.am, .int .i64 r.need] 27)).cell? ⟨gx, j, none⟩ = some (.string X[j])) := fun j hj => cell_bw (HCr.out j hj) (btr hb3 (bnew (Below.refl _ _) _))
        have z0 : (w3.alloc (.cells #[.int .i64 r.id, .string r.name, .int .i64 r.rank, .bool r.sec, .bool r.deb, .bool r.am, .int .i64 r.need] 27)).cell? ⟨w3.heap.size, 0, none⟩ = some (.int .i64 r.id) := (World.cell?_alloc_at _ _ _ _ rfl).trans rfl
        have z1 : (w3.alloc (.cells #[.int .i64 r.id, .string r.name, .int .i64 r.rank, .bool r.sec, .bool r.deb, .bool r.am, .int .i64 r.need] 27)).cell? ⟨w3.heap.size, 1, none⟩ = some (.string r.name) := (World.cell?_alloc_at _ _ _ _ rfl).trans rfl
        have z2 : (w3.alloc (.cells #[.int .i64 r.id, .string r.name, .int .i64 r.rank, .bool r.sec, .bool r.deb, .bool r.am, .int .i64 r.need] 27)).cell? ⟨w3.heap.size, 2, none⟩ = some (.int .i64 r.rank) := (World.cell?_alloc_at _ _ _ _ rfl).trans rfl
        have z3 : (w3.alloc (.cells #[.int .i64 r.id, .string r.name, .int .i64 r.rank, .bool r.sec, .bool r.deb, .bool r.am, .int .i64 r.need] 27)).cell? ⟨w3.heap.size, 3, none⟩ = some (.bool r.sec) := (World.cell?_alloc_at _ _ _ _ rfl).trans rfl
        have z4 : (w3.alloc (.cells #[.int .i64 r.id, .string r.name, .int .i64 r.rank, .bool r.sec, .bool r.deb, .bool r.am, .int .i64 r.need] 27)).cell? ⟨w3.heap.size, 4, none⟩ = some (.bool r.deb) := (World.cell?_alloc_at _ _ _ _ rfl).trans rfl
        have z5 : (w3.alloc (.cells #[.int .i64 r.id, .string r.name, .int .i64 r.rank, .bool r.sec, .bool r.deb, .bool r.am, .int .i64 r.need] 27)).cell? ⟨w3.heap.size, 5, none⟩ = some (.bool r.am) := (World.cell?_alloc_at _ _ _ _ rfl).trans rfl
        have z6 : (w3.alloc (.cells #[.int .i64 r.id, .string r.name, .int .i64 r.rank, .bool r.sec, .bool r.deb, .bool r.am, .int .i64 r.need] 27)).cell? ⟨w3.heap.size, 6, none⟩ = some (.int .i64 r.need) := (World.cell?_alloc_at _ _ _ _ rfl).trans rfl
        clear HP HOx HCr HL HG hoA
        have hoW := own_below hoB (bnew (Below.refl (w3.alloc (.cells #[.int .i64 r.id, .string r.name, .int .i64 r.rank, .bool r.sec, .bool r.deb, .bool r.am, .int .i64 r.need] 27)).heap.size (w3.alloc (.cells #[.int .i64 r.id, .string r.name, .int .i64 r.rank, .bool r.sec, .bool r.deb, .bool r.am, .int .i64 r.need] 27))) (.cells #[.int .i64 r.id, .string r.name, .int .i64 r.rank, .bool r.sec, .bool r.deb, .bool r.am, .int .i64 r.need] 27))
        have hbW := bnew hbB (.cells #[.int .i64 r.id, .string r.name, .int .i64 r.rank, .bool r.sec, .bool r.deb, .bool r.am, .int .i64 r.need] 27)
        have hrd : Rd ((w3.alloc (.cells #[.int .i64 r.id, .string r.name, .int .i64 r.rank, .bool r.sec, .bool r.deb, .bool r.am, .int .i64 r.need] 27)).alloc (.cells #[.int .i64 r.id, .string r.name, .int .i64 r.rank, .bool r.sec, .bool r.deb, .bool r.am, .int .i64 r.need] 27)) (some ⟨w3.heap.size + 1, 0, none⟩) [.int .i64 r.id, .string r.name, .int .i64 r.rank, .bool r.sec, .bool r.deb, .bool r.am, .int .i64 r.need] := by have := rd_new (w3.alloc (.cells #[.int .i64 r.id, .string r.name, .int .i64 r.rank, .bool r.sec, .bool r.deb, .bool r.am, .int .i64 r.need] 27)) #[.int .i64 r.id, .string r.name, .int .i64 r.rank, .bool r.sec, .bool r.deb, .bool r.am, .int .i64 r.need] 27; simpa using this
        have hszB : w.heap.size ≤ ((w3.alloc (.cells #[.int .i64 r.id, .string r.name, .int .i64 r.rank, .bool r.sec, .bool r.deb, .bool r.am, .int .i64 r.need] 27)).alloc (.cells #[.int .i64 r.id, .string r.name, .int .i64 r.rank, .bool r.sec, .bool r.deb, .bool r.am, .int .i64 r.need] 27)).heap.size := hbW.size
        have hL8 : L.length ≤ 1048577 := by have := HLk.out; omega
        go_wp2_with (at_builtin; refine wpl_app rfl (.tmp 34) (.tmp 36) 33 rfl el_Rul (v := .slice A' L.length c') rfl hoW rfl rfl hrd (by simp [Value.oneCell']) (by unfold maxLen; omega) (by omega) hszB ?_; intro A5 c5 w5 ho5 hg5 hd5)
        have hgl : gx < ((w3.alloc (.cells #[.int .i64 r.id, .string r.name, .int .i64 r.rank, .bool r.sec, .bool r.deb, .bool r.am, .int .i64 r.need] 27)).alloc (.cells #[.int .i64 r.id, .string r.name, .int .i64 r.rank, .bool r.sec, .bool r.deb, .bool r.am, .int .i64 r.need] 27)).heap.size := by
          have h1 := World.block_lt_of_cell? _ _ (HC4.out 0 hXp)
          have h2 := (bnew (Below.refl (w3.alloc (.cells #[.int .i64 r.id, .string r.name, .int .i64 r.rank, .bool r.sec, .bool r.deb, .bool r.am, .int .i64 r.need] 27)).heap.size (w3.alloc (.cells #[.int .i64 r.id, .string r.name, .int .i64 r.rank, .bool r.sec, .bool r.deb, .bool r.am, .int .i64 r.need] 27))) (.cells #[.int .i64 r.id, .string r.name, .int .i64 r.rank, .bool r.sec, .bool r.deb, .bool r.am, .int .i64 r.need] 27)).size
          exact Nat.lt_of_lt_of_le h1 h2
        have hne5 : some gx ≠ (Value.slice A5 (L.length + 1) c5).ownBlock := fun e => by
          rcases hd5 with h | h
          · exact hne (e.trans h)
          · have h9 := Option.some.inj (e.trans h); rw [h9] at hgl; exact absurd hgl (Nat.lt_irrefl _)
        have hb5 : Below w.heap.size w w5 := hbW.grown hg5 hbW.size (fun k hk => (hoW.lt k hk).1)
        have HC5 : Hid (∀ j (hj : j < X.length), w5.cell? ⟨gx, j, none⟩ = some (.string X[j])) := fun j hj => hg5.cell (cell_bw (HC4.out j hj) (bnew (Below.refl _ _) _)) hne
        go_roundw
        case rel => exact ⟨k + 1, L ++ [r], A5, c5, by omega, (by have := HLk.out; show (L ++ [r]).length = k + 1; simp; omega), by go_num, by simp, HL2, by (rw [rulCells_snoc]; simpa using ho5), by simpa using hne5, HC5, hb5⟩
        case measure => simp [intOf]; omega
    · have hkn : k = n := by omega
      have hkI : ¬ (k : Int) < (n : Int) := by omega
      have HE := Lib.hid (lines_end HX.out HL.out (by have := Hn.out; have := HLk.out; omega))
      have hLb : L.length ≤ 1048577 := by have := HLk.out; omega
      have hok := HL.out.ok
      have hle : L.length ≤ c' := by obtain ⟨_, _, e, h⟩ := own_form ho; cases e; exact h
      have Hv : Hid (∀ w1, Below wr.heap.size wr w1 → Calls Tryd.prog 35 #[.slice A' L.length c'] w1 fun e w' => e = .returned (.bool (goodRul L)) ∧ Below w1.heap.size w1 w') := fun w1 hb => l2Good_any A' c' L w1 (by unfold maxLen; omega) hle ((own_rd ho).below hb) (fun y hy => by have := (word_size (rul_parts (hok y hy)).2.1).2; unfold maxLen; omega)
      have HTx : Hid (L.length ≤ 8 → ∀ w1, Below wr.heap.size wr w1 → Calls Tryd.prog 36 #[.slice A' L.length c'] w1 fun e w' => e = .returned (.string ⟨(textL L).toArray⟩) ∧ Below w1.heap.size w1 w') := fun h8 w1 hb1 => HT.out A' c' L w1 h8 ((own_rd ho).below hb1) hok (btr hb hb1)
      clear HL HCr HO HT hok hle
      cases hg : goodRul L with
      | false =>
        have HF : Hid (IsParseL s [] false) := HE.out.2 (fun h => by rw [hg] at h; cases h.1)
        rw [hg] at Hv
        clear HE HTx
        go_wp2_with fail
        refine (Hv.out _ (Below.refl _ _)).mono ?_
        rintro e w6 ⟨rfl, hb6⟩
        have hbE := btr hb hb6
        have hoF := own_lit (e := 27) (size := 7) (B := w.heap.size) (w := w6) #[] 0 (hbE).size (by unfold maxLen; omega) rfl
        have hbF := bnew (hbE) (.cells #[] 27)
        go_wp2
        exact bodyPost_ret (v := .tuple #[.slice (some ⟨w6.heap.size, 0, none⟩) 0 0, .bool false]) (by simp [results, Tryd.results20, go_sem]) rfl (by first | exact ⟨[], false, _, _, rfl, hoF, HF.out, hbF⟩ | exact ⟨[], .inl ⟨_, _, rfl, hoF, HF.out, hbF⟩⟩)
      | true =>
        have h8 := (good_ok hg).2
        have HT2 := Lib.hid (HTx.out h8)
        have hxt : (⟨(textL L).toArray⟩ : ByteArray) = s ↔ textL L = s.data.toList := ⟨fun h => by rw [← h], fun h => of_list h.symm ▸ rfl⟩
        rw [hg] at Hv
        clear HTx
        generalize (⟨(textL L).toArray⟩ : ByteArray) = D at *
        by_cases hD : D = s
        · have HF : Hid (IsParseL s L true) := HE.out.1 hg (hxt.1 hD)
          subst hD
          clear HE hxt
          go_wp2_with fail
          refine (Hv.out _ (Below.refl _ _)).mono ?_
          rintro e w6 ⟨rfl, hb6⟩
          go_wp2_with fail
          refine (HT2.out _ hb6).mono ?_
          rintro e w7 ⟨rfl, hb7⟩
          have hb67 := btr hb6 hb7
          have ho7 := own_below ho hb67
          have hb70 := btr hb hb67
          go_wp2
          exact bodyPost_ret (v := .tuple #[.slice A' L.length c', .bool true]) (by simp [results, Tryd.results20, go_sem]) rfl (by first | exact ⟨L, true, A', c', rfl, ho7, HF.out, hb70⟩ | exact ⟨L, .inr ⟨A', c', rfl, ho7, HF.out, hb70⟩⟩)
        · have HF : Hid (IsParseL s [] false) := HE.out.2 (fun h => hD (hxt.2 h.2))
          have hl2 : (D.toList == s.toList) = false := ne_beq2 hD
          have hl3 : (D == s) = false := by rw [beq_toListBytes]; exact hl2
          clear HE hxt
          go_wp2_with fail
          refine (Hv.out _ (Below.refl _ _)).mono ?_
          rintro e w6 ⟨rfl, hb6⟩
          go_wp2_with fail
          refine (HT2.out _ hb6).mono ?_
          rintro e w7 ⟨rfl, hb7⟩
          have hbE := btr hb (btr hb6 hb7)
          have hoF := own_lit (e := 27) (size := 7) (B := w.heap.size) (w := w7) #[] 0 (hbE).size (by unfold maxLen; omega) rfl
          have hbF := bnew (hbE) (.cells #[] 27)
          go_wp2
          exact bodyPost_ret (v := .tuple #[.slice (some ⟨w7.heap.size, 0, none⟩) 0 0, .bool false]) (by simp [results, Tryd.results20, go_sem]) rfl (by first | exact ⟨[], false, _, _, rfl, hoF, HF.out, hbF⟩ | exact ⟨[], .inl ⟨_, _, rfl, hoF, HF.out, hbF⟩⟩)
end Go.Proofs.YtfaphackdhdcaaaDoor
