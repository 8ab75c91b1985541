/-
  ParseRule: the answers of both texts as one function. Conditions: the listed variables are as laid.
-/
import Derived.Test.YtfaphackdhdcaaaDoorRulPar
namespace Go.My
open Go.RowKit
/-- What ParseRule answers. -/
def parseR (s : ByteArray) : Rul × Bool := let X := splitL s 32; if (6 ≤ X.length ∧ X.length ≤ 9) ∧ (readR (at_ X 0)).2 = true ∧ (readR (at_ X 3)).2 = true ∧ rulOk (ruleI X) = true ∧ lineB (ruleI X) = s then (ruleI X, true) else (rul0, false)
theorem parseR_is (s : ByteArray) : IsParse s (parseR s).1 (parseR s).2 := by
  unfold parseR
  simp only
  split
  · rename_i h
    exact .inl ⟨rfl, h.2.2.2.1, h.2.2.2.2⟩
  · rename_i h
    refine .inr ⟨rfl, rfl, fun r' h1 h2 => h ?_⟩
    have := parse_all h1 ((splitL_bl s 32).trans (by rw [← h2]; exact words_split (rul_parts h1).2.1))
    exact ⟨this.1, this.2.1, this.2.2.1, by rw [this.2.2.2.1]; exact h1, by rw [this.2.2.2.1]; exact h2⟩
theorem parseR_of {s : ByteArray} {r : Rul} {b : Bool} (h : IsParse s r b) : parseR s = (r, b) := by
  obtain ⟨h1, h2⟩ := (parseR_is s).unique h
  exact Prod.ext h1 h2
theorem parseR_name (s : ByteArray) : (parseR s).1.name.size ≤ 10 := by
  rcases parseR_is s with ⟨_, h, _⟩ | ⟨_, h, _⟩
  · exact (word_size (rul_parts h).2.1).2
  · rw [h]; exact Nat.zero_le _
end Go.My
namespace Go.Proofs.YtfaphackdhdcaaaDoor
open Go.RowKit Go.My
/-- What the program's texts read: the words for needs, a bound of the library's, its error for a bad syntax, its powers of ten. -/
def ParDoor (w : World) : Prop := NeedAt w 0 ∧ MaxAt w 1 ∧ SynIs w ∧ Lib.TabIs Tryd.prog w "internal/strconv.uint64pow10" .u64 Lib.pow10Tab
theorem ParDoor.below {w w' : World} (h : ParDoor w) (hb : Below w.heap.size w w') : ParDoor w' := ⟨h.1.below hb, h.2.1.below hb, h.2.2.1.below hb, tab_below h.2.2.2 hb⟩
theorem implParseRule_d (s : ByteArray) (w : World) (_ : s.size ≤ maxLen) (hs : s.size ≤ 1048576) (hd : ParDoor w) :
    Calls Tryd.prog 18 #[.string s] w fun e w' => e = .returned (.tuple #[.agg #[.int .i64 (parseR s).1.id, .string (parseR s).1.name, .int .i64 (parseR s).1.rank, .bool (parseR s).1.sec, .bool (parseR s).1.deb, .bool (parseR s).1.am, .int .i64 (parseR s).1.need], .bool (parseR s).2]) ∧ Below w.heap.size w w' :=
  (implParseRule_any s w hs hd.1 hd.2.1 hd.2.2.1 hd.2.2.2).mono fun e w' h => by
    obtain ⟨r, b, he, hp, hb⟩ := h
    rw [parseR_of hp]
    exact ⟨he, hb⟩
theorem l2Parse_d (s : ByteArray) (w : World) (hs : s.size ≤ 1048576) :
    Calls Tryd.prog 38 #[.string s] w fun e w' => e = .returned (.tuple #[.agg #[.int .i64 (parseR s).1.id, .string (parseR s).1.name, .int .i64 (parseR s).1.rank, .bool (parseR s).1.sec, .bool (parseR s).1.deb, .bool (parseR s).1.am, .int .i64 (parseR s).1.need], .bool (parseR s).2]) ∧ Below w.heap.size w w' :=
  (l2Parse_any s w hs).mono fun e w' h => by
    obtain ⟨r, b, he, hp, hb⟩ := h
    rw [parseR_of hp]
    exact ⟨he, hb⟩
theorem specParseRule_d (s : ByteArray) (w : World) (_ : s.size ≤ maxLen) (hs : s.size ≤ 1048576) :
    Calls Tryd.prog 17 #[.string s] w fun e w' => e = .returned (.tuple #[.agg #[.int .i64 (parseR s).1.id, .string (parseR s).1.name, .int .i64 (parseR s).1.rank, .bool (parseR s).1.sec, .bool (parseR s).1.deb, .bool (parseR s).1.am, .int .i64 (parseR s).1.need], .bool (parseR s).2]) ∧ Below w.heap.size w w' := by
  have H1 : Hid (∀ w1, Calls Tryd.prog 38 #[.string s] w1 fun e w' => e = .returned (.tuple #[.agg #[.int .i64 (parseR s).1.id, .string (parseR s).1.name, .int .i64 (parseR s).1.rank, .bool (parseR s).1.sec, .bool (parseR s).1.deb, .bool (parseR s).1.am, .int .i64 (parseR s).1.need], .bool (parseR s).2]) ∧ Below w1.heap.size w1 w') := fun w1 => l2Parse_d s w1 hs
  generalize parseR s = R at *
  obtain ⟨⟨i, n, k, f1, f2, f3, d⟩, b⟩ := R
  go_enter Tryd.func17, Tryd.ntmps17
  go_wp2_with fail
  have hb0 : Below w.heap.size w (w.alloc (.cells #[.int .i64 0, .string ⟨#[]⟩, .int .i64 0, .bool false, .bool false, .bool false, .int .i64 0] 27)) := bnew (Below.refl _ _) _
  have B0 : Blk (w.alloc (.cells #[.int .i64 0, .string ⟨#[]⟩, .int .i64 0, .bool false, .bool false, .bool false, .int .i64 0] 27)) w.heap.size 27 [.int .i64 0, .string ⟨#[]⟩, .int .i64 0, .bool false, .bool false, .bool false, .int .i64 0] := blk_new w #[.int .i64 0, .string ⟨#[]⟩, .int .i64 0, .bool false, .bool false, .bool false, .int .i64 0] 27
  generalize w.alloc (.cells #[.int .i64 0, .string ⟨#[]⟩, .int .i64 0, .bool false, .bool false, .bool false, .int .i64 0] 27) = W0 at *
  refine (H1.out W0).mono ?_
  rintro e w1 ⟨rfl, hb01⟩
  have hb1 := btr hb0 hb01
  replace B0 := B0.below hb01
  have g0 := B0.cell (j := 0) rfl
  have z0 := B0.frozen 0
  have g1 := B0.cell (j := 1) rfl
  have z1 := B0.frozen 1
  have g2 := B0.cell (j := 2) rfl
  have z2 := B0.frozen 2
  have g3 := B0.cell (j := 3) rfl
  have z3 := B0.frozen 3
  have g4 := B0.cell (j := 4) rfl
  have z4 := B0.frozen 4
  have g5 := B0.cell (j := 5) rfl
  have z5 := B0.frozen 5
  have g6 := B0.cell (j := 6) rfl
  have z6 := B0.frozen 6
  go_wp2
  exact bodyPost_ret (v := .tuple #[.agg #[.int .i64 i, .string n, .int .i64 k, .bool f1, .bool f2, .bool f3, .int .i64 d], .bool b]) (by simp [results, Tryd.results17, go_sem, g0, g1, g2, g3, g4, g5, g6]) rfl ⟨rfl, (((((((hb1).setCell (Nat.le_refl _) _).setCell (Nat.le_refl _) _).setCell (Nat.le_refl _) _).setCell (Nat.le_refl _) _).setCell (Nat.le_refl _) _).setCell (Nat.le_refl _) _).setCell (Nat.le_refl _) _⟩
end Go.Proofs.YtfaphackdhdcaaaDoor
