/-
  The text of a list of rules: plain laws and contracts of both texts. Conditions: the words for the needs are as listed.
-/
import Derived.Test.YtfaphackdhdcaaaDoorRulLin
namespace Go.My
open Go.RowKit
/-! ### The lines of a list of rules -/
def textL (xs : List Rul) : List UInt8 := xs.flatMap fun r => (lineB r).data.toList ++ [10]
theorem textL_cons (r : Rul) (xs : List Rul) : textL (r :: xs) = (lineB r).data.toList ++ 10 :: textL xs := by simp [textL]
theorem textL_snoc (xs : List Rul) (r : Rul) : textL (xs ++ [r]) = textL xs ++ (lineB r).data.toList ++ [10] := by simp [textL]
theorem itoa_no10 (n : Int) : (10 : UInt8) ∉ Lib.itoa n := by
  intro hm
  have h10 : (10 : UInt8).toNat = 10 := rfl
  unfold Lib.itoa at hm
  split at hm
  · rcases List.mem_cons.1 hm with h | h
    · exact absurd h (by decide)
    · have := dec_digit _ _ h; omega
  · have := dec_digit _ _ hm; omega
theorem line_no10 {r : Rul} (h : rulOk r = true) : (10 : UInt8) ∉ (lineB r).data.toList := by
  obtain ⟨hid, hw, hrk, hnd⟩ := rul_parts h
  have hn := word_no (b := 10) hw (by decide)
  have hneed : (10 : UInt8) ∉ (needW r.need).data.toList := by rcases hnd with h | h | h <;> rw [h] <;> decide
  have k1 : ∀ b w t, (10 : UInt8) ∉ w → (10 : UInt8) ∉ t.data.toList → (10 : UInt8) ∉ (flagB b w t).data.toList := by
    intro b w t hw ht; unfold flagB; split
    · rw [app_list]
      intro hm
      rcases List.mem_append.1 hm with hm | hm
      · exact ht hm
      · rcases List.mem_cons.1 hm with hm | hm
        · exact absurd hm (by decide)
        · exact hw hm
    · exact ht
  have hh : (10 : UInt8) ∉ (headB r).data.toList := by
    unfold headB
    simp only [app_list, List.mem_append, not_or]
    exact ⟨⟨⟨⟨itoa_no10 _, by decide⟩, hn⟩, by decide⟩, itoa_no10 _⟩
  unfold lineB
  simp only [app_list, List.mem_append, not_or]
  exact ⟨⟨k1 _ _ _ (by decide) (k1 _ _ _ (by decide) (k1 _ _ _ (by decide) hh)), by decide⟩, hneed⟩
theorem text_split : ∀ {xs : List Rul}, (∀ r ∈ xs, rulOk r = true) → splitU 10 (textL xs) = xs.map (fun r => (lineB r).data.toList) ++ [[]]
  | [], _ => rfl
  | r :: xs, h => by
    rw [textL_cons, splitU_cons (line_no10 (h r (by simp))), text_split (fun y hy => h y (by simp [hy]))]
    rfl
theorem text_at {s : ByteArray} {X : List ByteArray} {xs : List Rul} (hX : bl X = splitU 10 s.data.toList) (h : ∀ r ∈ xs, rulOk r = true) (ht : textL xs = s.data.toList) :
    X.length = xs.length + 1 ∧ ∀ i (hi : i < xs.length), at_ X i = lineB xs[i] := by
  rw [← ht, text_split h] at hX
  have hl : X.length = xs.length + 1 := by
    have := congrArg List.length hX
    simpa [bl] using this
  refine ⟨hl, fun i hi => ba_ext ?_⟩
  rw [bl_at hX i (by simp; omega), List.getElem_append_left (by simpa using hi), List.getElem_map]
/-- The rules that have been read off the first lines. -/
def LinesOf (X : List ByteArray) (L : List Rul) : Prop := ∀ i (h : i < L.length), rulOk L[i] = true ∧ lineB L[i] = at_ X i
theorem LinesOf.nil (X : List ByteArray) : LinesOf X [] := fun i h => by simp at h
theorem LinesOf.snoc {X : List ByteArray} {L : List Rul} {r : Rul} (h : LinesOf X L) (hr : rulOk r = true) (hl : lineB r = at_ X L.length) : LinesOf X (L ++ [r]) := by
  intro i hi
  by_cases h1 : i < L.length
  · rw [List.getElem_append_left h1]; exact h i h1
  · have : i = L.length := by simp at hi; omega
    subst this
    rw [List.getElem_append_right (Nat.le_refl _)]
    simp only [Nat.sub_self, List.getElem_singleton]
    exact ⟨hr, hl⟩
theorem LinesOf.eq {X : List ByteArray} {L xs : List Rul} (h : LinesOf X L) (hl : L.length = xs.length) (hx : ∀ r ∈ xs, rulOk r = true) (hat : ∀ i (hi : i < xs.length), at_ X i = lineB xs[i]) : L = xs := by
  refine List.ext_getElem hl fun i h1 h2 => ?_
  obtain ⟨a, b⟩ := h i h1
  exact line_inj a (hx _ (List.getElem_mem _)) (b.trans (hat i h2))
def IsParseL (s : ByteArray) (xs : List Rul) (b : Bool) : Prop := (b = true ∧ goodRul xs = true ∧ textL xs = s.data.toList) ∨ (b = false ∧ xs = [] ∧ ∀ ys, goodRul ys = true → textL ys ≠ s.data.toList)
theorem good_ok {xs : List Rul} (h : goodRul xs = true) : (∀ r ∈ xs, rulOk r = true) ∧ xs.length ≤ 8 := by
  simp only [goodRul, Bool.and_eq_true, decide_eq_true_eq] at h
  refine ⟨?_, h.2⟩
  have key : ∀ (pre xs : List Rul), goodPre rulFits pre xs = true → ∀ r ∈ xs, rulOk r = true := by
    intro pre xs
    induction xs generalizing pre with
    | nil => intro _ r hr; simp at hr
    | cons x xs ih =>
      intro h r hr
      simp only [goodPre, Bool.and_eq_true] at h
      rcases List.mem_cons.1 hr with rfl | hr
      · have := h.1
        simp only [rulFits, Bool.and_eq_true] at this
        exact this.1.1
      · exact ih _ h.2 r hr
  exact key [] xs h.1
theorem IsParseL.unique {s : ByteArray} {x y : List Rul} {b c : Bool} (h1 : IsParseL s x b) (h2 : IsParseL s y c) : x = y ∧ b = c := by
  have hX : bl ((splitU 10 s.data.toList).map fun l => (⟨l.toArray⟩ : ByteArray)) = splitU 10 s.data.toList := by simp [bl, Function.comp_def]
  rcases h1 with ⟨e1, k1, l1⟩ | ⟨e1, z1, n1⟩ <;> rcases h2 with ⟨e2, k2, l2⟩ | ⟨e2, z2, n2⟩
  · obtain ⟨a1, a2⟩ := text_at hX (good_ok k1).1 l1
    obtain ⟨b1, b2⟩ := text_at hX (good_ok k2).1 l2
    refine ⟨LinesOf.eq (X := _) (fun i hi => ⟨(good_ok k1).1 _ (List.getElem_mem _), (a2 i hi).symm⟩) (by omega) (good_ok k2).1 b2, e1.trans e2.symm⟩
  · exact absurd l1 (n2 _ k1)
  · exact absurd l2 (n1 _ k2)
  · exact ⟨z1.trans z2.symm, e1.trans e2.symm⟩
theorem textL_len {xs : List Rul} (h : ∀ r ∈ xs, rulOk r = true) : (textL xs).length ≤ 81 * xs.length := by
  induction xs with
  | nil => simp [textL]
  | cons r xs ih =>
    rw [textL_cons]
    have h1 := line_size (h r (by simp))
    have h2 := ih (fun y hy => h y (by simp [hy]))
    have h3 : (lineB r).data.toList.length = (lineB r).size := by simp
    simp only [List.length_append, List.length_cons]
    omega
/-- What RulesText answers. -/
def textR (xs : List Rul) : ByteArray × Bool := if goodRul xs = true then (⟨(textL xs).toArray⟩, true) else (⟨#[]⟩, false)
theorem textL_take {xs : List Rul} {k : Nat} (hk : k < xs.length) : textL (xs.take (k + 1)) = textL (xs.take k) ++ (lineB xs[k]).data.toList ++ [10] := by
  rw [List.take_succ_eq_append_getElem hk, textL_snoc]
theorem of_list {a : ByteArray} {l : List UInt8} (h : a.data.toList = l) : a = ⟨l.toArray⟩ := by subst h; rfl
end Go.My
namespace Go.Proofs.YtfaphackdhdcaaaDoor
open Go.RowKit Go.My
set_option maxHeartbeats 2000000 in
theorem rulesText_any (A : Option Addr) (c : Nat) (xs : List Rul) (w : World) (hn : xs.length ≤ 8) (hx : Rd w A (rulCells xs)) (hok : ∀ s ∈ xs, rulOk s = true) (hneed0 : NeedAt w 0) :
    Calls Tryd.prog 37 #[.slice A xs.length c] w fun e w' => e = .returned (.string ⟨(textL xs).toArray⟩) ∧ Below w.heap.size w w' := by
  have hnI : (xs.length : Int) ≤ 8 := by omega
  go_enter Tryd.func37, Tryd.ntmps37
  go_wp2
  go_loopw [3, 8] (fun t i wr => ∃ (k : Nat) (T : ByteArray), k ≤ xs.length ∧ i = .int .i64 k ∧ t = .string T ∧ T.size ≤ 81 * k ∧ Hid (T.data.toList = textL (xs.take k)) ∧ Below w.heap.size w wr) (fun _ i _ => xs.length - (intOf i).toNat)
  case atStart => exact ⟨0, ⟨#[]⟩, by omega, rfl, rfl, Nat.le_refl _, rfl, Below.refl _ _⟩
  case round =>
    obtain ⟨k, T, hk, rfl, rfl, hT, H, hb⟩ := hrel
    have hT1 : T.size ≤ 1000 := by omega
    by_cases hlt : k < xs.length
    · obtain ⟨b, off, rfl, c0, c1, c2, c3, c4, c5, c6⟩ := Rd.rul (hx.below hb) hlt
      have hkI : (k : Int) < (xs.length : Int) := by omega
      have hos := hok xs[k] (List.getElem_mem _)
      have Hn := Lib.hid (textL_take hlt)
      have hL := line_size hos
      generalize xs[k] = s at *
      have HL : Hid (∀ w1, Below w.heap.size w w1 → Calls Tryd.prog 34 #[.agg #[.int .i64 s.id, .string s.name, .int .i64 s.rank, .bool s.sec, .bool s.deb, .bool s.am, .int .i64 s.need]] w1 fun e w' => e = .returned (.string (lineB s)) ∧ Below w1.heap.size w1 w') := fun w1 hb => ruleLine_any s w1 hos (hneed0.below hb)
      generalize lineB s = L at *
      have Hnew : Hid ((T ++ (L ++ ⟨#[10]⟩)).data.toList = textL (xs.take (k + 1))) := by show _ = _; rw [Hn.out, ← H.out]; simp
      have Hsz : Hid ((T ++ (L ++ ⟨#[10]⟩)).size ≤ 81 * (k + 1)) := by show _ ≤ _; simp only [ByteArray.size_append]; have : (⟨#[10]⟩ : ByteArray).size = 1 := rfl; omega
      have hr1 : ∀ w, (Op.stringOp .add L ⟨#[10]⟩).run Tryd.prog w = .ok (.string (L ++ ⟨#[10]⟩)) w := add_run 80 1 hL (by decide) (by decide)
      have hr2 : ∀ w, (Op.stringOp .add T (L ++ ⟨#[10]⟩)).run Tryd.prog w = .ok (.string (T ++ (L ++ ⟨#[10]⟩))) w := add_run 1000 81 (by omega) (app_le hL (show (⟨#[10]⟩ : ByteArray).size ≤ 1 by decide)) (by decide)
      clear Hn H hL hos hT hT1
      go_wp2_with fail
      have hbw := btr hb (bnew (Below.refl wr.heap.size wr) (.cells #[.int .i64 s.id, .string s.name, .int .i64 s.rank, .bool s.sec, .bool s.deb, .bool s.am, .int .i64 s.need] 27))
      have z0 : (wr.alloc (.cells #[.int .i64 s.id, .string s.name, .int .i64 s.rank, .bool s.sec, .bool s.deb, .bool s.am, .int .i64 s.need] 27)).cell? ⟨wr.heap.size, 0, none⟩ = some (.int .i64 s.id) := (World.cell?_alloc_at _ _ _ _ rfl).trans rfl
      have z1 : (wr.alloc (.cells #[.int .i64 s.id, .string s.name, .int .i64 s.rank, .bool s.sec, .bool s.deb, .bool s.am, .int .i64 s.need] 27)).cell? ⟨wr.heap.size, 1, none⟩ = some (.string s.name) := (World.cell?_alloc_at _ _ _ _ rfl).trans rfl
      have z2 : (wr.alloc (.cells #[.int .i64 s.id, .string s.name, .int .i64 s.rank, .bool s.sec, .bool s.deb, .bool s.am, .int .i64 s.need] 27)).cell? ⟨wr.heap.size, 2, none⟩ = some (.int .i64 s.rank) := (World.cell?_alloc_at _ _ _ _ rfl).trans rfl
      have z3 : (wr.alloc (.cells #[.int .i64 s.id, .string s.name, .int .i64 s.rank, .bool s.sec, .bool s.deb, .bool s.am, .int .i64 s.need] 27)).cell? ⟨wr.heap.size, 3, none⟩ = some (.bool s.sec) := (World.cell?_alloc_at _ _ _ _ rfl).trans rfl
      have z4 : (wr.alloc (.cells #[.int .i64 s.id, .string s.name, .int .i64 s.rank, .bool s.sec, .bool s.deb, .bool s.am, .int .i64 s.need] 27)).cell? ⟨wr.heap.size, 4, none⟩ = some (.bool s.deb) := (World.cell?_alloc_at _ _ _ _ rfl).trans rfl
      have z5 : (wr.alloc (.cells #[.int .i64 s.id, .string s.name, .int .i64 s.rank, .bool s.sec, .bool s.deb, .bool s.am, .int .i64 s.need] 27)).cell? ⟨wr.heap.size, 5, none⟩ = some (.bool s.am) := (World.cell?_alloc_at _ _ _ _ rfl).trans rfl
      have z6 : (wr.alloc (.cells #[.int .i64 s.id, .string s.name, .int .i64 s.rank, .bool s.sec, .bool s.deb, .bool s.am, .int .i64 s.need] 27)).cell? ⟨wr.heap.size, 6, none⟩ = some (.int .i64 s.need) := (World.cell?_alloc_at _ _ _ _ rfl).trans rfl
      clear c0 c1 c2 c3 c4 c5 c6
      generalize wr.alloc (.cells #[.int .i64 s.id, .string s.name, .int .i64 s.rank, .bool s.sec, .bool s.deb, .bool s.am, .int .i64 s.need] 27) = W0 at *
      refine (HL.out _ hbw).mono ?_
      rintro e w2 ⟨rfl, hb2⟩
      have hb3 := btr hbw hb2
      go_wp2
      go_roundw
      case rel => exact ⟨k + 1, _, by omega, by go_num, rfl, Hsz.out, Hnew, hb3⟩
      case measure => simp [intOf]; omega
    · have hkI : ¬ (k : Int) < (xs.length : Int) := by omega
      have HT : Hid (T = ⟨(textL xs).toArray⟩) := of_list (by have := H.out; rwa [List.take_of_length_le (by omega)] at this)
      clear H
      go_wp2
      go_ret
      exact ⟨by rw [← HT.out]; rfl, hb⟩
set_option maxHeartbeats 2000000 in
theorem l2Text_any (A : Option Addr) (c : Nat) (xs : List Rul) (w : World) (hn : xs.length ≤ 8) (hx : Rd w A (rulCells xs)) (hok : ∀ s ∈ xs, rulOk s = true) :
    Calls Tryd.prog 36 #[.slice A xs.length c] w fun e w' => e = .returned (.string ⟨(textL xs).toArray⟩) ∧ Below w.heap.size w w' := by
  have hnI : (xs.length : Int) ≤ 8 := by omega
  go_enter Tryd.func36, Tryd.ntmps36
  go_wp2
  go_loopw [3, 4] (fun t i wr => ∃ (k : Nat) (T : ByteArray), k ≤ xs.length ∧ i = .int .i64 k ∧ t = .string T ∧ T.size ≤ 81 * k ∧ Hid (T.data.toList = textL (xs.take k)) ∧ Below w.heap.size w wr) (fun _ i _ => xs.length - (intOf i).toNat)
  case atStart => exact ⟨0, ⟨#[]⟩, by omega, rfl, rfl, Nat.le_refl _, rfl, Below.refl _ _⟩
  case round =>
    obtain ⟨k, T, hk, rfl, rfl, hT, H, hb⟩ := hrel
    have hT1 : T.size ≤ 1000 := by omega
    by_cases hlt : k < xs.length
    · obtain ⟨b, off, rfl, c0, c1, c2, c3, c4, c5, c6⟩ := Rd.rul (hx.below hb) hlt
      have hkI : (k : Int) < (xs.length : Int) := by omega
      have hos := hok xs[k] (List.getElem_mem _)
      have Hn := Lib.hid (textL_take hlt)
      have hL := line_size hos
      generalize xs[k] = s at *
      have HL : Hid (∀ w1, Below w.heap.size w w1 → Calls Tryd.prog 33 #[.agg #[.int .i64 s.id, .string s.name, .int .i64 s.rank, .bool s.sec, .bool s.deb, .bool s.am, .int .i64 s.need]] w1 fun e w' => e = .returned (.string (lineB s)) ∧ Below w1.heap.size w1 w') := fun w1 _ => l2Line_any s w1 hos
      generalize lineB s = L at *
      have Hnew : Hid ((T ++ L ++ ⟨#[10]⟩).data.toList = textL (xs.take (k + 1))) := by show _ = _; rw [Hn.out, ← H.out]; simp
      have Hsz : Hid ((T ++ L ++ ⟨#[10]⟩).size ≤ 81 * (k + 1)) := by show _ ≤ _; simp only [ByteArray.size_append]; have : (⟨#[10]⟩ : ByteArray).size = 1 := rfl; omega
      have hr1 : ∀ w, (Op.stringOp .add T L).run Tryd.prog w = .ok (.string (T ++ L)) w := add_run 1000 80 (by omega) hL (by decide)
      have hr2 : ∀ w, (Op.stringOp .add (T ++ L) ⟨#[10]⟩).run Tryd.prog w = .ok (.string (T ++ L ++ ⟨#[10]⟩)) w := add_run 1080 1 (app_le (m := 1000) (n := 80) hT1 hL) (show (⟨#[10]⟩ : ByteArray).size ≤ 1 by decide) (by decide)
      clear Hn H hL hos hT hT1
      go_wp2_with fail
      refine (HL.out _ hb).mono ?_
      rintro e w2 ⟨rfl, hb2⟩
      have hb3 := btr hb hb2
      go_wp2
      go_roundw
      case rel => exact ⟨k + 1, _, by omega, by go_num, rfl, Hsz.out, Hnew, hb3⟩
      case measure => simp [intOf]; omega
    · have hkI : ¬ (k : Int) < (xs.length : Int) := by omega
      have HT : Hid (T = ⟨(textL xs).toArray⟩) := of_list (by have := H.out; rwa [List.take_of_length_le (by omega)] at this)
      clear H
      go_wp2
      go_ret
      exact ⟨by rw [← HT.out]; rfl, hb⟩
theorem implText_any (A : Option Addr) (c : Nat) (xs : List Rul) (w : World) (hn : xs.length ≤ maxLen) (hlc : xs.length ≤ c) (hx : Rd w A (rulCells xs)) (hs : ∀ s ∈ xs, s.name.size ≤ maxLen) (hneed0 : NeedAt w 0) :
    Calls Tryd.prog 15 #[.slice A xs.length c] w fun e w' => e = .returned (.tuple #[.string (textR xs).1, .bool (textR xs).2]) ∧ Below w.heap.size w w' := by
  have Hv := Lib.hid (isRules_any A c xs w hn hlc hx hs)
  by_cases hg : goodRul xs = true
  · obtain ⟨hok, h8⟩ := good_ok hg
    have HR : textR xs = (⟨(textL xs).toArray⟩, true) := if_pos hg
    have Hl : Hid (∀ w1, Below w.heap.size w w1 → Calls Tryd.prog 37 #[.slice A xs.length c] w1 fun e w' => e = .returned (.string ⟨(textL xs).toArray⟩) ∧ Below w1.heap.size w1 w') := fun w1 hb => rulesText_any A c xs w1 h8 (hx.below hb) hok (hneed0.below hb)
    rw [HR]
    rw [hg] at Hv
    generalize (⟨(textL xs).toArray⟩ : ByteArray) = S at *
    clear hg HR hs hok hneed0
    go_enter Tryd.func15, Tryd.ntmps15
    go_wp2_with (first | (go_at_call 29; refine Hv.out.mono ?_; rintro e w1 ⟨rfl, hb1⟩) | (go_at_call 37; refine (Hl.out _ hb1).mono ?_; rintro e w2 ⟨rfl, hb2⟩))
    exact bodyPost_ret (v := .tuple #[.string S, .bool true]) (by simp [results, Tryd.results15, go_sem]) rfl ⟨rfl, btr hb1 hb2⟩
  · have hg' : goodRul xs = false := by simpa using hg
    have HR : textR xs = (⟨#[]⟩, false) := if_neg hg
    rw [HR]
    rw [hg'] at Hv
    clear hg hg' HR hs hx hneed0
    go_enter Tryd.func15, Tryd.ntmps15
    go_wp2_with (first | (go_at_call 29; refine Hv.out.mono ?_; rintro e w1 ⟨rfl, hb1⟩))
    exact bodyPost_ret (v := .tuple #[.string ⟨#[]⟩, .bool false]) (by simp [results, Tryd.results15, go_sem]) rfl ⟨rfl, hb1⟩
theorem specText_any (A : Option Addr) (c : Nat) (xs : List Rul) (w : World) (hn : xs.length ≤ maxLen) (hlc : xs.length ≤ c) (hx : Rd w A (rulCells xs)) (hs : ∀ s ∈ xs, s.name.size ≤ maxLen) :
    Calls Tryd.prog 13 #[.slice A xs.length c] w fun e w' => e = .returned (.tuple #[.string (textR xs).1, .bool (textR xs).2]) ∧ Below w.heap.size w w' := by
  have Hv := Lib.hid (l2Good_any A c xs w hn hlc hx hs)
  by_cases hg : goodRul xs = true
  · obtain ⟨hok, h8⟩ := good_ok hg
    have HR : textR xs = (⟨(textL xs).toArray⟩, true) := if_pos hg
    have Hl : Hid (∀ w1, Below w.heap.size w w1 → Calls Tryd.prog 36 #[.slice A xs.length c] w1 fun e w' => e = .returned (.string ⟨(textL xs).toArray⟩) ∧ Below w1.heap.size w1 w') := fun w1 hb => l2Text_any A c xs w1 h8 (hx.below hb) hok
    rw [HR]
    rw [hg] at Hv
    generalize (⟨(textL xs).toArray⟩ : ByteArray) = S at *
    clear hg HR hs hok
    go_enter Tryd.func13, Tryd.ntmps13
    go_wp2_with (first | (go_at_call 35; refine Hv.out.mono ?_; rintro e w1 ⟨rfl, hb1⟩) | (go_at_call 36; refine (Hl.out _ hb1).mono ?_; rintro e w2 ⟨rfl, hb2⟩))
    exact bodyPost_ret (v := .tuple #[.string S, .bool true]) (by simp [results, Tryd.results13, go_sem]) rfl ⟨rfl, btr hb1 hb2⟩
  · have hg' : goodRul xs = false := by simpa using hg
    have HR : textR xs = (⟨#[]⟩, false) := if_neg hg
    rw [HR]
    rw [hg'] at Hv
    clear hg hg' HR hs hx
    go_enter Tryd.func13, Tryd.ntmps13
    go_wp2_with (first | (go_at_call 35; refine Hv.out.mono ?_; rintro e w1 ⟨rfl, hb1⟩))
    exact bodyPost_ret (v := .tuple #[.string ⟨#[]⟩, .bool false]) (by simp [results, Tryd.results13, go_sem]) rfl ⟨rfl, hb1⟩
end Go.Proofs.YtfaphackdhdcaaaDoor
