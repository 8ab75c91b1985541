/-
  FnSplitJoin returns true for every input (draws of strings; what is split is joined again). Conditions: none.
-/
import Derived.Test.YtpdohkcidlcboaaCur
import Derived.Test.YtpdohkcidlcboaaSpl
import Derived.Test.YtpdohkcidlcboaaJoi
import Derived.Test.YtpdohkcidlcboaaLaw
import Derived.Test.YtpdohkcidlcboaaQue
namespace Go.My
open Go.RowKit
def codeCells (xs : List Int) : List Value := xs.map (Value.int .u8)
theorem rdCode_of {w : World} {A : Option Addr} {xs : List Int} (h : Rd w A (codeCells xs)) (hb : ∀ x ∈ xs, 0 ≤ x ∧ x < 256) : RdCode w A xs.length := by
  rcases h with h | ⟨b, off, rfl, hc⟩
  · left; cases xs with | nil => rfl | cons x xs => simp [codeCells] at h
  · refine .inr ⟨b, off, rfl, fun j hj => ⟨xs[j], (hb _ (List.getElem_mem hj)).1, (hb _ (List.getElem_mem hj)).2, ?_⟩⟩
    have := hc j (by simpa [codeCells] using hj)
    rw [this]; simp [codeCells]
/-- 'string(make([]byte, n))'. -/
theorem conv_zeros {P : Program} {src dst e : TypeId} (hs : P.underlying src = some (.slice e)) (he : P.underlying e = some (.int .u8)) (hd : P.underlying dst = some .string) {w : World} {B g n : Nat} (ho : w.ownsRow B e 1 (.slice (some ⟨g, 0, none⟩) n n) n (List.replicate n (.int .u8 0))) :
    (convert src dst (.slice (some ⟨g, 0, none⟩) n n)).run P w = .ok (.string ⟨(List.replicate n (0 : UInt8)).toArray⟩) w := by
  have := run_convert_bytes_back (P := P) w src dst e ⟨g, 0, none⟩ n (List.replicate n (0 : UInt8)) hs he hd (fun j hj => by
    have hj' : j < n := by simpa using hj
    have hc := own_cell ho (j := j) (by simpa using hj')
    have hadd : (⟨g, 0, none⟩ : Addr).add j = ⟨g, j, none⟩ := by unfold Addr.add; split <;> simp_all
    rw [hadd, hc]; simp)
  simpa using this
theorem join_snoc (l : List (List UInt8)) (x y sep : List UInt8) : Lib.join (l ++ [x, y]) sep = Lib.join (l ++ [x]) sep ++ sep ++ y := by
  cases l with
  | nil => simp [Lib.join_cons, Lib.joinTail]
  | cons a l => simp [Lib.join_cons, Lib.joinTail, List.append_assoc]
theorem join_last (l : List (List UInt8)) (x y sep : List UInt8) : Lib.join (l ++ [x ++ y]) sep = Lib.join (l ++ [x]) sep ++ y := by
  cases l with
  | nil => simp [Lib.join_one]
  | cons a l => simp [Lib.join_cons, Lib.joinTail, List.append_assoc]
theorem take_snoc {α : Type} (S : List α) {f k : Nat} (hf : f ≤ k) (hk : k < S.length) : (S.drop f).take (k + 1 - f) = (S.drop f).take (k - f) ++ [S[k]] := by
  rw [show k + 1 - f = (k - f) + 1 by omega, List.take_succ_eq_append_getElem (by simp; omega)]
  congr 2
  rw [List.getElem_drop]; congr 1; omega
/-- What has been split is joined again. -/
theorem cut_join (s : ByteArray) (b : UInt8) : ∀ k, k ≤ s.size → Lib.join (bl (cutN s b k).1 ++ [(s.data.toList.drop (cutN s b k).2).take (k - (cutN s b k).2)]) [b] = s.data.toList.take k ∧ (∀ x ∈ (cutN s b k).1, stB b x = false) ∧ b ∉ (s.data.toList.drop (cutN s b k).2).take (k - (cutN s b k).2)
  | 0, _ => by simp [cutN, bl, Lib.join_one]
  | k + 1, hk => by
    obtain ⟨h1, h2, h3⟩ := cut_join s b k (by omega)
    have hle := (cutN_le s b k).1
    have hlt : k < s.size := by omega
    have hl : k < s.data.toList.length := by simpa using hlt
    have hg : s.data.toList[k] = s[k] := rfl
    by_cases hb : s[k] = b
    · rw [cutN_eq hlt hb]
      refine ⟨?_, ?_, by simp⟩
      · simp only [bl, List.map_append, List.map_cons, List.map_nil, Nat.sub_self, List.take_zero, List.append_assoc, List.cons_append, List.nil_append]
        rw [Lib.extract_data]
        have := join_snoc (bl (cutN s b k).1) ((s.data.toList.drop (cutN s b k).2).take (k - (cutN s b k).2)) [] [b]
        simp only [bl] at this h1
        rw [this, h1, List.append_nil, List.take_succ_eq_append_getElem hl, hg, hb]
      · intro x hx
        rcases List.mem_append.1 hx with hx | hx
        · exact h2 x hx
        · simp at hx; subst hx
          unfold stB
          rw [Lib.extract_data, List.any_eq_false]
          intro c hc
          simp only [beq_iff_eq]
          exact fun e => h3 (e ▸ hc)
    · rw [cutN_ne hlt hb]
      have e := take_snoc s.data.toList hle hl
      rw [e]
      refine ⟨?_, h2, ?_⟩
      · rw [join_last, h1, List.take_succ_eq_append_getElem hl]
      · intro hm
        rcases List.mem_append.1 hm with hm | hm
        · exact h3 hm
        · simp at hm; exact hb (by rw [← hg]; exact hm.symm)
theorem less_asym : ∀ {x y : List UInt8}, Op.bytesLess x y = true → Op.bytesLess y x = false
  | _, [], h => by simp [Op.bytesLess] at h
  | [], _ :: _, _ => by simp [Op.bytesLess]
  | a :: x, b :: y, h => by
    simp only [Op.bytesLess, Bool.or_eq_true, decide_eq_true_eq, Bool.and_eq_true, beq_iff_eq] at h
    simp only [Op.bytesLess, Bool.or_eq_false_iff, decide_eq_false_iff_not, Bool.and_eq_false_iff, beq_eq_false_iff_ne]
    rcases h with h | ⟨rfl, h⟩
    · exact ⟨fun h2 => absurd h (by rw [UInt8.lt_iff_toNat_lt] at *; omega), .inl (fun e => by subst e; rw [UInt8.lt_iff_toNat_lt] at h; omega)⟩
    · exact ⟨by rw [UInt8.lt_iff_toNat_lt]; omega, .inr (less_asym h)⟩
theorem splitL_sz (s : ByteArray) (b : UInt8) : ∀ x ∈ splitL s b, x.size ≤ s.size := by
  have key : ∀ k, ∀ x ∈ (cutN s b k).1, x.size ≤ s.size := by
    intro k
    induction k with
    | zero => simp [cutN]
    | succ k ih =>
      by_cases hk : k < s.size
      · by_cases hb : s[k] = b
        · rw [cutN_eq hk hb]
          intro x hx
          rcases List.mem_append.1 hx with hx | hx
          · exact ih x hx
          · simp at hx; subst hx; simp; omega
        · rw [cutN_ne hk hb]; exact ih
      · simp only [cutN, hk, dif_neg, not_false_eq_true]; exact ih
  intro x hx
  rcases List.mem_append.1 (show x ∈ (cutN s b s.size).1 ++ [s.extract (cutN s b s.size).2 s.size] from hx) with hx | hx
  · exact key _ x hx
  · simp at hx; subst hx; simp
theorem join_split {s t : ByteArray} (hs : s.size ≤ 4000) (ht : t.size = 1) : joinR (splitL s (byte0 t)) t = (s, true) := by
  obtain ⟨h1, h2, h3⟩ := cut_join s (byte0 t) s.size (Nat.le_refl _)
  have htl : t.data.toList = [byte0 t] := by
    have hl : t.data.toList.length = 1 := by simpa using ht
    unfold byte0
    rw [dif_pos (by omega)]
    apply List.ext_getElem (by simp [hl])
    intro j h1 h2
    have : j = 0 := by simp at h2; omega
    subst this; rfl
  have hbl : bl (splitL s (byte0 t)) = bl (cutN s (byte0 t) s.size).1 ++ [(s.data.toList.drop (cutN s (byte0 t) s.size).2).take (s.size - (cutN s (byte0 t) s.size).2)] := by
    simp only [splitL, bl, List.map_append, List.map_cons, List.map_nil]
    rw [Lib.extract_data]
  have hsz : s.data.toList.length = s.size := by simp
  have hj : joinL (splitL s (byte0 t)) t = s.data.toList := by
    unfold joinL
    rw [hbl, htl, h1, ← hsz, List.take_length]
  have hok : joinOk (splitL s (byte0 t)) t = true := by
    unfold joinOk
    rw [hj, hsz]
    simp only [Bool.and_eq_true, decide_eq_true_eq, Bool.not_eq_true']
    refine ⟨⟨ht, by simp [splitL]⟩, ?_, hs⟩
    rw [List.any_eq_false]
    intro x hx
    rw [Bool.not_eq_true]
    rcases List.mem_append.1 (show x ∈ (cutN s (byte0 t) s.size).1 ++ [s.extract (cutN s (byte0 t) s.size).2 s.size] from hx) with hx | hx
    · exact h2 x hx
    · simp at hx; subst hx
      unfold stB
      rw [Lib.extract_data, List.any_eq_false]
      intro c hc
      simp only [beq_iff_eq]
      exact fun e => h3 (e ▸ hc)
  unfold joinR
  rw [if_pos hok, hj]
end Go.My
namespace Go.Proofs.Ytpdohkcidlcboaa
open Go.RowKit Go.My Go.ChangeShapes Go.WideShapes Go.ChangeAt
theorem any1_any (g N : Nat) (w : World) (h : Cur w g N 51) (hN : N ≤ 549755813888) :
    Calls Try.prog 33 #[.pointer (some ⟨g, 0, none⟩)] w fun e w' => ∃ s : ByteArray, e = .returned (.string s) ∧ s.size ≤ 10 ∧ Cur w' g (N + 2) 51 ∧ w.grownBy w' (some g) := by
  have hlt := h.lt
  go_enter Try.func33, Try.ntmps33
  go_wp2_with fail
  refine (of_any g N _ 9 9 10 _ _ (h.below (bnew (Below.refl _ _) _)) hN rfl (by decide) (by decide) Rd.made (by decide) (fun ad e => by cases e; simp; omega)).mono ?_
  rintro e w1 ⟨s, rfl, hs, hc1, hg1⟩
  go_wp2
  go_ret
  exact ⟨s, rfl, hs, hc1, grown_trans (grown_wide (grown_alloc w _)) hg1⟩
set_option maxHeartbeats 2000000 in
theorem drawSplit_any (A : Option Addr) (n c : Nat) (w : World) (hn : n ≤ maxLen) (hx : RdCode w A n) :
    Calls Try.prog 23 #[.slice A n c] w fun e w' => ∃ s t : ByteArray, e = .returned (.tuple #[.string s, .string t]) ∧ s.size ≤ 10 ∧ t.size ≤ 2 ∧ Below w.heap.size w w' := by
  have hc0 := cur_start (w := w) (cap := c) (t := 51) hx hn
  have hb0 : Below w.heap.size w (w.alloc (.cells #[.slice A n c, .int .i64 0, .int .u64 0] 51)) := bnew (Below.refl _ _) _
  go_enter Try.func23, Try.ntmps23
  go_wp2_with fail
  generalize w.alloc (.cells #[.slice A n c, .int .i64 0, .int .u64 0] 51) = W0 at *
  refine (any1_any _ 0 W0 hc0 (by omega)).mono ?_
  rintro e w1 ⟨s, rfl, hs, hc1, hg1⟩
  have hb1 := cur_below hb0 hg1 (Nat.le_refl _) (Nat.le_refl _)
  have hlt := hc1.lt
  go_wp2_with fail
  refine (of_any _ _ _ 5 5 2 _ _ (hc1.below (bnew (Below.refl _ _) _)) (by omega) rfl (by decide) (by decide) Rd.made (by decide) (fun ad e => by cases e; simp; omega)).mono ?_
  rintro e w2 ⟨t, rfl, ht, hc2, hg2⟩
  have hb2 := cur_below (bnew hb1 _) hg2 (Nat.le_refl _) (Nat.le_refl _)
  go_wp2
  exact bodyPost_ret (v := .tuple #[.string s, .string t]) (by simp [results, Try.results23, go_sem]) rfl ⟨s, t, rfl, hs, ht, hb2⟩
set_option maxHeartbeats 2000000 in
theorem drawLess_any (A : Option Addr) (n c : Nat) (w : World) (hn : n ≤ maxLen) (hx : RdCode w A n) :
    Calls Try.prog 25 #[.slice A n c] w fun e w' => ∃ s t : ByteArray, e = .returned (.tuple #[.string s, .string t]) ∧ Below w.heap.size w w' := by
  have hc0 := cur_start (w := w) (cap := c) (t := 51) hx hn
  have hb0 : Below w.heap.size w (w.alloc (.cells #[.slice A n c, .int .i64 0, .int .u64 0] 51)) := bnew (Below.refl _ _) _
  go_enter Try.func25, Try.ntmps25
  go_wp2_with fail
  generalize w.alloc (.cells #[.slice A n c, .int .i64 0, .int .u64 0] 51) = W0 at *
  refine (any1_any _ 0 W0 hc0 (by omega)).mono ?_
  rintro e w1 ⟨s, rfl, hs, hc1, hg1⟩
  have hb1 := cur_below hb0 hg1 (Nat.le_refl _) (Nat.le_refl _)
  go_wp2_with fail
  refine (any1_any _ _ _ hc1 (by omega)).mono ?_
  rintro e w2 ⟨t, rfl, ht, hc2, hg2⟩
  have hb2 := cur_below hb1 hg2 (Nat.le_refl _) (Nat.le_refl _)
  go_wp2
  exact bodyPost_ret (v := .tuple #[.string s, .string t]) (by simp [results, Try.results25, go_sem]) rfl ⟨s, t, rfl, hb2⟩
set_option maxHeartbeats 4000000 in
theorem drawJoin_any (A : Option Addr) (n c : Nat) (w : World) (hn : n ≤ maxLen) (hx : RdCode w A n) :
    Calls Try.prog 24 #[.slice A n c] w fun e w' => ∃ A' c', ∃ xs : List ByteArray, ∃ t : ByteArray, e = .returned (.tuple #[.slice A' xs.length c', .string t]) ∧ xs.length ≤ 5 ∧ (∀ s ∈ xs, s.size ≤ 5000) ∧ t.size ≤ 2 ∧ w'.ownsRow w.heap.size 9 1 (.slice A' xs.length c') xs.length (sCells xs) ∧ Below w.heap.size w w' := by
  have hc0 := cur_start (w := w) (cap := c) (t := 51) hx hn
  have hb0 : Below w.heap.size w (w.alloc (.cells #[.slice A n c, .int .i64 0, .int .u64 0] 51)) := bnew (Below.refl _ _) _
  go_enter Try.func24, Try.ntmps24
  go_wp2_with fail
  have hbE := bnew hb0 (.cells #[] 9)
  have hcE := hc0.below (bnew (Below.refl _ _) (.cells #[] 9))
  have hoE := own_lit (e := 9) (size := 1) (B := (w.alloc (.cells #[.slice A n c, .int .i64 0, .int .u64 0] 51)).heap.size) (w := w.alloc (.cells #[.slice A n c, .int .i64 0, .int .u64 0] 51)) #[] 0 (Nat.le_refl _) (by unfold maxLen; omega) rfl
  have hB1 : (w.alloc (.cells #[.slice A n c, .int .i64 0, .int .u64 0] 51)).heap.size = w.heap.size + 1 := by simp
  rw [hB1] at hoE
  generalize (w.alloc (.cells #[.slice A n c, .int .i64 0, .int .u64 0] 51)).alloc (.cells #[] 9) = W0 at *
  refine (pick_any _ 0 4 W0 hcE (by omega)).mono ?_
  rintro e w1 ⟨np, rfl, hnp, hc1, hg1⟩
  have hb1 := cur_below hbE hg1 (Nat.le_refl _) (Nat.le_refl _)
  have ho1 := hoE.kept hg1 (.inr (by simp [Value.ownBlock]))
  clear hc0 hcE hoE hbE hb0 hB1 hx
  go_wp2_with fail
  obtain ⟨m, rfl⟩ : ∃ m : Nat, np = m := ⟨np.toNat, by omega⟩
  go_loopw [5, 7] (fun l q wr => ∃ (k : Nat) (A' : Option Addr) (c' : Nat) (L : List ByteArray), k ≤ m ∧ q = .int .i64 k ∧ l = .slice A' L.length c' ∧ L.length ≤ k ∧ Hid (∀ s ∈ L, s.size ≤ 5000) ∧ Cur wr w.heap.size (2 + 2 * k) 51 ∧ wr.ownsRow (w.heap.size + 1) 9 1 (.slice A' L.length c') L.length (sCells L) ∧ Below w.heap.size w wr) (fun _ q _ => m - (intOf q).toNat)
  case atStart => exact ⟨0, _, 0, [], by omega, rfl, rfl, by simp, by intro s hs; simp at hs, hc1, ho1, hb1⟩
  case round =>
    clear hc1 ho1 hb1
    obtain ⟨k, A', c', L, hk, rfl, rfl, hLk, HL, hc, ho, hb⟩ := hrel
    by_cases hlt : k < m
    · have hkI : (k : Int) < (m : Int) := by omega
      go_wp2_with fail
      refine (any1_any _ _ _ hc (by omega)).mono ?_
      rintro e w2 ⟨s, rfl, hs, hc2, hg2⟩
      have hb2 := cur_below hb hg2 (Nat.le_refl _) (Nat.le_refl _)
      have ho2 := ho.kept hg2 (.inr (Ne.symm (own_ne ho (by omega))))
      have HN : Hid (∀ x ∈ L ++ [s], x.size ≤ 5000) := by
        intro x hx
        rcases List.mem_append.1 hx with hx | hx
        · exact HL.out x hx
        · simp at hx; subst hx; omega
      clear hc ho hb HL hg2
      have hrd : Rd (w2.alloc (.cells #[.string s] 9)) (some ⟨w2.heap.size, 0, none⟩) [.string s] := Rd.made
      have hbw := bnew (Below.refl w2.heap.size w2) (.cells #[.string s] 9)
      have hoW := own_below ho2 hbw
      have hcW := hc2.below hbw
      have hbW := bnew hb2 (.cells #[.string s] 9)
      have hszB : w.heap.size + 1 ≤ w2.heap.size := hc2.lt
      go_wp2_with (at_builtin; go_must (refine wpl_app rfl (.tmp 19) (.tmp 22) 27 rfl el_Str (v := .slice A' L.length c') rfl hoW rfl rfl hrd (by simp [Value.oneCell']) (by unfold maxLen; omega) (by omega) (Nat.le_trans hszB hbw.size) ?_); intro A1 c1 w3 ho3 hg3 _; have hc3 := hcW.kept hg3 (fun k hk => by have := (hoW.lt k hk).1; omega); have hb3 : Below w.heap.size w w3 := hbW.grown hg3 hbW.size (fun k hk => by have := (hoW.lt k hk).1; omega))
      go_roundw
      case rel => exact ⟨k + 1, A1, c1, L ++ [s], by omega, by go_num, by simp, by simp; omega, HN, hc3.more (by omega), by (rw [sCells_append]; simpa [sCells] using ho3), hb3⟩
      case measure => simp [intOf]; omega
    · have hkI : ¬ (k : Int) < (m : Int) := by omega
      go_wp2_with fail
      refine (one_any _ _ 20 _ hc (by omega)).mono ?_
      rintro e w2 ⟨bq, rfl, hc2, hg2⟩
      have hb2 := cur_below hb hg2 (Nat.le_refl _) (Nat.le_refl _)
      have ho2 := ho.kept hg2 (.inr (Ne.symm (own_ne ho (by omega))))
      clear hc ho hb hg2
      cases bq with
      | false =>
        have hlt2 := hc2.lt
        go_wp2_with fail
        refine (of_any _ _ _ 5 5 2 _ _ (hc2.below (bnew (Below.refl _ _) _)) (by omega) rfl (by decide) (by decide) Rd.made (by decide) (fun ad e => by cases e; simp; omega)).mono ?_
        rintro e w3 ⟨t, rfl, ht, hc3, hg3⟩
        have hb3 := cur_below (bnew hb2 _) hg3 (Nat.le_refl _) (Nat.le_refl _)
        have ho3 := (own_below ho2 (bnew (Below.refl _ _) _)).kept hg3 (.inr (Ne.symm (own_ne ho2 (by omega))))
        go_wp2
        exact bodyPost_ret (v := .tuple #[.slice A' L.length c', .string t]) (by simp [results, Try.results24, go_sem]) rfl ⟨A', c', L, t, rfl, by omega, HL.out, ht, own_base ho3 (by omega), hb3⟩
      | true =>
        go_wp2_with fail
        refine (pick_any _ _ 20 _ hc2 (by omega)).mono ?_
        rintro e w3 ⟨v, rfl, hv, hc3, hg3⟩
        have hb3 := cur_below hb2 hg3 (Nat.le_refl _) (Nat.le_refl _)
        have ho3 := ho2.kept hg3 (.inr (Ne.symm (own_ne ho2 (by omega))))
        clear hc2 hb2 ho2 hg3
        obtain ⟨z, hz⟩ : ∃ z : Nat, 3990 + v = z := ⟨(3990 + v).toNat, by omega⟩
        have hzw : IntKind.i64.wrap (3990 + v) = (z : Int) := by rw [IntKind.wrap_i64]; omega
        have hz5 : z ≤ 5000 := by omega
        have HZ : Hid (∀ x ∈ L ++ [⟨(List.replicate z (0 : UInt8)).toArray⟩], x.size ≤ 5000) := by
          intro x hx
          rcases List.mem_append.1 hx with hx | hx
          · exact HL.out x hx
          · simp at hx; subst hx; show (List.replicate z (0 : UInt8)).toArray.size ≤ 5000; simp; omega
        obtain ⟨Z, hZ⟩ : ∃ Z : ByteArray, Z = ⟨(List.replicate z (0 : UInt8)).toArray⟩ := ⟨_, rfl⟩
        rw [← hZ] at HZ
        have HZE := Lib.hid hZ
        have hszB : w.heap.size + 1 ≤ w3.heap.size := hc3.lt
        clear hz hZ HL hv
        go_wp2_with (first | (refine wpl_makez rfl (.tmp 29) (.tmp 29) 36 rfl Try.underlying36 (z := .int .u8 0) (bytes := 1) (by kernel_rfl) rfl rfl rfl rfl rfl (n := z) (base := w3.heap.size) (by omega) (by unfold maxLen; omega) (Nat.le_refl _) ?_; intro w4 hom hg4; have hcv := conv_zeros Try.underlying36 Try.underlying5 Try.underlying9 hom; rw [← HZE.out] at hcv; have hb34 : Below w3.heap.size w3 w4 := below_grown hg4 (Nat.le_refl _) (by simp); have hc4 := hc3.below hb34; have ho4 := own_below ho3 hb34; have hb4 := btr hb3 hb34; have hoW := own_below ho4 (bnew (Below.refl w4.heap.size w4) (.cells #[.string Z] 9)); have hcW := hc4.below (bnew (Below.refl w4.heap.size w4) (.cells #[.string Z] 9)); have hbW := bnew hb4 (.cells #[.string Z] 9); have hszW := Nat.le_trans hszB (btr hb34 (bnew (Below.refl w4.heap.size w4) (.cells #[.string Z] 9))).size; have hrd : Rd (w4.alloc (.cells #[.string Z] 9)) (some ⟨w4.heap.size, 0, none⟩) [.string Z] := Rd.made) | (at_builtin; go_must (refine wpl_app rfl (.tmp 26) (.tmp 32) 27 rfl el_Str (v := .slice A' L.length c') rfl hoW rfl rfl hrd (by simp [Value.oneCell']) (by unfold maxLen; omega) (by omega) hszW ?_); intro A1 c1 w5 ho5 hg5 _; have hc5 := hcW.kept hg5 (fun k hk => by have := (hoW.lt k hk).1; omega); have hb5 : Below w.heap.size w w5 := hbW.grown hg5 hbW.size (fun k hk => by have := (hoW.lt k hk).1; omega)))
        have hlt5 := hc5.lt
        refine (of_any _ _ _ 5 5 2 _ _ (hc5.below (bnew (Below.refl _ _) _)) (by omega) rfl (by decide) (by decide) Rd.made (by decide) (fun ad e => by cases e; simp; omega)).mono ?_
        rintro e w6 ⟨t, rfl, ht, hc6, hg6⟩
        have hb6 := cur_below (bnew hb5 _) hg6 (Nat.le_refl _) (Nat.le_refl _)
        have ho6 := (own_below ho5 (bnew (Below.refl _ _) _)).kept hg6 (.inr (Ne.symm (own_ne ho5 (by omega))))
        go_wp2
        exact bodyPost_ret (v := .tuple #[.slice A1 (L.length + 1) c1, .string t]) (by simp [results, Try.results24, go_sem]) rfl ⟨A1, c1, L ++ [Z], t, by simp, by simp; omega, HZ.out, ht, by rw [sCells_append]; exact own_base (by simpa [sCells] using ho6) (by omega), hb6⟩
theorem less_impl (a b : ByteArray) (w : World) : Calls Try.prog 10 #[.string a, .string b] w fun e w' => e = .returned (.bool (Op.bytesLess a.toList b.toList)) ∧ w = w' := by
  go_enter Try.func10, Try.ntmps10
  go_wp2
  go_ret
  exact ⟨rfl, rfl⟩
theorem less_spec (a b : ByteArray) (w : World) : Calls Try.prog 9 #[.string a, .string b] w fun e w' => e = .returned (.bool (Op.bytesLess a.toList b.toList)) ∧ w = w' := by
  go_enter Try.func9, Try.ntmps9
  go_wp2
  go_ret
  exact ⟨rfl, rfl⟩
theorem own : ownKnob Try.prog.godebug = none := by kernel_rfl
theorem laidOut : laidOutB Try.prog = true := by kernel_rfl
theorem codeCells_flat (xs : List Int) : xs.flatMap (fun x => [Value.int .u8 x]) = codeCells xs := by
  induction xs with
  | nil => rfl
  | cons x r ih => simp [codeCells] at ih ⊢; exact ih
theorem open_Code {H : Type} {enc : TypeId × Value → H} {w : World} {A : Option Addr} {len cap : Nat} {d : DataW H} {ps : List MemPlace} (h : DataW.Trod enc Try.prog w 0 (fun _ => true) true 36 (.slice A len cap) d ps) :
    ∃ xs : List Int, xs.length = len ∧ len ≤ cap ∧ cap ≤ maxLen ∧ Rd w A (codeCells xs) ∧ ∀ b ∈ xs, 0 ≤ b ∧ b < 256 := by
  obtain ⟨xs, h1, h2, h3, h4, h5⟩ := open_list (fun x : Int => [Value.int .u8 x]) (fun b => 0 ≤ b ∧ b < 256) 1 (fun _ => rfl) (by decide) Try.underlying36 (by kernel_rfl) (fun n cs x hx => by
    obtain ⟨n1, e1, _, w1⟩ := DataW.trod_int Try.underlying5 hx
    refine ⟨n1, e1, ?_⟩
    simp [Lit.wf, IntKind.min, IntKind.max, IntKind.signed, IntKind.bits] at w1
    omega) h
  exact ⟨xs, h1, h2, h3, by rw [← codeCells_flat]; exact h4, h5⟩
theorem big_any (A : Option Addr) (n c : Nat) (w : World) : Calls Try.prog 22 #[.slice A n c] w fun e w' => e = .returned (.bool (decide ((65536 : Int) < n))) ∧ w = w' := by
  go_enter Try.func22, Try.ntmps22
  go_wp2
  go_ret
  exact ⟨rfl, rfl⟩
set_option maxHeartbeats 8000000 in
set_option maxRecDepth 100000 in
theorem law_FnSplitJoin (A : Option Addr) (c : Nat) (code : List Int) (w : World) (hn : code.length ≤ maxLen) (hx : Rd w A (codeCells code)) (hok : ∀ b ∈ code, 0 ≤ b ∧ b < 256) :
    Calls Try.prog 8 #[.slice A code.length c] w fun e w' => e = .returned (.bool true) ∧ Below w.heap.size w w' := by
  have HR := Lib.hid (rdCode_of hx hok)
  clear hx hok
  by_cases hbig : 65536 < code.length
  · have hbI : decide ((65536 : Int) < (code.length : Int)) = true := by simp; omega
    go_enter Try.func8, Try.ntmps8
    go_wp2_with (go_at_call 22; refine (big_any A _ c w).mono ?_; rintro e w1 ⟨rfl, rfl⟩)
    go_ret
    exact ⟨rfl, Below.refl _ _⟩
  have hbI : decide ((65536 : Int) < (code.length : Int)) = false := by simp; omega
  generalize code.length = n at *
  go_enter Try.func8, Try.ntmps8
  go_wp2_with (go_at_call 22; refine (big_any A n c w).mono ?_; rintro e w0 ⟨rfl, rfl⟩)
  go_wp2_with fail
  refine (drawSplit_any A n c w hn HR.out).mono ?_
  rintro e w1 ⟨s, t, rfl, hs, ht, hb1⟩
  go_wp2_with fail
  refine (split_any s t w1 (by unfold maxLen; omega) (by unfold maxLen; omega)).mono ?_
  rintro e w2 ⟨AL, cL, rfl, hoL, hb12⟩
  have hb2 := btr hb1 hb12
  go_wp2_with fail
  refine (drawJoin_any A n c w2 hn (HR.out.below hb2)).mono ?_
  rintro e w3 ⟨AK, cK, K, m, rfl, hK, hKs, hm, hoK, hb23⟩
  have hb3 := btr hb2 hb23
  have hoL3 := own_below hoL hb23
  go_wp2_with fail
  refine (join_any AK cK K m w3 (by unfold maxLen; omega) (by obtain ⟨_, _, e, h⟩ := own_form hoK; cases e; exact h) (own_rd hoK) (fun x h => by have := hKs x h; unfold maxLen; omega) (by unfold maxLen; omega) (by omega) (fun x h => by have := hKs x h; omega)).mono ?_
  rintro e w4 ⟨rfl, hb34⟩
  have hoK4 := own_below hoK hb34
  have hoL4 := own_below hoL3 hb34
  go_wp2_with fail
  refine (specJoin_any AK cK K m w4 (by unfold maxLen; omega) (by obtain ⟨_, _, e, h⟩ := own_form hoK; cases e; exact h) (own_rd hoK4) (fun x h => by have := hKs x h; unfold maxLen; omega) (by unfold maxLen; omega) (by omega) (fun x h => by have := hKs x h; omega)).mono ?_
  rintro e w5 ⟨rfl, hb45⟩
  have hoL5 := own_below hoL4 hb45
  have hb5 := btr hb3 (btr hb34 hb45)
  clear hoL hoL3 hoL4 hoK hoK4 hb34 hb45 hb23 hb12 hb3 hb2 hb1 hKs
  go_wp2_with fail
  refine (drawLess_any A n c w5 hn (HR.out.below hb5)).mono ?_
  rintro e w6 ⟨a, b, rfl, hb56⟩
  have hb6 := btr hb5 hb56
  have hoL6 := own_below hoL5 hb56
  clear hoL5 hb56 hb5
  generalize (joinR K m).1 = jr at *
  generalize (joinR K m).2 = jb at *
  have HA : Hid (Op.bytesLess a.toList b.toList = true → Op.bytesLess b.toList a.toList = false) := fun h => less_asym h
  have HL1 : Hid (∀ w1, Calls Try.prog 10 #[.string a, .string b] w1 fun e w' => e = .returned (.bool (Op.bytesLess a.toList b.toList)) ∧ w1 = w') := fun w1 => less_impl a b w1
  have HL2 : Hid (∀ w1, Calls Try.prog 10 #[.string b, .string a] w1 fun e w' => e = .returned (.bool (Op.bytesLess b.toList a.toList)) ∧ w1 = w') := fun w1 => less_impl b a w1
  have HL3 : Hid (∀ w1, Calls Try.prog 9 #[.string a, .string b] w1 fun e w' => e = .returned (.bool (Op.bytesLess a.toList b.toList)) ∧ w1 = w') := fun w1 => less_spec a b w1
  generalize Op.bytesLess a.toList b.toList = l1 at *
  generalize Op.bytesLess b.toList a.toList = l2 at *
  have hl12 : (l1 && l2) = false := by
    cases l1 with
    | false => rfl
    | true => rw [HA.out rfl]; rfl
  clear HA
  by_cases h1 : t.size = 1
  · have hS : splitR s t = (splitL s (byte0 t), true) := if_pos ⟨by omega, h1⟩
    have HJ := Lib.hid (join_split (s := s) (t := t) (by omega) h1)
    have HLs : Hid (∀ x ∈ splitL s (byte0 t), x.size ≤ 10) := fun x hx => Nat.le_trans (splitL_sz s _ x hx) hs
    have HLn := splitL_len s (byte0 t)
    have h1I : ((t.size : Int) != 1) = false := by simp; omega
    rw [hS] at hoL6 ⊢
    simp only at hoL6 ⊢
    clear hS
    generalize splitL s (byte0 t) = Lp at *
    have HC : Hid (∀ w1, Below w6.heap.size w6 w1 → Calls Try.prog 21 #[.slice AL Lp.length cL, .string t] w1 fun en w' => en = .returned (.tuple #[.string s, .bool true]) ∧ Below w1.heap.size w1 w') := fun w1 h => by
      have := join_any AL cL Lp t w1 (by unfold maxLen; omega) (by obtain ⟨_, _, e, h⟩ := own_form hoL6; cases e; exact h) ((own_rd hoL6).below h) (fun x h => by have := HLs.out x h; unfold maxLen; omega) (by unfold maxLen; omega) (by omega) (fun x h => by have := HLs.out x h; omega)
      rw [HJ.out] at this
      exact this
    clear HJ HLs hoL6
    cases l1 with
    | false =>
      go_wp2_with (first | (go_at_call 10; refine (HL1.out _).mono ?_; rintro e w9 ⟨rfl, rfl⟩) | (go_at_call 10; refine (HL2.out _).mono ?_; rintro e w9 ⟨rfl, rfl⟩) | (go_at_call 9; refine (HL3.out _).mono ?_; rintro e w9 ⟨rfl, rfl⟩) | (go_at_call 21; refine (HC.out _ (Below.refl _ _)).mono ?_; rintro e w7 ⟨rfl, hb67⟩))
      go_ret
      exact ⟨rfl, btr hb6 hb67⟩
    | true =>
      rw [Bool.true_and] at hl12
      subst hl12
      go_wp2_with (first | (go_at_call 10; refine (HL1.out _).mono ?_; rintro e w9 ⟨rfl, rfl⟩) | (go_at_call 10; refine (HL2.out _).mono ?_; rintro e w9 ⟨rfl, rfl⟩) | (go_at_call 9; refine (HL3.out _).mono ?_; rintro e w9 ⟨rfl, rfl⟩) | (go_at_call 21; refine (HC.out _ (Below.refl _ _)).mono ?_; rintro e w7 ⟨rfl, hb67⟩))
      go_ret
      exact ⟨rfl, btr hb6 hb67⟩
  · have hS : splitR s t = ([], false) := if_neg (fun h => h1 h.2)
    have h1I : ((t.size : Int) != 1) = true := by simp; omega
    rw [hS]
    clear hS hoL6 h1
    cases l1 with
    | false =>
      go_wp2_with (first | (go_at_call 10; refine (HL1.out _).mono ?_; rintro e w9 ⟨rfl, rfl⟩) | (go_at_call 10; refine (HL2.out _).mono ?_; rintro e w9 ⟨rfl, rfl⟩) | (go_at_call 9; refine (HL3.out _).mono ?_; rintro e w9 ⟨rfl, rfl⟩))
      go_ret
      exact ⟨rfl, hb6⟩
    | true =>
      rw [Bool.true_and] at hl12
      subst hl12
      go_wp2_with (first | (go_at_call 10; refine (HL1.out _).mono ?_; rintro e w9 ⟨rfl, rfl⟩) | (go_at_call 10; refine (HL2.out _).mono ?_; rintro e w9 ⟨rfl, rfl⟩) | (go_at_call 9; refine (HL3.out _).mono ?_; rintro e w9 ⟨rfl, rfl⟩))
      go_ret
      exact ⟨rfl, hb6⟩
set_option maxRecDepth 100000 in
theorem law_FnSplitJoin_lifted (os : Os) (started : os.Started) (H : Type) (enc : TypeId × Value → H) :
    ReturnsInHanded {} Try.checked os 8 .any (Rows.fnSplitJoinSpec.pre6 enc Try.prog Try.f8 Rows.fnSplitJoinRow.domain false) (Rows.fnSplitJoinSpec.post enc Try.prog Try.f8 false true false false) := by
  refine returnsInHanded_of_change (C := Try.checked) own started (by kernel_rfl) Try.func8
    (ChangeSpec.witness6 (enc := enc) (C := Try.checked) false ⟨#[], #[.slice none 0 0], []⟩ 8 (by kernel_rfl) (by kernel_rfl) (by kernel_rfl) (by kernel_rfl)) ?_
  intro W base args ds gs before hval0 hW _ _
  have hval : ∀ (j : Nat) t v, Try.f8.params[j]? = some t → args[j]? = some v → Value.okWide Try.prog W .any base t v := hval0
  have hW' := hW
  obtain ⟨p, q, hA, -⟩ := hW
  replace hA : DataW.TrodAll enc Try.prog W 0 (fun _ => true) true Try.f8.params.toList args.toList ds p := hA
  rw [Try.params8] at hA hval
  obtain ⟨v0, d0, rfl, rfl, h0⟩ := trodAll_one hA
  obtain ⟨Acode, lencode, capcode, rfl⟩ := okWide_slice Try.underlying36 (hval 0 36 v0 rfl rfl)
  obtain ⟨code, rfl, hlccode, hcmcode, hxcode, hokcode⟩ := open_Code h0
  exact My.law_step laidOut Try.underlying4 (by kernel_rfl) (by kernel_rfl) rfl (fun H ds hd => by match ds, hd with | [_], _ => rfl) hW' (law_FnSplitJoin Acode capcode code W (Nat.le_trans hlccode hcmcode) hxcode hokcode)
theorem law_FnSplitJoin_holds : Rows.FnSplitJoinSaid :=
  OpenClaim.holds_of_wide 8 Try.f8 rfl rfl rfl rfl rfl rfl rfl ⟨rfl, rfl, rfl, rfl, rfl⟩ rfl rfl rfl rfl rfl (by kernel_rfl) Try.func8 (by kernel_rfl)
    (of_decide_eq_true (by kernel_rfl)) (by unfold Func.isWrapper; first | (rw [if_pos (by decide +kernel)]; kernel_rfl) | (rw [if_neg (by decide +kernel)]; exact ⟨rfl, rfl⟩))
    (fun os started H enc _ => law_FnSplitJoin_lifted os started H enc)
end Go.Proofs.Ytpdohkcidlcboaa
