/-
  FnStrings: the draws of its inputs, a changed byte, and the law's walk. Conditions: the listed variables are as laid; the start-up heap's shape.
-/
import Derived.Test.YtpdohkcidlcboaaDoorDVer
import Derived.Test.YtpdohkcidlcboaaDoorDPar
import Derived.Test.YtpdohkcidlcboaaDoorCur
import Derived.Test.YtpdohkcidlcboaaDoorQue
import Derived.Laws.Bits64
import Derived.Lib.ConvBytes
namespace Go.My
open Go.RowKit
def codeCells (xs : List Int) : List Value := xs.map (Value.int .u8)
theorem rdCode_of {w : World} {A : Option Addr} {xs : List Int} (h : Rd w A (codeCells xs)) (hb : ∀ x ∈ xs, 0 ≤ x ∧ x < 256) : RdCode w A xs.length := by
  rcases h with h | ⟨b, off, rfl, hc⟩
  · left; cases xs with | nil => rfl | cons x xs => simp [codeCells] at h
  · refine .inr ⟨b, off, rfl, fun j hj => ⟨xs[j], (hb _ (List.getElem_mem hj)).1, (hb _ (List.getElem_mem hj)).2, ?_⟩⟩
    have := hc j (by simpa [codeCells] using hj)
    rw [this]; simp [codeCells]
/-- 'string(make([]byte, n))'. -/
theorem conv_zeros {P : Program} {src dst e : TypeId} (hs : P.underlying src = some (.slice e)) (he : P.underlying e = some (.int .u8)) (hd : P.underlying dst = some .string) {w : World} {B g n : Nat} (ho : w.ownsRow B e 1 (.slice (some ⟨g, 0, none⟩) n n) n (List.replicate n (.int .u8 0))) :
    (convert src dst (.slice (some ⟨g, 0, none⟩) n n)).run P w = .ok (.string ⟨(List.replicate n (0 : UInt8)).toArray⟩) w := by
  have := run_convert_bytes_back (P := P) w src dst e ⟨g, 0, none⟩ n (List.replicate n (0 : UInt8)) hs he hd (fun j hj => by
    have hj' : j < n := by simpa using hj
    have hc := own_cell ho (j := j) (by simpa using hj')
    have hadd : (⟨g, 0, none⟩ : Addr).add j = ⟨g, j, none⟩ := by unfold Addr.add; split <;> simp_all
    rw [hadd, hc]; simp)
  simpa using this
theorem bits_xor_u8 (a b : Nat) (ha : a < 256) (hb : b < 256) : bits .xor .u8 (a : Int) (b : Int) = ((a ^^^ b : Nat) : Int) := by
  have hx : a ^^^ b < 2 ^ 8 := Nat.xor_lt_two_pow (by omega) (by omega)
  have h1 : (BitVec.ofInt 8 (a : Int)).toNat = a := by
    rw [BitVec.ofInt_natCast, BitVec.toNat_ofNat]; exact Nat.mod_eq_of_lt (by omega)
  have h2 : (BitVec.ofInt 8 (b : Int)).toNat = b := by
    rw [BitVec.ofInt_natCast, BitVec.toNat_ofNat]; exact Nat.mod_eq_of_lt (by omega)
  show IntKind.u8.wrap ((BitVec.ofInt 8 (a : Int) ^^^ BitVec.ofInt 8 (b : Int)).toNat : Int) = _
  rw [BitVec.toNat_xor, h1, h2]
  have e : IntKind.u8.wrap ((a ^^^ b : Nat) : Int) = ((a ^^^ b : Nat) : Int) % 256 := by simp [IntKind.wrap, IntKind.bits, IntKind.signed]
  rw [e]
  omega
theorem xor_ne {a b : Nat} (hb : b ≠ 0) : a ^^^ b ≠ a := by
  intro h
  apply hb
  have h2 : a ^^^ (a ^^^ b) = a ^^^ a := by rw [h]
  rw [← Nat.xor_assoc, Nat.xor_self, Nat.zero_xor] at h2
  exact h2
theorem stB_false {b : UInt8} {s : ByteArray} (h : stB b s = false) : b ∉ s.data.toList := by
  intro hm
  unfold stB at h
  rw [List.any_eq_false] at h
  exact h b hm (by simp)
end Go.My
namespace Go.Proofs.YtpdohkcidlcboaaDoor
open Go.RowKit Go.My Go.ChangeShapes Go.WideShapes Go.ChangeAt
theorem sumF_step_inj {h1 h2 c : Nat} (l1 : h1 < 999979) (l2 : h2 < 999979) (h : (41 * h1 + c + 1) % 999979 = (41 * h2 + c + 1) % 999979) : h1 = h2 := by omega
theorem sumF_byte_inj {h a b : Nat} (l1 : a < 256) (l2 : b < 256) (h : (41 * h + a + 1) % 999979 = (41 * h + b + 1) % 999979) : a = b := by omega
theorem sumF_inj : ∀ (l : List UInt8) {h1 h2 : Nat}, h1 < 999979 → h2 < 999979 → sumF h1 l = sumF h2 l → h1 = h2
  | [], _, _, _, _, h => h
  | c :: l, h1, h2, l1, l2, h => by
    have := sumF_inj l (h1 := (41 * h1 + c.toNat + 1) % 999979) (h2 := (41 * h2 + c.toNat + 1) % 999979) (Nat.mod_lt _ (by decide)) (Nat.mod_lt _ (by decide)) h
    exact sumF_step_inj l1 l2 this
theorem sumF_set : ∀ (l : List UInt8) (h k : Nat) (c : UInt8) (hk : k < l.length), c ≠ l[k] → sumF h (l.set k c) ≠ sumF h l
  | [], _, _, _, hk, _ => by simp at hk
  | b :: l, h, 0, c, _, hc => by
    intro e
    have e2 : sumF ((41 * h + c.toNat + 1) % 999979) l = sumF ((41 * h + b.toNat + 1) % 999979) l := e
    have := sumF_inj l (Nat.mod_lt _ (by decide)) (Nat.mod_lt _ (by decide)) e2
    exact hc (UInt8.toNat_inj.1 (sumF_byte_inj c.toNat_lt b.toNat_lt this))
  | b :: l, h, k + 1, c, hk, hc => by
    intro e
    exact sumF_set l ((41 * h + b.toNat + 1) % 999979) k c (by simpa using hk) (by simpa using hc) e
theorem cut_unique : ∀ {T X E D : List UInt8}, 35 ∉ T → 35 ∉ X → T ++ 35 :: E = X ++ 35 :: D → T = X ∧ E = D
  | [], [], _, _, _, _, h => ⟨rfl, (List.cons.inj h).2⟩
  | [], x :: X, _, _, _, hX, h => absurd (by rw [(List.cons.inj h).1]; simp) hX
  | t :: T, [], _, _, hT, _, h => absurd (by rw [← (List.cons.inj h).1]; simp) hT
  | t :: T, x :: X, _, _, hT, hX, h => by
    obtain ⟨h1, h2⟩ := List.cons.inj h
    obtain ⟨e1, e2⟩ := cut_unique (fun hh => hT (List.mem_cons_of_mem _ hh)) (fun hh => hX (List.mem_cons_of_mem _ hh)) h2
    exact ⟨by rw [h1, e1], e2⟩
/-- A text with its checksum: one byte changed, it is no such text. -/
theorem detect_list {X T : List UInt8} (hX : 35 ∉ X) (hT : 35 ∉ T) {k : Nat} {c : UInt8} (hk : k < (X ++ 35 :: Lib.decDigits (sumF 7 X)).length) (hc : c ≠ (X ++ 35 :: Lib.decDigits (sumF 7 X))[k])
    (h : T ++ 35 :: Lib.decDigits (sumF 7 T) = (X ++ 35 :: Lib.decDigits (sumF 7 X)).set k c) : False := by
  have hdig : ∀ n, (35 : UInt8) ∉ Lib.decDigits n := fun n hm => by
    have := dec_digit n 35 hm
    have h35 : (35 : UInt8).toNat = 35 := rfl
    omega
  by_cases h1 : k < X.length
  · rw [List.set_append_left _ _ h1] at h
    rw [List.getElem_append_left h1] at hc
    by_cases hc35 : c = 35
    · subst hc35
      have e : X.set k 35 = X.take k ++ 35 :: X.drop (k + 1) := List.set_eq_take_append_cons_drop (l := X) (i := k) (a := 35) ▸ by rw [if_pos h1]
      rw [e, List.append_assoc, List.cons_append] at h
      obtain ⟨_, e2⟩ := cut_unique hT (fun hm => hX (List.mem_of_mem_take hm)) h
      exact hdig _ (by rw [e2]; simp)
    · have hX' : 35 ∉ X.set k c := fun hm => by
        rcases List.mem_or_eq_of_mem_set hm with hm | hm
        · exact hX hm
        · exact hc35 hm.symm
      obtain ⟨e1, e2⟩ := cut_unique hT hX' h
      have hs : sumF 7 T = sumF 7 X := by
        have a := dec_round (sumF 7 T)
        rw [e2, dec_round] at a
        exact (Option.some.inj a).symm
      rw [e1] at hs
      exact sumF_set X 7 k c h1 hc hs
  · by_cases h2 : k = X.length
    · subst h2
      have hcc : c ≠ 35 := by
        intro e; apply hc; rw [e]
        rw [List.getElem_append_right (Nat.le_refl _)]; simp
      rw [List.set_append_right _ _ (Nat.le_refl _), Nat.sub_self, List.set_cons_zero] at h
      have hm : (35 : UInt8) ∈ X ++ c :: Lib.decDigits (sumF 7 X) := by rw [← h]; simp
      rcases List.mem_append.1 hm with hm | hm
      · exact hX hm
      · rcases List.mem_cons.1 hm with hm | hm
        · exact hcc hm.symm
        · exact hdig _ hm
    · obtain ⟨j, hj⟩ : ∃ j, k = X.length + (j + 1) := ⟨k - X.length - 1, by omega⟩
      subst hj
      have hjl : j < (Lib.decDigits (sumF 7 X)).length := by simp at hk; omega
      rw [List.set_append_right _ _ (by omega), Nat.add_sub_cancel_left, List.set_cons_succ] at h
      obtain ⟨e1, e2⟩ := cut_unique hT hX h
      rw [e1] at e2
      apply hc
      rw [List.getElem_append_right (by omega)]
      simp only [Nat.add_sub_cancel_left, List.getElem_cons_succ]
      have : ((Lib.decDigits (sumF 7 X)).set j c)[j]'(by simpa using hjl) = c := by simp
      rw [← this]
      simp only [← e2]
theorem sealB_list (s : ByteArray) : (sealB s).data.toList = s.data.toList ++ 35 :: Lib.decDigits (sumF 7 s.data.toList) := by
  unfold sealB sumD
  have : Lib.itoa ((sumF 7 s.data.toList : Nat) : Int) = Lib.decDigits (sumF 7 s.data.toList) := by
    unfold Lib.itoa
    rw [if_neg (by omega)]; rfl
  rw [this]
  simp [ByteArray.data_append]
/-- One byte of a text with its checksum changed: the text is refused. -/
theorem bad_byte {x s : ByteArray} (hx : stB 35 x = false) {k : Nat} {c : UInt8} (hk : k < (sealB x).size) (hc : c ≠ (sealB x)[k]) (hs : s.data.toList = (sealB x).data.toList.set k c) : (verR s).2 = false := by
  unfold verR
  split
  · rename_i h
    exfalso
    obtain ⟨h0, _, h2⟩ := h
    rcases first_cases s 35 with ⟨h1, _⟩ | ⟨i, h1, hi, hb, hf⟩
    · omega
    · have hvT : verT s = s.extract 0 i := by unfold verT; rw [h1]; rfl
      have hT := stB_false (ver_st hi hf)
      rw [hvT] at h2
      have h3 : (sealB (s.extract 0 i)).data.toList = s.data.toList := congrArg (fun z : ByteArray => z.data.toList) h2
      rw [sealB_list, hs, sealB_list] at h3
      have hl : (sealB x).size = (x.data.toList ++ 35 :: Lib.decDigits (sumF 7 x.data.toList)).length := by rw [← sealB_list]; simp
      refine detect_list (stB_false hx) hT (k := k) (c := c) (by omega) ?_ h3
      intro e
      apply hc
      rw [e]
      have hg : (sealB x)[k] = (sealB x).data.toList[k]'(by simpa using hk) := rfl
      rw [hg]
      simp only [sealB_list]
  · rfl
theorem ver_seal {x : ByteArray} (hx : (appR x).2 = true) : stB 35 x = false ∧ (appR x).1 = sealB x ∧ (sealB x).size ≤ 4000 ∧ verR (sealB x) = (x, true) := by
  have h := hx
  unfold appR at h
  split at h
  · rename_i hh
    simp only [Bool.and_eq_true, decide_eq_true_eq, Bool.not_eq_true'] at hh
    obtain ⟨⟨h4, hst⟩, hsz⟩ := hh
    have e1 : (appR x).1 = sealB x := by
      unfold appR
      rw [if_pos (by simp [h4, hst, hsz])]
    refine ⟨hst, e1, hsz, ?_⟩
    rcases first_cases (sealB x) 35 with ⟨h1, h2⟩ | ⟨i, h1, hi, hb, hf⟩
    · exfalso
      have hm : (35 : UInt8) ∈ (sealB x).data.toList := by rw [sealB_list]; simp
      obtain ⟨j, hj, e⟩ := List.getElem_of_mem hm
      exact h2 j (by simpa using hj) e
    · have hT := stB_false (ver_st hi hf)
      have hvT : verT (sealB x) = (sealB x).extract 0 i := by unfold verT; rw [h1]; rfl
      have e : ((sealB x).extract 0 i).data.toList = x.data.toList := by
        obtain ⟨c1, c2, _⟩ : (sealB x).data.toList = (sealB x).data.toList.take i ++ 35 :: (sealB x).data.toList.drop (i + 1) ∧ 35 ∉ (sealB x).data.toList.take i ∧ True := by
          have hl : i < (sealB x).data.toList.length := by simpa using hi
          have hg : (sealB x).data.toList[i] = 35 := hb
          refine ⟨?_, ?_, trivial⟩
          · rw [← hg, List.getElem_cons_drop, List.take_append_drop]
          · rw [Lib.extract_data] at hT; simpa using hT
        rw [Lib.extract_data]
        have e2 := c1
        rw [sealB_list] at c1 c2
        have := (cut_unique c2 (stB_false hst) c1.symm).1
        simpa [sealB_list] using this
      have e3 : (sealB x).extract 0 i = x := ByteArray.ext (Array.toList_inj.1 e)
      unfold verR
      rw [hvT, e3, h1]
      exact if_pos ⟨by omega, hsz, rfl⟩
  · exact absurd h (by simp)
theorem any1_any (g N : Nat) (w : World) (h : Cur w g N 51) (hN : N ≤ 549755813888) :
    Calls Tryd.prog 37 #[.pointer (some ⟨g, 0, none⟩)] w fun e w' => ∃ s : ByteArray, e = .returned (.string s) ∧ s.size ≤ 10 ∧ Cur w' g (N + 2) 51 ∧ w.grownBy w' (some g) := by
  have hlt := h.lt
  go_enter Tryd.func37, Tryd.ntmps37
  go_wp2_with fail
  refine (of_any g N _ 9 9 10 _ _ (h.below (bnew (Below.refl _ _) _)) hN rfl (by decide) (by decide) Rd.made (by decide) (fun ad e => by cases e; simp; omega)).mono ?_
  rintro e w1 ⟨s, rfl, hs, hc1, hg1⟩
  go_wp2
  go_ret
  exact ⟨s, rfl, hs, hc1, grown_trans (grown_wide (grown_alloc w _)) hg1⟩
set_option maxHeartbeats 2000000 in
theorem drawFmt_any (A : Option Addr) (n c : Nat) (w : World) (hn : n ≤ maxLen) (hx : RdCode w A n) :
    Calls Tryd.prog 17 #[.slice A n c] w fun e w' => ∃ v : Int, e = .returned (.int .i64 v) ∧ Below w.heap.size w w' := by
  have hc0 := cur_start (w := w) (cap := c) (t := 51) hx hn
  have hb0 : Below w.heap.size w (w.alloc (.cells #[.slice A n c, .int .i64 0, .int .u64 0] 51)) := bnew (Below.refl _ _) _
  go_enter Tryd.func17, Tryd.ntmps17
  go_wp2_with fail
  generalize w.alloc (.cells #[.slice A n c, .int .i64 0, .int .u64 0] 51) = W0 at *
  refine (pick_any _ 0 1000 W0 hc0 (by omega)).mono ?_
  rintro e w1 ⟨v, rfl, hv, hc1, hg1⟩
  have hb1 := cur_below hb0 hg1 (Nat.le_refl _) (Nat.le_refl _)
  have hw : IntKind.i64.wrap (v - 500) = v - 500 := by rw [IntKind.wrap_i64]; omega
  have hlt := hc1.lt
  go_wp2_with fail
  refine (among_any _ _ _ 9 9 _ (fun _ => true) _ (hc1.below (bnew (Below.refl _ _) _)) (by omega) rfl (by decide) (by decide) Rd.made rfl (fun ad e => by cases e; simp; omega)).mono ?_
  rintro e w2 ⟨t, rfl, _, hc2, hg2⟩
  have hb2 := cur_below (bnew hb1 _) hg2 (Nat.le_refl _) (Nat.le_refl _)
  go_wp2
  go_ret
  exact ⟨t, rfl, hb2⟩
set_option maxHeartbeats 2000000 in
theorem drawPar_any (A : Option Addr) (n c : Nat) (w : World) (hn : n ≤ maxLen) (hx : RdCode w A n) :
    Calls Tryd.prog 18 #[.slice A n c] w fun e w' => ∃ s : ByteArray, e = .returned (.string s) ∧ s.size ≤ 20 ∧ Below w.heap.size w w' := by
  have hc0 := cur_start (w := w) (cap := c) (t := 51) hx hn
  have hb0 : Below w.heap.size w (w.alloc (.cells #[.slice A n c, .int .i64 0, .int .u64 0] 51)) := bnew (Below.refl _ _) _
  go_enter Tryd.func18, Tryd.ntmps18
  go_wp2_with fail
  generalize w.alloc (.cells #[.slice A n c, .int .i64 0, .int .u64 0] 51) = W0 at *
  refine (one_any _ 0 2 W0 hc0 (by omega)).mono ?_
  rintro e w1 ⟨b, rfl, hc1, hg1⟩
  have hb1 := cur_below hb0 hg1 (Nat.le_refl _) (Nat.le_refl _)
  have hlt := hc1.lt
  cases b with
  | true =>
    go_wp2_with fail
    refine (of_any _ _ _ 11 11 20 _ _ (hc1.below (bnew (Below.refl _ _) _)) (by omega) rfl (by decide) (by decide) Rd.made (by decide) (fun ad e => by cases e; simp; omega)).mono ?_
    rintro e w2 ⟨t, rfl, ht, hc2, hg2⟩
    have hb2 := cur_below (bnew hb1 _) hg2 (Nat.le_refl _) (Nat.le_refl _)
    go_wp2
    go_ret
    exact ⟨t, rfl, ht, hb2⟩
  | false =>
    go_wp2_with fail
    refine (pick_any _ _ 2000 _ hc1 (by omega)).mono ?_
    rintro e w2 ⟨v, rfl, hv, hc2, hg2⟩
    have hb2 := cur_below hb1 hg2 (Nat.le_refl _) (Nat.le_refl _)
    have hw : IntKind.i64.wrap (v - 1000) = v - 1000 := by rw [IntKind.wrap_i64]; omega
    have HN := Lib.hid (numI_any (v - 1000) (by omega) (by omega) w2)
    have hsz : (⟨(Lib.itoa (v - 1000)).toArray⟩ : ByteArray).size ≤ 20 := (show (Lib.itoa (v - 1000)).toArray.size ≤ 20 by have := @itoa_len (v - 1000) (by omega) (by omega); simp; omega)
    generalize (⟨(Lib.itoa (v - 1000)).toArray⟩ : ByteArray) = D at *
    go_wp2_with (go_at_call 22; refine HN.out.mono ?_; rintro e w3 ⟨rfl, hb3⟩)
    go_ret
    exact ⟨D, rfl, hsz, btr hb2 hb3⟩
set_option maxHeartbeats 2000000 in
theorem drawApp_any (A : Option Addr) (n c : Nat) (w : World) (hn : n ≤ maxLen) (hx : RdCode w A n) :
    Calls Tryd.prog 19 #[.slice A n c] w fun e w' => ∃ s : ByteArray, e = .returned (.string s) ∧ s.size ≤ 4000 ∧ Below w.heap.size w w' := by
  have hc0 := cur_start (w := w) (cap := c) (t := 51) hx hn
  have hb0 : Below w.heap.size w (w.alloc (.cells #[.slice A n c, .int .i64 0, .int .u64 0] 51)) := bnew (Below.refl _ _) _
  go_enter Tryd.func19, Tryd.ntmps19
  go_wp2_with fail
  generalize w.alloc (.cells #[.slice A n c, .int .i64 0, .int .u64 0] 51) = W0 at *
  refine (one_any _ 0 20 W0 hc0 (by omega)).mono ?_
  rintro e w1 ⟨b, rfl, hc1, hg1⟩
  have hb1 := cur_below hb0 hg1 (Nat.le_refl _) (Nat.le_refl _)
  have hlt := hc1.lt
  cases b with
  | false =>
    go_wp2_with fail
    refine (any1_any _ _ _ hc1 (by omega)).mono ?_
    rintro e w2 ⟨s, rfl, hs, hc2, hg2⟩
    have hb2 := cur_below hb1 hg2 (Nat.le_refl _) (Nat.le_refl _)
    go_wp2
    go_ret
    exact ⟨s, rfl, by omega, hb2⟩
  | true =>
    go_wp2_with fail
    refine (pick_any _ _ 10 _ hc1 (by omega)).mono ?_
    rintro e w3 ⟨v, rfl, hv, hc3, hg3⟩
    have hb3 := cur_below hb1 hg3 (Nat.le_refl _) (Nat.le_refl _)
    obtain ⟨z, hz⟩ : ∃ z : Nat, 3990 + v = z := ⟨(3990 + v).toNat, by omega⟩
    have hzw : IntKind.i64.wrap (3990 + v) = (z : Int) := by rw [IntKind.wrap_i64]; omega
    have hz5 : z ≤ 4000 := by omega
    have hZs : (⟨(List.replicate z (0 : UInt8)).toArray⟩ : ByteArray).size ≤ 4000 := by show (List.replicate z (0 : UInt8)).toArray.size ≤ 4000; simp; omega
    obtain ⟨Z, hZ⟩ : ∃ Z : ByteArray, Z = ⟨(List.replicate z (0 : UInt8)).toArray⟩ := ⟨_, rfl⟩
    rw [← hZ] at hZs
    have HZE := Lib.hid hZ
    clear hz hZ hv
    go_wp2_with (refine wpl_makez rfl (.tmp 11) (.tmp 11) 29 rfl Tryd.underlying29 (z := .int .u8 0) (bytes := 1) (by kernel_rfl) rfl rfl rfl rfl rfl (n := z) (base := w3.heap.size) (by omega) (by unfold maxLen; omega) (Nat.le_refl _) ?_; intro w4 hom hg4; have hcv := conv_zeros Tryd.underlying29 Tryd.underlying5 Tryd.underlying9 hom; rw [← HZE.out] at hcv; have hb34 : Below w3.heap.size w3 w4 := below_grown hg4 (Nat.le_refl _) (by simp); have hb4 := btr hb3 hb34)
    go_ret
    exact ⟨Z, rfl, hZs, hb4⟩
/-- A byte of a code, or a number for it. -/
theorem vAt_val (A : Option Addr) (n c i : Nat) (w : World) (hn : n ≤ 65536) (hi : i ≤ 100) (hx : RdCode w A n) : ∃ v : Nat, v ≤ 255 ∧ ∀ w1, Below w.heap.size w w1 → Calls Tryd.prog 20 #[.slice A n c, .int .i64 i] w1 fun e w' => e = .returned (.int .i64 v) ∧ w' = w1 := by
  by_cases h : i < n
  · rcases hx with h0 | ⟨b, off, rfl, hc⟩
    · omega
    · obtain ⟨v, hv0, hv1, hcell⟩ := hc i h
      obtain ⟨u, rfl⟩ : ∃ u : Nat, v = u := ⟨v.toNat, by omega⟩
      refine ⟨u, by omega, fun w1 hb => ?_⟩
      have c0 := (hb.cell (World.block_lt_of_cell? w _ hcell)).trans hcell
      have hI : (i : Int) < (n : Int) := by omega
      clear hc hcell
      go_enter Tryd.func20, Tryd.ntmps20
      go_wp2
      go_ret
      exact ⟨rfl, rfl⟩
  · refine ⟨(i * 7 + n) % 256, by omega, fun w1 _ => ?_⟩
    have hI : ¬ (i : Int) < (n : Int) := by omega
    have hw1 : IntKind.i64.wrap ((i : Int) * 7) = (i : Int) * 7 := by rw [IntKind.wrap_i64]; omega
    have hw2 : IntKind.i64.wrap ((i : Int) * 7 + (n : Int)) = (i : Int) * 7 + (n : Int) := by rw [IntKind.wrap_i64]; omega
    have ht : ((i : Int) * 7 + (n : Int)).tmod 256 = (((i * 7 + n) % 256 : Nat) : Int) := by rw [Int.tmod_eq_emod_of_nonneg (by omega)]; omega
    clear hx
    go_enter Tryd.func20, Tryd.ntmps20
    go_wp2
    go_ret
    exact ⟨by simp, rfl⟩
end Go.Proofs.YtpdohkcidlcboaaDoor
