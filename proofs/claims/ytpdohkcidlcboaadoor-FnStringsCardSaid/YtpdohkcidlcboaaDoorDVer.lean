/-
  VerifyChecksum: both texts. Conditions: the library's table of powers of ten is as laid; the start-up heap's shape.
-/
import Derived.Test.YtpdohkcidlcboaaDoorDChk
import Derived.Test.YtpdohkcidlcboaaDoorSpl
import Derived.Lib.IndexBytes
import Derived.Lib.IndexLaws
namespace Go.My
open Go.RowKit
theorem cutN_none {s : ByteArray} {b : UInt8} : ∀ k, k ≤ s.size → (∀ j, ∀ h : j < s.size, j < k → s[j] ≠ b) → cutN s b k = ([], 0)
  | 0, _, _ => rfl
  | k + 1, hk, h => by
    rw [cutN_ne (by omega) (h k (by omega) (by omega))]
    exact cutN_none k (by omega) (fun j hj hjk => h j hj (by omega))
theorem cutN_some {s : ByteArray} {b : UInt8} {i : Nat} (hi : i < s.size) (hb : s[i] = b) (h : ∀ j, ∀ hj : j < s.size, j < i → s[j] ≠ b) : ∀ k, i < k → k ≤ s.size → ∃ r, (cutN s b k).1 = s.extract 0 i :: r
  | 0, h0, _ => by omega
  | k + 1, hik, hk => by
    by_cases hki : k = i
    · subst hki
      rw [cutN_eq hi hb, cutN_none k (by omega) h]
      exact ⟨[], rfl⟩
    · obtain ⟨r, hr⟩ := cutN_some hi hb h k (by omega) (by omega)
      by_cases hq : s[k] = b
      · rw [cutN_eq (by omega) hq, hr]; exact ⟨_, rfl⟩
      · rw [cutN_ne (by omega) hq, hr]; exact ⟨_, rfl⟩
theorem split_none {s : ByteArray} {b : UInt8} (h : ∀ j, ∀ hj : j < s.size, s[j] ≠ b) : splitL s b = [s] := by
  unfold splitL
  rw [cutN_none s.size (Nat.le_refl _) (fun j hj _ => h j hj)]
  simp
theorem split_some {s : ByteArray} {b : UInt8} {i : Nat} (hi : i < s.size) (hb : s[i] = b) (h : ∀ j, ∀ hj : j < s.size, j < i → s[j] ≠ b) : ∃ r, splitL s b = s.extract 0 i :: r := by
  obtain ⟨r, hr⟩ := cutN_some hi hb h s.size (by omega) (Nat.le_refl _)
  unfold splitL
  rw [hr]
  exact ⟨_, rfl⟩
theorem data_get {s : ByteArray} {j : Nat} (hj : j < s.size) : s.data.toList[j]? = some s[j] := by
  rw [List.getElem?_eq_getElem (by simpa using hj)]; rfl
/-- Where the first byte b stands. -/
theorem first_cases (s : ByteArray) (b : UInt8) : (Lib.indexByte s.data.toList b = -1 ∧ ∀ j, ∀ hj : j < s.size, s[j] ≠ b) ∨ ∃ i : Nat, Lib.indexByte s.data.toList b = (i : Int) ∧ ∃ hi : i < s.size, s[i] = b ∧ ∀ j, ∀ hj : j < s.size, j < i → s[j] ≠ b := by
  have hge := Lib.indexByte_ge s.data.toList b
  by_cases h : Lib.indexByte s.data.toList b = -1
  · refine .inl ⟨h, fun j hj e => Lib.indexByte_none h j ?_⟩
    rw [data_get hj, e]
  · obtain ⟨i, hi⟩ : ∃ i : Nat, Lib.indexByte s.data.toList b = (i : Int) := ⟨(Lib.indexByte s.data.toList b).toNat, by omega⟩
    obtain ⟨h1, h2⟩ := Lib.indexByte_some hi
    have hl : i < s.size := by
      have := (List.getElem?_eq_some_iff.1 h1).1
      simpa using this
    refine .inr ⟨i, hi, hl, ?_, fun j hj hji e => h2 j hji ?_⟩
    · rw [data_get hl] at h1; exact Option.some.inj h1
    · rw [data_get hj, e]
/-- The package variable bytealg.MaxLen holds some number. -/
def MaxIs (w : World) : Prop := ∃ m, w.cell? ⟨0, 0, none⟩ = some (.int .i64 m)
theorem MaxIs.below {w w' : World} (h : MaxIs w) (hb : Below w.heap.size w w') : MaxIs w' := by
  obtain ⟨m, hm⟩ := h
  exact ⟨m, (hb.cell (World.block_lt_of_cell? w _ hm)).trans hm⟩
end Go.My
namespace Go.Proofs.YtpdohkcidlcboaaDoor
open Go.RowKit Go.My
theorem toList_ne {a b : ByteArray} (h : a ≠ b) : (a.toList == b.toList) = false := by
  rw [beq_eq_false_iff_ne, ByteArray.toList_eq, ByteArray.toList_eq]
  intro e
  apply h
  obtain ⟨⟨x⟩⟩ := a
  obtain ⟨⟨y⟩⟩ := b
  simp at e
  subst e
  rfl
def verT (s : ByteArray) : ByteArray := s.extract 0 (Lib.indexByte s.data.toList 35).toNat
def verR (s : ByteArray) : ByteArray × Bool := if 0 ≤ Lib.indexByte s.data.toList 35 ∧ s.size ≤ 4000 ∧ sealB (verT s) = s then (verT s, true) else (⟨#[]⟩, false)
theorem sealB_size (s : ByteArray) : s.size < (sealB s).size := by
  unfold sealB
  rw [ByteArray.size_append, ByteArray.size_append]
  have : (⟨#[35]⟩ : ByteArray).size = 1 := rfl
  omega
theorem below_drewN (w : World) (n : Nat) : Below w.heap.size w (w.drewN n) := ⟨rfl, rfl, rfl, Nat.le_refl _, fun _ _ => rfl⟩
theorem app_iff {s T : ByteArray} (hT : stB 35 T = false) (hl : T.size ≤ s.size) : ((appR T).2 = true ∧ (appR T).1 = s) ↔ (s.size ≤ 4000 ∧ sealB T = s) := by
  unfold appR
  split
  · rename_i h
    simp only [Bool.and_eq_true, decide_eq_true_eq] at h
    constructor
    · rintro ⟨_, h2⟩
      have h2' : sealB T = s := h2
      exact ⟨by rw [← h2']; exact h.2, h2'⟩
    · rintro ⟨_, h2⟩; exact ⟨rfl, h2⟩
  · rename_i h
    constructor
    · rintro ⟨h1, _⟩; cases h1
    · rintro ⟨h1, h2⟩
      exact absurd (by simp only [Bool.and_eq_true, decide_eq_true_eq, hT]; exact ⟨⟨by omega, rfl⟩, by rw [h2]; exact h1⟩) h
theorem ver_st {s : ByteArray} {i : Nat} (hi : i < s.size) (h : ∀ j, ∀ hj : j < s.size, j < i → s[j] ≠ 35) : stB 35 (s.extract 0 i) = false := by
  unfold stB
  rw [Lib.extract_data, List.any_eq_false]
  intro c hc
  obtain ⟨j, hj, hjc⟩ := List.getElem_of_mem hc
  have hj' : j < i := by simp at hj; omega
  have hjs : j < s.size := by omega
  simp only [beq_iff_eq]
  intro e
  refine h j hjs hj' ?_
  rw [← e, ← hjc]
  simp [List.getElem_take]
  rfl
theorem cut_none {s : ByteArray} (h : Lib.indexByte s.data.toList 35 = -1) : Lib.cut s.data.toList [35] = (s.data.toList, [], false) := by
  unfold Lib.cut
  rw [Lib.index_one, if_neg (by omega)]
theorem cut_some {s : ByteArray} {i : Nat} (h : Lib.indexByte s.data.toList 35 = (i : Int)) : Lib.cut s.data.toList [35] = (s.data.toList.take i, s.data.toList.drop (i + 1), true) := by
  unfold Lib.cut
  rw [Lib.index_one, if_pos (by omega), h]
  simp
theorem take_extract {s : ByteArray} {i : Nat} : (⟨(s.data.toList.take i).toArray⟩ : ByteArray) = s.extract 0 i := by
  have := AnyPlain.small_ba (s.extract 0 i) (s.data.toList.take i) (by rw [Lib.extract_data]; simp)
  exact this.symm
set_option maxHeartbeats 1000000 in
theorem implVer_any (s : ByteArray) (w : World) (hs : s.size ≤ 1048576) (hsh : MaxIs w) (htab : Lib.TabIs Tryd.prog w "internal/strconv.uint64pow10" .u64 Lib.pow10Tab) :
    Calls Tryd.prog 13 #[.string s] w fun e w' => e = .returned (.tuple #[.string (verR s).1, .bool (verR s).2]) ∧ Below w.heap.size w w' := by
  obtain ⟨m, hm⟩ := hsh
  have HC0 := Tryd.strings_Cut s ⟨#[35]⟩ m w (by omega) hm
  clear hm
  rw [show (⟨#[35]⟩ : ByteArray).data.toList = [35] from rfl] at HC0
  rcases first_cases s 35 with ⟨h1, h2⟩ | ⟨i, h1, hi, h2, h3⟩
  · have HR : verR s = (⟨#[]⟩, false) := if_neg (by rw [h1]; omega)
    rw [HR]
    rw [cut_none h1] at HC0
    have HC := Lib.hid HC0
    clear HC0 htab
    go_enter Tryd.func13, Tryd.ntmps13
    go_wp2_with (go_at_call 30; refine HC.out.mono ?_; rintro e w9 ⟨rfl, n, rfl⟩)
    exact bodyPost_ret (v := .tuple #[.string ⟨#[]⟩, .bool false]) (by simp [results, Tryd.results13, go_sem]) rfl ⟨rfl, below_drewN _ _⟩
  · rw [cut_some h1] at HC0
    simp only [take_extract] at HC0
    have hvT : verT s = s.extract 0 i := by unfold verT; rw [h1]; rfl
    have hst := ver_st hi h3
    have hl : (s.extract 0 i).size ≤ s.size := by simp; omega
    have HA := Lib.hid (app_iff hst hl)
    have HT : Hid (verR s = if 0 ≤ Lib.indexByte s.data.toList 35 ∧ s.size ≤ 4000 ∧ sealB (verT s) = s then (verT s, true) else (⟨#[]⟩, false)) := rfl
    rw [hvT, h1] at HT
    have HP : Hid (∀ n, Calls Tryd.prog 11 #[.string (s.extract 0 i)] (w.drewN n) fun e w' => e = .returned (.tuple #[.string (appR (s.extract 0 i)).1, .bool (appR (s.extract 0 i)).2]) ∧ Below (w.drewN n).heap.size (w.drewN n) w') := fun n => implApp_any _ _ (by unfold maxLen; omega) (tab_below htab (below_drewN w n))
    generalize verR s = R at *
    generalize (⟨(s.data.toList.drop (i + 1)).toArray⟩ : ByteArray) = U at *
    have HC := Lib.hid HC0
    clear HC0 htab hst hl hvT h2 h3
    generalize appR (s.extract 0 i) = G at *
    obtain ⟨D, ok⟩ := G
    generalize s.extract 0 i = T at *
    cases ok with
    | false =>
      have HR : Hid (R = (⟨#[]⟩, false)) := HT.out.trans (if_neg (fun h => by have := HA.out.2 h.2; simp at this))
      rw [HR.out]
      clear HT HA
      go_enter Tryd.func13, Tryd.ntmps13
      go_wp2_with (first | (go_at_call 30; refine HC.out.mono ?_; rintro e w9 ⟨rfl, n, rfl⟩) | (go_at_call 11; refine (HP.out _).mono ?_; rintro e w8 ⟨rfl, hb8⟩))
      exact bodyPost_ret (v := .tuple #[.string ⟨#[]⟩, .bool false]) (by simp [results, Tryd.results13, go_sem]) rfl ⟨rfl, btr (below_drewN _ _) hb8⟩
    | true =>
      by_cases hD : D = s
      · subst hD
        have HR : Hid (R = (T, true)) := HT.out.trans (if_pos ⟨by omega, HA.out.1 ⟨rfl, rfl⟩⟩)
        rw [HR.out]
        clear HT HA
        go_enter Tryd.func13, Tryd.ntmps13
        go_wp2_with (first | (go_at_call 30; refine HC.out.mono ?_; rintro e w9 ⟨rfl, n, rfl⟩) | (go_at_call 11; refine (HP.out _).mono ?_; rintro e w8 ⟨rfl, hb8⟩))
        exact bodyPost_ret (v := .tuple #[.string T, .bool true]) (by simp [results, Tryd.results13, go_sem]) rfl ⟨rfl, btr (below_drewN _ _) hb8⟩
      · have HR : Hid (R = (⟨#[]⟩, false)) := HT.out.trans (if_neg (fun h => hD (HA.out.2 h.2).2))
        rw [HR.out]
        have hne2 := toList_ne hD
        have hne : (D == s) = false := by rw [beq_toListBytes]; exact hne2
        clear HT HA
        go_enter Tryd.func13, Tryd.ntmps13
        go_wp2_with (first | (go_at_call 30; refine HC.out.mono ?_; rintro e w9 ⟨rfl, n, rfl⟩) | (go_at_call 11; refine (HP.out _).mono ?_; rintro e w8 ⟨rfl, hb8⟩))
        exact bodyPost_ret (v := .tuple #[.string ⟨#[]⟩, .bool false]) (by simp [results, Tryd.results13, go_sem]) rfl ⟨rfl, btr (below_drewN _ _) hb8⟩
theorem ver_head (s : ByteArray) : ∃ T r, splitL s 35 = T :: r ∧ T.size ≤ s.size ∧ (sealB T = s → verR s = if s.size ≤ 4000 then (T, true) else (⟨#[]⟩, false)) ∧ (sealB T ≠ s → verR s = (⟨#[]⟩, false)) := by
  rcases first_cases s 35 with ⟨h1, h2⟩ | ⟨i, h1, hi, h2, h3⟩
  · refine ⟨s, [], split_none h2, Nat.le_refl _, fun h => ?_, fun _ => if_neg (by rw [h1]; omega)⟩
    have := sealB_size s
    rw [h] at this; omega
  · obtain ⟨r, hr⟩ := split_some hi h2 h3
    have hvT : verT s = s.extract 0 i := by unfold verT; rw [h1]; rfl
    refine ⟨s.extract 0 i, r, hr, by simp; omega, fun h => ?_, fun h => ?_⟩
    · unfold verR
      rw [hvT, h1]
      by_cases h4 : s.size ≤ 4000
      · rw [if_pos ⟨by omega, h4, h⟩, if_pos h4]
      · rw [if_neg (fun hh => h4 hh.2.1), if_neg h4]
    · unfold verR
      rw [hvT, h1]
      exact if_neg (fun hh => h hh.2.2)
set_option maxHeartbeats 1000000 in
theorem specVer_any (s : ByteArray) (w : World) (hs : s.size ≤ 1048576) :
    Calls Tryd.prog 12 #[.string s] w fun e w' => e = .returned (.tuple #[.string (verR s).1, .bool (verR s).2]) ∧ Below w.heap.size w w' := by
  by_cases h4 : s.size ≤ 4000
  · have h4I : ¬ (4000 : Int) < (s.size : Int) := by omega
    obtain ⟨T, r, hsp, hTs, hv1, hv2⟩ := ver_head s
    rw [if_pos h4] at hv1
    have H0 := l1Split_any s 35 w hs
    rw [hsp] at H0
    have H1 : Hid (Calls Tryd.prog 29 #[.string s, .int .u8 35] w _) := H0
    have HV1 := Lib.hid hv1
    have HV2 := Lib.hid hv2
    have H2 : Hid (∀ w1, Calls Tryd.prog 26 #[.string T] w1 fun e w' => e = .returned (.string (sealB T)) ∧ Below w1.heap.size w1 w') := fun w1 => seal_any T w1 (by omega)
    clear H0 hsp hv1 hv2 hTs
    generalize verR s = R at *
    generalize sealB T = S at *
    have hlen : (0 : Int) < ((T :: r).length : Int) := by simp
    go_enter Tryd.func12, Tryd.ntmps12
    go_wp2_with fail
    refine H1.out.mono ?_
    rintro e w1 ⟨A', c', rfl, ho, hb1⟩
    have hrd := own_rd ho
    have hc0 : ∃ b off, A' = some ⟨b, off, none⟩ ∧ w1.cell? ⟨b, off, none⟩ = some (.string T) := by
      rcases hrd with h | ⟨b, off, rfl, hc⟩
      · simp [sCells] at h
      · exact ⟨b, off, rfl, by have := hc 0 (by simp [sCells]); simpa [sCells] using this⟩
    obtain ⟨b, off, rfl, c0⟩ := hc0
    clear hrd ho
    generalize (T :: r).length = len at *
    by_cases hD : S = s
    · subst hD
      have HR := Lib.hid (HV1.out rfl)
      clear HV1 HV2
      go_wp2_with (go_at_call 26; refine (H2.out _).mono ?_; rintro e w8 ⟨rfl, hb8⟩)
      exact bodyPost_ret (v := .tuple #[.string T, .bool true]) (by simp [results, Tryd.results12, go_sem]) rfl ⟨by rw [HR.out], btr hb1 hb8⟩
    · have HR := Lib.hid (HV2.out hD)
      have hne2 := toList_ne hD
      have hne : (S == s) = false := by rw [beq_toListBytes]; exact hne2
      clear HV1 HV2
      go_wp2_with (go_at_call 26; refine (H2.out _).mono ?_; rintro e w8 ⟨rfl, hb8⟩)
      exact bodyPost_ret (v := .tuple #[.string ⟨#[]⟩, .bool false]) (by simp [results, Tryd.results12, go_sem]) rfl ⟨by rw [HR.out], btr hb1 hb8⟩
  · have h4I : (4000 : Int) < (s.size : Int) := by omega
    have HR : verR s = (⟨#[]⟩, false) := if_neg (fun h => h4 h.2.1)
    rw [HR]
    go_enter Tryd.func12, Tryd.ntmps12
    go_wp2
    exact bodyPost_ret (v := .tuple #[.string ⟨#[]⟩, .bool false]) (by simp [results, Tryd.results12, go_sem]) rfl ⟨rfl, Below.refl _ _⟩
theorem law_VerifyChecksum (s : ByteArray) (w : World) (hsh : MaxIs w) (htab : Lib.TabIs Tryd.prog w "internal/strconv.uint64pow10" .u64 Lib.pow10Tab) : Calls Tryd.prog 5 #[.string s] w fun e w' => e = .returned (.bool true) ∧ Below w.heap.size w w' := by
  by_cases hbig : 1048576 < s.size
  · have hI : (1048576 : Int) < (s.size : Int) := by omega
    go_enter Tryd.func5, Tryd.ntmps5
    go_wp2
    go_ret
    exact ⟨rfl, Below.refl _ _⟩
  · have hI : ¬ (1048576 : Int) < (s.size : Int) := by omega
    have H1 := Lib.hid (specVer_any s w (by omega))
    have H2 : Hid (∀ w1, Below w.heap.size w w1 → _) := fun w1 hb => implVer_any s w1 (by omega) (hsh.below hb) (tab_below htab hb)
    generalize verR s = R at *
    obtain ⟨D, b⟩ := R
    clear htab hsh
    go_enter Tryd.func5, Tryd.ntmps5
    go_wp2_with fail
    refine H1.out.mono ?_
    rintro e w1 ⟨rfl, hb1⟩
    go_wp2_with fail
    refine (H2.out w1 hb1).mono ?_
    rintro e w2 ⟨rfl, hb2⟩
    have hb := btr hb1 hb2
    go_wp2
    go_ret
    exact ⟨rfl, hb⟩
end Go.Proofs.YtpdohkcidlcboaaDoor

