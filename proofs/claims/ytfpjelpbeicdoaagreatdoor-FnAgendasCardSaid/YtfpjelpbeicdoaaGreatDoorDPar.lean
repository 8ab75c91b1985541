/-
  l1Read and ParseInt: both texts. Conditions: the library's table of powers of ten is as laid, and its error for a bad syntax.
-/
import Derived.Test.YtfpjelpbeicdoaaGreatDoorDNum
import Derived.Test.YtfpjelpbeicdoaaGreatDoorDFmt
import Derived.Lib.Atoi
import Derived.Lib.Strings
import Derived.Lib.AtoiErrMem
import Derived.Lib.AtoiBound
namespace Go.My
open Go.RowKit
/-- What the reference's text and the program's say of a numeral: the number between -999999 and 999999 whose decimal text it is. -/
def readR (s : ByteArray) : Int × Bool := match Lib.atoi s.data.toList with
  | some n => if -999999 ≤ n ∧ n ≤ 999999 ∧ Lib.itoa n = s.data.toList then (n, true) else (0, false)
  | none => (0, false)
theorem dec_one {n : Nat} (h : n < 10) : Lib.decDigits n = [UInt8.ofNat (48 + n)] := by rw [Lib.decDigits]; rw [dif_pos h]
theorem dec_more {n : Nat} (h : ¬ n < 10) : Lib.decDigits n = Lib.decDigits (n / 10) ++ [UInt8.ofNat (48 + n % 10)] := by rw [Lib.decDigits]; rw [dif_neg h]
theorem dec_len_le : ∀ (k n : Nat), n < 10 ^ (k + 1) → (Lib.decDigits n).length ≤ k + 1 := by
  intro k
  induction k with
  | zero => intro n hn; rw [dec_one (by simpa using hn)]; simp
  | succ k ih =>
    intro n hn
    by_cases h10 : n < 10
    · rw [dec_one h10]; simp
    · rw [dec_more h10, List.length_append]
      have := ih (n / 10) (by rw [Nat.pow_succ] at hn; omega)
      simp; omega
theorem dec_ne (n : Nat) : Lib.decDigits n ≠ [] := by
  by_cases h : n < 10
  · rw [dec_one h]; simp
  · rw [dec_more h]; simp
theorem digit_nat (d : Nat) (h : d < 10) : (UInt8.ofNat (48 + d)).toNat = 48 + d := by
  rw [UInt8.toNat_ofNat']; omega
theorem dec_digit : ∀ (n : Nat), ∀ c ∈ Lib.decDigits n, 48 ≤ c.toNat ∧ c.toNat ≤ 57 := by
  intro n
  induction n using Nat.strongRecOn with
  | ind n ih =>
    by_cases h : n < 10
    · rw [dec_one h]
      intro c hc
      simp only [List.mem_singleton] at hc
      subst hc
      rw [digit_nat _ h]; omega
    · rw [dec_more h]
      intro c hc
      rcases List.mem_append.1 hc with hc | hc
      · exact ih _ (by omega) c hc
      · simp only [List.mem_singleton] at hc
        subst hc
        rw [digit_nat _ (by omega)]; omega
theorem decFrom_app (b : UInt8) : ∀ (l : List UInt8) (acc : Nat), Lib.decFrom acc (l ++ [b]) = (Lib.decFrom acc l).bind fun m => (Lib.digitVal b).map fun d => m * 10 + d
  | [], acc => by
    simp only [List.nil_append, Lib.decFrom, Option.bind_some]
    cases Lib.digitVal b <;> rfl
  | c :: l, acc => by
    simp only [List.cons_append, Lib.decFrom]
    cases Lib.digitVal c with
    | none => rfl
    | some d => exact decFrom_app b l _
theorem digitVal_of (d : Nat) (h : d < 10) : Lib.digitVal (UInt8.ofNat (48 + d)) = some d := by
  unfold Lib.digitVal
  rw [digit_nat d h, if_pos (by omega)]
  congr 1; omega
theorem dec_round : ∀ n, Lib.decFrom 0 (Lib.decDigits n) = some n := by
  intro n
  induction n using Nat.strongRecOn with
  | ind n ih =>
    by_cases h : n < 10
    · rw [dec_one h]
      show (match Lib.digitVal (UInt8.ofNat (48 + n)) with | some d => some (0 * 10 + d) | none => none) = _
      rw [digitVal_of n h]; simp
    · rw [dec_more h, decFrom_app, ih _ (by omega), digitVal_of _ (by omega)]
      simp only [Option.bind_some, Option.map_some, Option.some.injEq]
      omega
theorem decNat_dec (n : Nat) : Lib.decNat (Lib.decDigits n) = some n := by
  unfold Lib.decNat
  rw [if_neg (by simpa using dec_ne n)]
  exact dec_round n
theorem atoi_itoa (n : Int) : Lib.atoi (Lib.itoa n) = some n := by
  unfold Lib.itoa
  by_cases h : n < 0
  · rw [if_pos h]
    have h45 : ((45 : UInt8) == 45) = true := rfl
    simp only [Lib.atoi, h45, if_true, decNat_dec, Option.map_some, Option.some.injEq]
    omega
  · rw [if_neg h]
    obtain ⟨c, r, hcr⟩ : ∃ c r, Lib.decDigits n.toNat = c :: r := by
      cases hd : Lib.decDigits n.toNat with
      | nil => exact absurd hd (dec_ne _)
      | cons c r => exact ⟨c, r, rfl⟩
    have hc := dec_digit n.toNat c (by rw [hcr]; simp)
    have h45 : (c == 45) = false := by
      rw [beq_eq_false_iff_ne]; rintro rfl; have : (45 : UInt8).toNat = 45 := rfl; omega
    have h43 : (c == 43) = false := by
      rw [beq_eq_false_iff_ne]; rintro rfl; have : (43 : UInt8).toNat = 43 := rfl; omega
    have hdn := decNat_dec n.toNat
    rw [hcr] at hdn ⊢
    simp only [Lib.atoi, h45, h43, Bool.false_eq_true, if_false, hdn, Option.map_some, Option.some.injEq]
    omega
theorem itoa_inj {a b : Int} (h : Lib.itoa a = Lib.itoa b) : a = b := by
  have ha := atoi_itoa a
  rw [h, atoi_itoa b] at ha
  exact (Option.some.inj ha).symm
theorem itoa_len {n : Int} (h0 : -999999 ≤ n) (h1 : n ≤ 999999) : (Lib.itoa n).length ≤ 7 := by
  unfold Lib.itoa
  split
  · have := dec_len_le 5 n.natAbs (by omega)
    simp; omega
  · have := dec_len_le 5 n.toNat (by omega)
    omega
theorem read_yes {s : ByteArray} {n : Int} (h0 : -999999 ≤ n) (h1 : n ≤ 999999) (h : Lib.itoa n = s.data.toList) : readR s = (n, true) := by
  unfold readR
  rw [← h, atoi_itoa]
  simp only
  rw [if_pos ⟨h0, h1, trivial⟩]
theorem read_no {s : ByteArray} (h : ∀ n : Int, -999999 ≤ n → n ≤ 999999 → Lib.itoa n ≠ s.data.toList) : readR s = (0, false) := by
  unfold readR
  split
  · rw [if_neg (fun hh => h _ hh.1 hh.2.1 hh.2.2)]
  · rfl
theorem read_cases (s : ByteArray) : (∃ n : Int, -999999 ≤ n ∧ n ≤ 999999 ∧ Lib.itoa n = s.data.toList ∧ readR s = (n, true)) ∨ ((∀ n : Int, -999999 ≤ n → n ≤ 999999 → Lib.itoa n ≠ s.data.toList) ∧ readR s = (0, false)) := by
  by_cases h : ∃ n : Int, -999999 ≤ n ∧ n ≤ 999999 ∧ Lib.itoa n = s.data.toList
  · obtain ⟨n, h0, h1, h2⟩ := h
    exact .inl ⟨n, h0, h1, h2, read_yes h0 h1 h2⟩
  · have h' : ∀ n : Int, -999999 ≤ n → n ≤ 999999 → Lib.itoa n ≠ s.data.toList := fun n h0 h1 h2 => h ⟨n, h0, h1, h2⟩
    exact .inr ⟨h', read_no h'⟩
theorem read_bound (s : ByteArray) : -999999 ≤ (readR s).1 ∧ (readR s).1 ≤ 999999 := by
  rcases read_cases s with ⟨n, h0, h1, _, h⟩ | ⟨_, h⟩
  · rw [h]; exact ⟨h0, h1⟩
  · rw [h]; simp
/-- The digits of a numeral: behind a sign, or all of it. -/
def Tail (s T : ByteArray) (sg : Int → Int) : Prop := ∀ n : Int, Lib.itoa n = s.data.toList → ∃ m : Nat, T.data.toList = Lib.decDigits m ∧ n = sg m ∧ (m : Int) = n.natAbs
theorem tail_neg {s : ByteArray} (h : 1 < s.size) (h0 : s[0] = 45) : Tail s (s.extract 1 s.size) (fun x => -x) := by
  intro n hn
  have hs : s.data.toList = 45 :: (s.extract 1 s.size).data.toList := by
    rw [Lib.extract_data]
    have hl : 0 < s.data.toList.length := by simpa using (show 0 < s.size by omega)
    have : s.data.toList = s.data.toList[0] :: s.data.toList.drop 1 := by rw [List.getElem_cons_drop]; rfl
    have e0 : s.data.toList[0] = 45 := h0
    rw [e0] at this
    rw [this]
    have hl2 : (s.data.toList.drop 1).length = s.size - 1 := by simp
    rw [List.drop_succ_cons, List.drop_zero, List.take_of_length_le (by rw [hl2]; omega)]
  rw [hs] at hn
  unfold Lib.itoa at hn
  by_cases hneg : n < 0
  · rw [if_pos hneg] at hn
    exact ⟨n.natAbs, (List.cons.inj hn).2.symm, (by show n = -_; omega), rfl⟩
  · rw [if_neg hneg] at hn
    have := dec_digit n.toNat 45 (by rw [hn]; simp)
    have h45 : (45 : UInt8).toNat = 45 := rfl
    omega
theorem tail_pos {s : ByteArray} (h : ∀ h0 : 1 < s.size, s[0] ≠ 45) : Tail s s (fun x => x) := by
  intro n hn
  unfold Lib.itoa at hn
  by_cases hneg : n < 0
  · rw [if_pos hneg] at hn
    have hl : 1 < s.size := by
      have h1 : (45 :: Lib.decDigits n.natAbs).length = s.size := by rw [hn]; simp
      have h2 : 0 < (Lib.decDigits n.natAbs).length := List.length_pos_iff.2 (dec_ne _)
      simp at h1; omega
    have e0 : s.data.toList[0]'(by simpa using (show 0 < s.size by omega)) = 45 := by simp [← hn]
    exact absurd e0 (h hl)
  · rw [if_neg hneg] at hn
    exact ⟨n.toNat, hn.symm, (by show n = ((n.toNat : Nat) : Int); omega), by omega⟩
theorem tail_size {s T : ByteArray} {sg : Int → Int} (h : Tail s T sg) (hT : ¬ (1 ≤ T.size ∧ T.size ≤ 6)) : readR s = (0, false) := by
  refine read_no fun n h0 h1 hn => hT ?_
  obtain ⟨m, hm, _, hm2⟩ := h n hn
  have h1 : T.size = (Lib.decDigits m).length := by rw [← hm]; simp
  have h2 : 0 < (Lib.decDigits m).length := List.length_pos_iff.2 (dec_ne _)
  have h3 := dec_len_le 5 m (by omega)
  omega
theorem tail_digit {s T : ByteArray} {sg : Int → Int} (h : Tail s T sg) {k : Nat} (hk : k < T.size) (hd : T[k].toNat < 48 ∨ 57 < T[k].toNat) : readR s = (0, false) := by
  refine read_no fun n h0 h1 hn => ?_
  obtain ⟨m, hm, _, _⟩ := h n hn
  have hmem : T[k] ∈ T.data.toList := by
    have : T.data.toList[k]'(by simpa using hk) = T[k] := rfl
    rw [← this]; exact List.getElem_mem _
  rw [hm] at hmem
  have := dec_digit m _ hmem
  omega
theorem tail_end {s T : ByteArray} {sg : Int → Int} (h : Tail s T sg) {acc : Nat} (ha : Lib.decFrom 0 T.data.toList = some acc) (hs : Lib.itoa (sg acc) ≠ s.data.toList) : readR s = (0, false) := by
  refine read_no fun n h0 h1 hn => ?_
  obtain ⟨m, hm, e, _⟩ := h n hn
  rw [hm, dec_round] at ha
  obtain rfl := Option.some.inj ha
  exact hs (by rw [← e]; exact hn)
theorem take_digit {T : ByteArray} {k acc : Nat} (hk : k < T.size) (h : Lib.decFrom 0 (T.data.toList.take k) = some acc) (h0 : 48 ≤ T[k].toNat) (h1 : T[k].toNat ≤ 57) :
    Lib.decFrom 0 (T.data.toList.take (k + 1)) = some (acc * 10 + (T[k].toNat - 48)) := by
  refine Lib.decFrom_take T.data.toList k 0 acc T[k] _ h ?_ ?_
  · rw [List.getElem?_eq_getElem (by simpa using hk)]; rfl
  · unfold Lib.digitVal
    rw [if_pos ⟨h0, h1⟩]
theorem take_lt {T : ByteArray} {k acc : Nat} (hk : k ≤ 6) (h : Lib.decFrom 0 (T.data.toList.take k) = some acc) : acc < 1000000 := by
  have := Lib.decFrom_lt _ _ _ h
  have h2 : (T.data.toList.take k).length ≤ 6 := by rw [List.length_take]; omega
  have h3 : 10 ^ (T.data.toList.take k).length ≤ 10 ^ 6 := Nat.pow_le_pow_right (by omega) h2
  omega
theorem toList_ne {a b : ByteArray} (h : a ≠ b) : (a.toList == b.toList) = false := by
  rw [beq_eq_false_iff_ne, ByteArray.toList_eq, ByteArray.toList_eq]
  intro e
  apply h
  obtain ⟨⟨x⟩⟩ := a
  obtain ⟨⟨y⟩⟩ := b
  simp at e
  subst e
  rfl
end Go.My
namespace Go.Proofs.YtfpjelpbeicdoaaGreatDoor
open Go.RowKit Go.My
set_option maxHeartbeats 1000000 in
theorem l1Read_any (s : ByteArray) (w : World) (hs : s.size ≤ 1048576) :
    Calls Tryz.prog 61 #[.string s] w fun e w' => e = .returned (.tuple #[.int .i64 (readR s).1, .bool (readR s).2]) ∧ Below w.heap.size w w' := by
  by_cases h1 : 1 < s.size
  · have h1I : (1 : Int) < (s.size : Int) := by omega
    have hc0 : s[0].toNat < 256 := s[0].toNat_lt
    by_cases h45 : s[0] = 45
    · have HT : Hid (Tail s (s.extract 1 s.size) (fun x => -x)) := tail_neg h1 h45
      have h45n : s[0].toNat = 45 := by rw [h45]; rfl
      have hTs : (s.extract 1 s.size).size = s.size - 1 := by simp
      by_cases hz : 1 ≤ s.size - 1 ∧ s.size - 1 ≤ 6
      · have HB : inB ((s.size - 1 : Nat) : Int) 1 6 = true := inB_yes (by omega)
        go_enter Tryz.func61, Tryz.ntmps61
        go_wp2_with (go_at_call 52; refine (l1In_any _ _ _ _).mono ?_; rintro e w9 ⟨rfl, rfl⟩)
        generalize s.extract 1 s.size = T at *; have hT8 : T.size < s.size := (by omega); have hT9 : (T.size : Int) < (s.size : Int) := (by omega); rw [← hTs] at hz; clear hTs HB
        obtain ⟨hz0, hz6⟩ := hz
        go_loop [5, 6] (fun n i => ∃ k acc : Nat, k ≤ T.size ∧ acc < 1000000 ∧ i = .int .i64 k ∧ n = .int .i64 acc ∧ Hid (Lib.decFrom 0 (T.data.toList.take k) = some acc)) (fun _ i => T.size - (intOf i).toNat)
        case atStart => exact ⟨0, 0, by omega, by omega, rfl, rfl, rfl⟩
        case round =>
          obtain ⟨k, acc, hk, hacc, rfl, rfl, H⟩ := hrel
          by_cases hlt : k < T.size
          · have hkI : (k : Int) < (T.size : Int) := by omega
            have hc : T[k].toNat < 256 := T[k].toNat_lt
            by_cases hd : 48 ≤ T[k].toNat ∧ T[k].toNat ≤ 57
            · obtain ⟨hd0, hd1⟩ := hd
              have HN := Lib.hid (take_digit hlt H.out hd0 hd1)
              have HL := Lib.hid (take_lt (by omega : k + 1 ≤ 6) HN.out)
              obtain ⟨c, hcc⟩ : ∃ c : Nat, T[k].toNat = c + 48 := ⟨T[k].toNat - 48, by omega⟩
              have hc9 : c ≤ 9 := by omega
              rw [show acc * 10 + (T[k].toNat - 48) = acc * 10 + c by omega] at HN HL
              have hl := HL.out
              clear H
              go_wp2
              go_round
              case rel => exact ⟨k + 1, acc * 10 + c, by omega, hl, by go_num, by go_num, HN⟩
              case measure => simp [intOf]; omega
            · have HR := Lib.hid (tail_digit HT.out hlt (by omega))
              by_cases hd0 : T[k].toNat < 48
              · clear hd H
                go_wp2
                exact bodyPost_ret (v := .tuple #[.int .i64 0, .bool false]) (by simp [results, Tryz.results61, go_sem]) rfl ⟨by rw [HR.out], Below.refl _ _⟩
              · have hd1 : 57 < T[k].toNat := by omega
                clear hd H
                go_wp2
                exact bodyPost_ret (v := .tuple #[.int .i64 0, .bool false]) (by simp [results, Tryz.results61, go_sem]) rfl ⟨by rw [HR.out], Below.refl _ _⟩
          · have hkn : k = T.size := by omega
            have HA : Hid (Lib.decFrom 0 T.data.toList = some acc) := by
              have := H.out
              rwa [List.take_of_length_le (by simp; omega)] at this
            have H0 := numI_any (-(acc : Int)) (by omega) (by omega)
            have hDs : (⟨(Lib.itoa (-(acc : Int))).toArray⟩ : ByteArray).size ≤ 20 := (show (Lib.itoa (-(acc : Int))).toArray.size ≤ 20 by have := @itoa_len (-(acc : Int)) (by omega) (by omega); simp; omega)
            obtain ⟨D, hD⟩ : ∃ D : ByteArray, D = ⟨(Lib.itoa (-(acc : Int))).toArray⟩ := ⟨_, rfl⟩
            simp only [← hD] at H0 hDs
            have HNum := Lib.hid H0
            have hneq : D = s ↔ Lib.itoa (-(acc : Int)) = s.data.toList := by rw [hD]; exact ⟨fun h => by rw [← h], fun h => by apply ByteArray.ext; simp [h]⟩
            by_cases hq : D = s
            · have HR : Hid (readR s = (-(acc : Int), true)) := read_yes (by omega) (by omega) (hneq.1 hq)
              subst hq
              clear H hneq H0 hD HA
              go_wp2_with (go_at_call 68; refine (HNum.out _).mono ?_; rintro e w9 ⟨rfl, hb9⟩)
              exact bodyPost_ret (v := .tuple #[.int .i64 (-(acc : Int)), .bool true]) (by simp [results, Tryz.results61, go_sem]) rfl ⟨by rw [HR.out], hb9⟩
            · have HR := Lib.hid (tail_end HT.out HA.out (fun h => hq (hneq.2 h)))
              have hne2 := toList_ne hq
              have hne : (D == s) = false := by rw [beq_toListBytes]; exact hne2
              clear H hneq H0 hD HA
              go_wp2_with (go_at_call 68; refine (HNum.out _).mono ?_; rintro e w9 ⟨rfl, hb9⟩)
              exact bodyPost_ret (v := .tuple #[.int .i64 0, .bool false]) (by simp [results, Tryz.results61, go_sem]) rfl ⟨by rw [HR.out], hb9⟩
      · have HB : inB ((s.size - 1 : Nat) : Int) 1 6 = false := inB_no (by omega)
        have HR := Lib.hid (tail_size HT.out (by rw [hTs]; exact hz))
        clear hz
        go_enter Tryz.func61, Tryz.ntmps61
        go_wp2_with (go_at_call 52; refine (l1In_any _ _ _ _).mono ?_; rintro e w9 ⟨rfl, rfl⟩)
        exact bodyPost_ret (v := .tuple #[.int .i64 0, .bool false]) (by simp [results, Tryz.results61, go_sem]) rfl ⟨by rw [HR.out], Below.refl _ _⟩
    · have HT : Hid (Tail s s (fun x => x)) := tail_pos (fun _ => h45)
      have h45n : s[0].toNat ≠ 45 := fun h => h45 (UInt8.toNat_inj.1 h)
      by_cases hz : 1 ≤ s.size ∧ s.size ≤ 6
      · have HB : inB ((s.size : Nat) : Int) 1 6 = true := inB_yes (by omega)
        go_enter Tryz.func61, Tryz.ntmps61
        go_wp2_with (go_at_call 52; refine (l1In_any _ _ _ _).mono ?_; rintro e w9 ⟨rfl, rfl⟩)
        obtain ⟨hz0, hz6⟩ := hz
        go_loop [5, 6] (fun n i => ∃ k acc : Nat, k ≤ s.size ∧ acc < 1000000 ∧ i = .int .i64 k ∧ n = .int .i64 acc ∧ Hid (Lib.decFrom 0 (s.data.toList.take k) = some acc)) (fun _ i => s.size - (intOf i).toNat)
        case atStart => exact ⟨0, 0, by omega, by omega, rfl, rfl, rfl⟩
        case round =>
          obtain ⟨k, acc, hk, hacc, rfl, rfl, H⟩ := hrel
          by_cases hlt : k < s.size
          · have hkI : (k : Int) < (s.size : Int) := by omega
            have hc : s[k].toNat < 256 := s[k].toNat_lt
            by_cases hd : 48 ≤ s[k].toNat ∧ s[k].toNat ≤ 57
            · obtain ⟨hd0, hd1⟩ := hd
              have HN := Lib.hid (take_digit hlt H.out hd0 hd1)
              have HL := Lib.hid (take_lt (by omega : k + 1 ≤ 6) HN.out)
              obtain ⟨c, hcc⟩ : ∃ c : Nat, s[k].toNat = c + 48 := ⟨s[k].toNat - 48, by omega⟩
              have hc9 : c ≤ 9 := by omega
              rw [show acc * 10 + (s[k].toNat - 48) = acc * 10 + c by omega] at HN HL
              have hl := HL.out
              clear H
              go_wp2
              go_round
              case rel => exact ⟨k + 1, acc * 10 + c, by omega, hl, by go_num, by go_num, HN⟩
              case measure => simp [intOf]; omega
            · have HR := Lib.hid (tail_digit HT.out hlt (by omega))
              by_cases hd0 : s[k].toNat < 48
              · clear hd H
                go_wp2
                exact bodyPost_ret (v := .tuple #[.int .i64 0, .bool false]) (by simp [results, Tryz.results61, go_sem]) rfl ⟨by rw [HR.out], Below.refl _ _⟩
              · have hd1 : 57 < s[k].toNat := by omega
                clear hd H
                go_wp2
                exact bodyPost_ret (v := .tuple #[.int .i64 0, .bool false]) (by simp [results, Tryz.results61, go_sem]) rfl ⟨by rw [HR.out], Below.refl _ _⟩
          · have hkn : k = s.size := by omega
            have HA : Hid (Lib.decFrom 0 s.data.toList = some acc) := by
              have := H.out
              rwa [List.take_of_length_le (by simp; omega)] at this
            have H0 := numI_any ((acc : Int)) (by omega) (by omega)
            have hDs : (⟨(Lib.itoa ((acc : Int))).toArray⟩ : ByteArray).size ≤ 20 := (show (Lib.itoa ((acc : Int))).toArray.size ≤ 20 by have := @itoa_len ((acc : Int)) (by omega) (by omega); simp; omega)
            obtain ⟨D, hD⟩ : ∃ D : ByteArray, D = ⟨(Lib.itoa ((acc : Int))).toArray⟩ := ⟨_, rfl⟩
            simp only [← hD] at H0 hDs
            have HNum := Lib.hid H0
            have hneq : D = s ↔ Lib.itoa ((acc : Int)) = s.data.toList := by rw [hD]; exact ⟨fun h => by rw [← h], fun h => by apply ByteArray.ext; simp [h]⟩
            by_cases hq : D = s
            · have HR : Hid (readR s = ((acc : Int), true)) := read_yes (by omega) (by omega) (hneq.1 hq)
              subst hq
              clear H hneq H0 hD HA
              go_wp2_with (go_at_call 68; refine (HNum.out _).mono ?_; rintro e w9 ⟨rfl, hb9⟩)
              exact bodyPost_ret (v := .tuple #[.int .i64 ((acc : Int)), .bool true]) (by simp [results, Tryz.results61, go_sem]) rfl ⟨by rw [HR.out], hb9⟩
            · have HR := Lib.hid (tail_end HT.out HA.out (fun h => hq (hneq.2 h)))
              have hne2 := toList_ne hq
              have hne : (D == s) = false := by rw [beq_toListBytes]; exact hne2
              clear H hneq H0 hD HA
              go_wp2_with (go_at_call 68; refine (HNum.out _).mono ?_; rintro e w9 ⟨rfl, hb9⟩)
              exact bodyPost_ret (v := .tuple #[.int .i64 0, .bool false]) (by simp [results, Tryz.results61, go_sem]) rfl ⟨by rw [HR.out], hb9⟩
      · have HB : inB ((s.size : Nat) : Int) 1 6 = false := inB_no (by omega)
        have HR := Lib.hid (tail_size HT.out hz)
        clear hz
        go_enter Tryz.func61, Tryz.ntmps61
        go_wp2_with (go_at_call 52; refine (l1In_any _ _ _ _).mono ?_; rintro e w9 ⟨rfl, rfl⟩)
        exact bodyPost_ret (v := .tuple #[.int .i64 0, .bool false]) (by simp [results, Tryz.results61, go_sem]) rfl ⟨by rw [HR.out], Below.refl _ _⟩
  · have HT : Hid (Tail s s (fun x => x)) := tail_pos (fun h => absurd h h1)
    by_cases hz : 1 ≤ s.size ∧ s.size ≤ 6
    · have HB : inB ((s.size : Nat) : Int) 1 6 = true := inB_yes (by omega)
      go_enter Tryz.func61, Tryz.ntmps61
      go_wp2_with (go_at_call 52; refine (l1In_any _ _ _ _).mono ?_; rintro e w9 ⟨rfl, rfl⟩)
      obtain ⟨hz0, hz6⟩ := hz
      go_loop [5, 6] (fun n i => ∃ k acc : Nat, k ≤ s.size ∧ acc < 1000000 ∧ i = .int .i64 k ∧ n = .int .i64 acc ∧ Hid (Lib.decFrom 0 (s.data.toList.take k) = some acc)) (fun _ i => s.size - (intOf i).toNat)
      case atStart => exact ⟨0, 0, by omega, by omega, rfl, rfl, rfl⟩
      case round =>
        obtain ⟨k, acc, hk, hacc, rfl, rfl, H⟩ := hrel
        by_cases hlt : k < s.size
        · have hkI : (k : Int) < (s.size : Int) := by omega
          have hc : s[k].toNat < 256 := s[k].toNat_lt
          by_cases hd : 48 ≤ s[k].toNat ∧ s[k].toNat ≤ 57
          · obtain ⟨hd0, hd1⟩ := hd
            have HN := Lib.hid (take_digit hlt H.out hd0 hd1)
            have HL := Lib.hid (take_lt (by omega : k + 1 ≤ 6) HN.out)
            obtain ⟨c, hcc⟩ : ∃ c : Nat, s[k].toNat = c + 48 := ⟨s[k].toNat - 48, by omega⟩
            have hc9 : c ≤ 9 := by omega
            rw [show acc * 10 + (s[k].toNat - 48) = acc * 10 + c by omega] at HN HL
            have hl := HL.out
            clear H
            go_wp2
            go_round
            case rel => exact ⟨k + 1, acc * 10 + c, by omega, hl, by go_num, by go_num, HN⟩
            case measure => simp [intOf]; omega
          · have HR := Lib.hid (tail_digit HT.out hlt (by omega))
            by_cases hd0 : s[k].toNat < 48
            · clear hd H
              go_wp2
              exact bodyPost_ret (v := .tuple #[.int .i64 0, .bool false]) (by simp [results, Tryz.results61, go_sem]) rfl ⟨by rw [HR.out], Below.refl _ _⟩
            · have hd1 : 57 < s[k].toNat := by omega
              clear hd H
              go_wp2
              exact bodyPost_ret (v := .tuple #[.int .i64 0, .bool false]) (by simp [results, Tryz.results61, go_sem]) rfl ⟨by rw [HR.out], Below.refl _ _⟩
        · have hkn : k = s.size := by omega
          have HA : Hid (Lib.decFrom 0 s.data.toList = some acc) := by
            have := H.out
            rwa [List.take_of_length_le (by simp; omega)] at this
          have H0 := numI_any ((acc : Int)) (by omega) (by omega)
          have hDs : (⟨(Lib.itoa ((acc : Int))).toArray⟩ : ByteArray).size ≤ 20 := (show (Lib.itoa ((acc : Int))).toArray.size ≤ 20 by have := @itoa_len ((acc : Int)) (by omega) (by omega); simp; omega)
          obtain ⟨D, hD⟩ : ∃ D : ByteArray, D = ⟨(Lib.itoa ((acc : Int))).toArray⟩ := ⟨_, rfl⟩
          simp only [← hD] at H0 hDs
          have HNum := Lib.hid H0
          have hneq : D = s ↔ Lib.itoa ((acc : Int)) = s.data.toList := by rw [hD]; exact ⟨fun h => by rw [← h], fun h => by apply ByteArray.ext; simp [h]⟩
          by_cases hq : D = s
          · have HR : Hid (readR s = ((acc : Int), true)) := read_yes (by omega) (by omega) (hneq.1 hq)
            subst hq
            clear H hneq H0 hD HA
            go_wp2_with (go_at_call 68; refine (HNum.out _).mono ?_; rintro e w9 ⟨rfl, hb9⟩)
            exact bodyPost_ret (v := .tuple #[.int .i64 ((acc : Int)), .bool true]) (by simp [results, Tryz.results61, go_sem]) rfl ⟨by rw [HR.out], hb9⟩
          · have HR := Lib.hid (tail_end HT.out HA.out (fun h => hq (hneq.2 h)))
            have hne2 := toList_ne hq
            have hne : (D == s) = false := by rw [beq_toListBytes]; exact hne2
            clear H hneq H0 hD HA
            go_wp2_with (go_at_call 68; refine (HNum.out _).mono ?_; rintro e w9 ⟨rfl, hb9⟩)
            exact bodyPost_ret (v := .tuple #[.int .i64 0, .bool false]) (by simp [results, Tryz.results61, go_sem]) rfl ⟨by rw [HR.out], hb9⟩
    · have HB : inB ((s.size : Nat) : Int) 1 6 = false := inB_no (by omega)
      have HR := Lib.hid (tail_size HT.out hz)
      clear hz
      go_enter Tryz.func61, Tryz.ntmps61
      go_wp2_with (go_at_call 52; refine (l1In_any _ _ _ _).mono ?_; rintro e w9 ⟨rfl, rfl⟩)
      exact bodyPost_ret (v := .tuple #[.int .i64 0, .bool false]) (by simp [results, Tryz.results61, go_sem]) rfl ⟨by rw [HR.out], Below.refl _ _⟩
/-- The error for a bad syntax is an interface value. -/
def SynIs (w : World) : Prop := ∃ tp p, w.var? Tryz.prog "strconv.ErrSyntax" = some #[.iface tp p]
theorem SynIs.below {w w' : World} (h : SynIs w) (hb : Below w.heap.size w w') : SynIs w' := by
  obtain ⟨tp, p, h⟩ := h
  refine ⟨tp, p, ?_⟩
  unfold World.var? at *
  cases hg : (Tryz.prog).globalNamed "strconv.ErrSyntax" with
  | none => rw [hg] at h; simp at h
  | some g =>
    rw [hg] at h
    simp only [Option.bind_some] at h ⊢
    have hl : g < w.heap.size := by
      by_cases hl : g < w.heap.size
      · exact hl
      · rw [Array.getElem?_eq_none (by omega)] at h; cases h
    rw [hb.block g hl]
    exact h
set_option maxHeartbeats 1000000 in
theorem implParse_any (s : ByteArray) (w : World) (hsyn : SynIs w) (htab : Lib.TabIs Tryz.prog w "internal/strconv.uint64pow10" .u64 Lib.pow10Tab) :
    Calls Tryz.prog 38 #[.string s] w fun e w' => e = .returned (.tuple #[.int .i64 (readR s).1, .bool (readR s).2]) ∧ Below w.heap.size w w' := by
  by_cases h7 : s.size ≤ 7
  · have h7I : ¬ (7 : Int) < (s.size : Int) := by omega
    cases ha : Lib.atoi s.data.toList with
    | none =>
      have HR : Hid (readR s = (0, false)) := by show _ = _; unfold readR; rw [ha]
      obtain ⟨tp, p, hvar⟩ := hsyn
      have HC := Lib.hid (Tryz.strconv_Atoi_err_var s (by omega) ha tp p w hvar)
      rw [HR.out]
      clear htab hvar ha
      go_enter Tryz.func38, Tryz.ntmps38
      go_wp2_with (go_at_call 59; refine HC.out.mono ?_; rintro e w9 ⟨N, rfl, _, _, hb9⟩)
      exact bodyPost_ret (v := .tuple #[.int .i64 0, .bool false]) (by simp [results, Tryz.results38, go_sem]) rfl ⟨rfl, hb9⟩
    | some n =>
      have hnb := Lib.atoi_bound ha (by simpa using (show s.size ≤ 18 by omega))
      have HC := Lib.hid (Tryz.strconv_Atoi s n (by omega) ha w)
      have hbw : ∀ t, Below w.heap.size w (Lib.bytesWorld w 5 t) := fun t => Lib.bytesWorld_below w 5 t
      by_cases hr : -999999 ≤ n ∧ n ≤ 999999
      · have HB : inB n (-999999) 999999 = true := inB_yes hr
        have HI : Hid (∀ w1, Below w.heap.size w w1 → Calls Tryz.prog 50 #[.int .i64 n] w1 fun e w' => e = .returned (.string ⟨(Lib.itoa n).toArray⟩) ∧ ∃ k os, w' = Go.Sort.grow (w1.drewN k) os) := fun w1 hb => Tryz.strconv_Itoa n (by omega) (by omega) w1 (tab_below htab hb)
        have hneq : (⟨(Lib.itoa n).toArray⟩ : ByteArray) = s ↔ Lib.itoa n = s.data.toList := by
          constructor
          · intro h; rw [← h]
          · intro h; apply ByteArray.ext; simp [h]
        have HRy : Hid (Lib.itoa n = s.data.toList → readR s = (n, true)) := fun h => read_yes hr.1 hr.2 h
        have HRn : Hid (Lib.itoa n ≠ s.data.toList → readR s = (0, false)) := fun h => by unfold readR; rw [ha]; exact if_neg (fun hh => h hh.2.2)
        generalize (⟨(Lib.itoa n).toArray⟩ : ByteArray) = D at *
        clear htab hsyn ha hr hnb
        by_cases hq : D = s
        · have HR := Lib.hid (HRy.out (hneq.1 hq))
          subst hq
          rw [HR.out]
          clear hneq HRy HRn
          go_enter Tryz.func38, Tryz.ntmps38
          go_wp2_with (first | (go_at_call 59; refine HC.out.mono ?_; rintro e w9 ⟨rfl, t9, rfl⟩; have hb9 := hbw t9; generalize Lib.bytesWorld w 5 t9 = W9 at *) | (go_at_call 28; refine (inside_any _ _ _ _).mono ?_; rintro e w8 ⟨rfl, rfl⟩) | (go_at_call 50; refine (HI.out _ hb9).mono ?_; rintro e w7 ⟨rfl, kk, os, rfl⟩; have hb7 := btr hb9 (below_gr W9 kk os); generalize Go.Sort.grow (W9.drewN kk) os = W7 at *))
          exact bodyPost_ret (v := .tuple #[.int .i64 n, .bool true]) (by simp [results, Tryz.results38, go_sem]) rfl ⟨rfl, hb7⟩
        · have HR := Lib.hid (HRn.out (fun h => hq (hneq.2 h)))
          have hne2 := toList_ne hq
          have hne : (D == s) = false := by rw [beq_toListBytes]; exact hne2
          rw [HR.out]
          clear hneq HRy HRn
          go_enter Tryz.func38, Tryz.ntmps38
          go_wp2_with (first | (go_at_call 59; refine HC.out.mono ?_; rintro e w9 ⟨rfl, t9, rfl⟩; have hb9 := hbw t9; generalize Lib.bytesWorld w 5 t9 = W9 at *) | (go_at_call 28; refine (inside_any _ _ _ _).mono ?_; rintro e w8 ⟨rfl, rfl⟩) | (go_at_call 50; refine (HI.out _ hb9).mono ?_; rintro e w7 ⟨rfl, kk, os, rfl⟩; have hb7 := btr hb9 (below_gr W9 kk os); generalize Go.Sort.grow (W9.drewN kk) os = W7 at *))
          exact bodyPost_ret (v := .tuple #[.int .i64 0, .bool false]) (by simp [results, Tryz.results38, go_sem]) rfl ⟨rfl, hb7⟩
      · have HB : inB n (-999999) 999999 = false := inB_no hr
        have HR : Hid (readR s = (0, false)) := by show _ = _; unfold readR; rw [ha]; exact if_neg (fun hh => hr ⟨hh.1, hh.2.1⟩)
        rw [HR.out]
        clear htab hsyn ha hr hnb
        go_enter Tryz.func38, Tryz.ntmps38
        go_wp2_with (first | (go_at_call 59; refine HC.out.mono ?_; rintro e w9 ⟨rfl, t9, rfl⟩; have hb9 := hbw t9; generalize Lib.bytesWorld w 5 t9 = W9 at *) | (go_at_call 28; refine (inside_any _ _ _ _).mono ?_; rintro e w8 ⟨rfl, rfl⟩))
        exact bodyPost_ret (v := .tuple #[.int .i64 0, .bool false]) (by simp [results, Tryz.results38, go_sem]) rfl ⟨rfl, hb9⟩
  · have h7I : (7 : Int) < (s.size : Int) := by omega
    have HR : readR s = (0, false) := read_no fun n h0 h1 hn => h7 (by have := itoa_len h0 h1; rw [hn] at this; simpa using this)
    rw [HR]
    clear hsyn htab
    go_enter Tryz.func38, Tryz.ntmps38
    go_wp2
    exact bodyPost_ret (v := .tuple #[.int .i64 0, .bool false]) (by simp [results, Tryz.results38, go_sem]) rfl ⟨rfl, Below.refl _ _⟩
end Go.Proofs.YtfpjelpbeicdoaaGreatDoor

