/-
  Contracts of JoinStrings, of the program and of the reference. Conditions: lengths within Go's range.
-/
import Derived.Test.YtpdohkcidlcboaaSpl
import Derived.Test.YtpdohkcidlcboaaShelf
import Derived.Lib.Join
namespace Go.My
open Go.RowKit
def bl (xs : List ByteArray) : List (List UInt8) := xs.map (·.data.toList)
def stB (b : UInt8) (s : ByteArray) : Bool := s.data.toList.any fun c => c == b
def joinL (xs : List ByteArray) (t : ByteArray) : List UInt8 := Lib.join (bl xs) t.data.toList
def totl (xs : List ByteArray) : Nat := (xs.map (·.size)).sum
def joinOk (xs : List ByteArray) (t : ByteArray) : Bool := decide (t.size = 1) && decide (xs.length ≠ 0) && (!(xs.any (stB (byte0 t))) && decide ((joinL xs t).length ≤ 4000))
def joinR (xs : List ByteArray) (t : ByteArray) : ByteArray × Bool := if joinOk xs t = true then (⟨(joinL xs t).toArray⟩, true) else (⟨#[]⟩, false)
theorem totl_succ {xs : List ByteArray} {k : Nat} (hk : k < xs.length) : totl (xs.take (k + 1)) = totl (xs.take k) + xs[k].size := by
  unfold totl
  rw [List.take_succ_eq_append_getElem hk, List.map_append, List.sum_append]
  simp only [List.map_cons, List.map_nil, List.sum_cons, List.sum_nil, Nat.add_zero]
theorem totl_le (xs : List ByteArray) (k : Nat) : totl (xs.take k) ≤ totl xs := by
  unfold totl
  conv => rhs; rw [← List.take_append_drop k xs]
  rw [List.map_append, List.sum_append]
  omega
theorem joinL_succ {xs : List ByteArray} {t : ByteArray} {k : Nat} (hk : k < xs.length) (h0 : 0 < k) : joinL (xs.take (k + 1)) t = joinL (xs.take k) t ++ t.data.toList ++ xs[k].data.toList := by
  match xs, k, hk, h0 with
  | x :: r, k + 1, hk, _ =>
    have h : (bl r)[k]? = some ((x :: r)[k + 1]).data.toList := by
      simp only [List.getElem_cons_succ, bl, List.getElem?_map]
      rw [List.getElem?_eq_getElem (by simpa using hk)]; rfl
    have := Lib.joinTail_take_succ t.data.toList (bl r) k _ h
    simp only [joinL, bl, List.take_succ_cons, List.map_cons, Lib.join_cons, List.map_take] at this ⊢
    rw [this]
    simp [List.append_assoc]
theorem joinL_one {xs : List ByteArray} {t : ByteArray} (hk : 0 < xs.length) : joinL (xs.take 1) t = xs[0].data.toList := by
  match xs, hk with
  | x :: r, _ => simp [joinL, bl, Lib.join_one]
theorem joinL_len {xs : List ByteArray} {t : ByteArray} (ht : t.size = 1) : ∀ k, k < xs.length → (joinL (xs.take (k + 1)) t).length = totl (xs.take (k + 1)) + k
  | 0, h => by rw [joinL_one h, totl_succ h]; simp [totl]
  | k + 1, h => by
    rw [joinL_succ h (by omega), totl_succ h, List.length_append, List.length_append, joinL_len ht k (by omega)]
    have : t.data.toList.length = 1 := by simpa using ht
    simp [this]; omega
theorem joinL_all {xs : List ByteArray} {t : ByteArray} (ht : t.size = 1) (h : xs.length ≠ 0) : (joinL xs t).length = totl xs + (xs.length - 1) := by
  have := joinL_len (xs := xs) ht (xs.length - 1) (by omega)
  rw [show xs.length - 1 + 1 = xs.length by omega, List.take_length] at this
  exact this
theorem joinR_len (xs : List ByteArray) (t : ByteArray) : (joinR xs t).1.size ≤ 4000 := by
  unfold joinR
  split
  · rename_i h
    simp only [joinOk, Bool.and_eq_true, decide_eq_true_eq] at h
    show (joinL xs t).toArray.size ≤ 4000
    rw [List.size_toArray]; exact h.2.2
  · show (0 : Nat) ≤ 4000
    omega
theorem any_take1 {α : Type} (p : α → Bool) (xs : List α) (k : Nat) (hk : k < xs.length) : (xs.take (k + 1)).any p = ((xs.take k).any p || p xs[k]) := by
  rw [List.take_succ_eq_append_getElem hk, List.any_append]; simp only [List.any_cons, List.any_nil, Bool.or_false]
theorem any_of_take {α : Type} {p : α → Bool} {xs : List α} {k : Nat} (h : (xs.take k).any p = true) : xs.any p = true := by
  obtain ⟨x, hx, hp⟩ := List.any_eq_true.1 h
  exact List.any_eq_true.2 ⟨x, List.mem_of_mem_take hx, hp⟩
theorem indexByte_any (l : List UInt8) (b : UInt8) : decide (0 ≤ Lib.indexByte l b) = l.any fun c => c == b := by
  induction l with
  | nil => rfl
  | cons c l ih =>
    have hge := Lib.indexByte_ge l b
    rw [List.any_cons, ← ih, show Lib.indexByte (c :: l) b = if c == b then 0 else if Lib.indexByte l b == -1 then -1 else Lib.indexByte l b + 1 from rfl]
    by_cases h : (c == b) = true
    · simp [h]
    · have h' : (c == b) = false := by simpa using h
      rw [h', if_neg (by simp), Bool.false_or]
      split
      · rename_i e
        have e' : Lib.indexByte l b = -1 := by simpa using e
        simp [e']
      · rename_i e
        have e' : ¬ Lib.indexByte l b = -1 := by simpa using e
        rw [decide_eq_decide]; omega
theorem bytes_append (a b : ByteArray) : (a ++ b).data.toList = a.data.toList ++ b.data.toList := by simp
end Go.My
namespace Go.Proofs.Ytpdohkcidlcboaa
open Go.RowKit Go.My
set_option maxHeartbeats 400000 in
theorem l1Stands_any (s : ByteArray) (b : UInt8) (w : World) (hs : s.size ≤ maxLen) :
    Calls Try.prog 30 #[.string s, .int .u8 b.toNat] w fun e w' => e = .returned (.bool (stB b s)) ∧ w = w' := by
  unfold maxLen at hs
  go_enter Try.func30, Try.ntmps30
  go_wp2
  go_loop [5] (fun i => ∃ k : Nat, k ≤ s.size ∧ i = .int .i64 k ∧ Hid ((s.data.toList.take k).any (fun c => c == b) = false)) (fun i => s.size - (intOf i).toNat)
  case atStart => exact ⟨0, Nat.zero_le _, rfl, rfl⟩
  case round =>
    obtain ⟨k, hk, rfl, H⟩ := hrel
    by_cases hlt : k < s.size
    · have hc : s[k].toNat < 256 := s[k].toNat_lt
      have Hn := Lib.hid (any_take1 (fun c => c == b) s.data.toList k (by simpa using hlt))
      have HK : Hid (s.data.toList[k]'(by simpa using hlt) = s[k]) := rfl
      by_cases hq : s[k] = b
      · have Hf : Hid (stB b s = true) := by
          refine any_of_take (k := k + 1) ?_
          rw [Hn.out, HK.out, hq]; simp
        have he : (((s[k].toNat : Nat) : Int) == ((b.toNat : Nat) : Int)) = true := by rw [hq]; simp
        clear H Hn hq
        go_wp2
        go_ret
        exact ⟨by rw [Hf.out]; rfl, rfl⟩
      · have Hf : Hid ((s.data.toList.take (k + 1)).any (fun c => c == b) = false) := Hn.out.trans (by rw [H.out, HK.out]; simpa using hq)
        have he : (((s[k].toNat : Nat) : Int) == ((b.toNat : Nat) : Int)) = false := by
          have : s[k].toNat ≠ b.toNat := fun e => hq (UInt8.toNat_inj.1 e)
          simp; omega
        clear H Hn hq
        go_wp2
        go_round
        case rel => exact ⟨k + 1, by omega, by go_num, Hf⟩
        case measure => simp [intOf]; omega
    · have Hf : Hid (stB b s = false) := by
        have := H.out
        rwa [List.take_of_length_le (by simp; omega)] at this
      clear H
      go_wp2
      go_ret
      exact ⟨by rw [Hf.out]; rfl, rfl⟩
set_option maxHeartbeats 600000 in
theorem specJoin_any (A : Option Addr) (c : Nat) (xs : List ByteArray) (t : ByteArray) (w : World) (hn : xs.length ≤ maxLen) (_ : xs.length ≤ c) (hx : Rd w A (sCells xs)) (_ : ∀ s ∈ xs, s.size ≤ maxLen) (_ : t.size ≤ maxLen) (hlen : xs.length ≤ 1048576) (hsz : ∀ s ∈ xs, s.size ≤ 1048576) :
    Calls Try.prog 19 #[.slice A xs.length c, .string t] w fun en w' => en = .returned (.tuple #[.string (joinR xs t).1, .bool (joinR xs t).2]) ∧ Below w.heap.size w w' := by
  unfold maxLen at hn
  obtain ⟨r, hr⟩ : ∃ r, r = joinR xs t := ⟨_, rfl⟩
  rw [← hr]
  by_cases h1 : t.size = 1
  · have h1b : (((t.size : Nat) : Int) != 1) = false := by simp [h1]
    by_cases h2 : xs.length = 0
    · have HR : Hid (r = (⟨#[]⟩, false)) := hr.trans (if_neg (by simp [joinOk, h2]))
      have h2b : (((xs.length : Nat) : Int) == 0) = true := by simp [h2]
      clear hr hx h2 hsz
      go_enter Try.func19, Try.ntmps19
      go_wp2
      exact bodyPost_ret (v := .tuple #[.string ⟨#[]⟩, .bool false]) (by simp [results, Try.results19, go_sem]) rfl ⟨by rw [HR.out], Below.refl _ _⟩
    · have h2b : (((xs.length : Nat) : Int) == 0) = false := by rw [beq_eq_false_iff_ne]; omega
      have HRE : Hid (r = if (!(xs.any (stB (byte0 t))) && decide ((joinL xs t).length ≤ 4000)) = true then (⟨(joinL xs t).toArray⟩, true) else (⟨#[]⟩, false)) := by
        show r = _
        rw [hr]; unfold joinR joinOk
        rw [decide_eq_true h1, decide_eq_true h2]; rfl
      have HJ := Lib.hid (joinL_all (xs := xs) (t := t) h1 h2)
      have h0 : 0 < t.size := by omega
      have HB : Hid (byte0 t = t[0]) := by show _ = _; simp [byte0, h0]
      have hb8 : t[0].toNat < 256 := t[0].toNat_lt
      clear hr
      have HL : Hid (∀ k, k < xs.length → (joinL (xs.take (k + 1)) t).length = totl (xs.take (k + 1)) + k) := fun k hk => joinL_len h1 k hk
      go_enter Try.func19, Try.ntmps19
      go_wp2
      go_loopw [6, 7] (fun u i wr => ∃ k : Nat, ∃ a : ByteArray, k ≤ xs.length ∧ i = .int .i64 k ∧ u = .string a ∧ a.size ≤ 4000 ∧ Hid (a.data.toList = joinL (xs.take k) t) ∧ Hid ((xs.take k).any (stB (byte0 t)) = false) ∧ Below w.heap.size w wr) (fun _ i _ => xs.length - (intOf i).toNat)
      case atStart => exact ⟨0, ⟨#[]⟩, by omega, rfl, rfl, (by show (0 : Nat) ≤ 4000; omega), rfl, rfl, Below.refl _ _⟩
      case round =>
        obtain ⟨k, a, hk, rfl, rfl, ha, HA, HS, hb⟩ := hrel
        by_cases hlt : k < xs.length
        · obtain ⟨b, off, rfl, c0⟩ := Rd.strs (hx.below hb) hlt
          have hz := hsz xs[k] (List.getElem_mem _)
          have Hn := Lib.hid (any_take1 (stB (byte0 t)) xs k hlt)
          have Hlen := Lib.hid (HL.out k hlt)
          have Hle := Lib.hid (totl_le xs (k + 1))
          have hkI : (k : Int) < (xs.length : Int) := by omega
          have g0 := cell_after c0
          have HJ1 : Hid (0 < k → joinL (xs.take (k + 1)) t = joinL (xs.take k) t ++ t.data.toList ++ xs[k].data.toList) := fun h => joinL_succ hlt h
          have HJ0 : Hid (k = 0 → joinL (xs.take (k + 1)) t = xs[k].data.toList) := by
            intro h
            subst h
            exact joinL_one hlt
          clear hsz
          generalize xs[k] = s at *
          by_cases hq : stB t[0] s = true
          · have HR : Hid (r = (⟨#[]⟩, false)) := HRE.out.trans (if_neg (by
              have : xs.any (stB (byte0 t)) = true := any_of_take (k := k + 1) (by rw [Hn.out, HB.out, hq]; simp)
              rw [this]; simp))
            clear HRE HJ Hn HJ1 HJ0 Hlen
            go_wp2_with fail
            refine wp_region_after (by kernel_rfl) (by kernel_rfl) ?_
            repeat (go_big_quiet_step ((go_at_call 30; exact Calls.after_same (l1Stands_any _ _ _ (by unfold maxLen; omega)))))
            refine wpQuiet_nil ?_
            intro nq
            have hb9 := btr hb nq.bel
            rw [hq]
            go_wp2
            exact bodyPost_ret (v := .tuple #[.string ⟨#[]⟩, .bool false]) (by simp [results, Try.results19, go_sem]) rfl ⟨by rw [HR.out], hb9⟩
          · have hq' : stB t[0] s = false := by simpa using hq
            have Hn2 : Hid ((xs.take (k + 1)).any (stB (byte0 t)) = false) := Hn.out.trans (by rw [HS.out, HB.out, hq']; rfl)
            clear Hn hq
            by_cases hk0 : k = 0
            · have hd1 : decide ((0 : Int) < (k : Int)) = false := by simp; omega
              have hk0N : ¬ 0 < k := by omega
              have ha0 : a = ⟨#[]⟩ := by
                apply ByteArray.ext
                have := HA.out
                rw [hk0] at this
                exact Array.toList_inj.1 (this.trans rfl)
              have Hnew : Hid ((a ++ s).data.toList = joinL (xs.take (k + 1)) t) := by
                show _ = _
                rw [bytes_append, ha0, HJ0.out hk0]; rfl
              clear ha0 HJ1 HJ0 hk0
              have Hvs : Hid ((a ++ s).size = a.size + s.size) := by show _ = _; simp [ByteArray.size_append] <;> omega
              have Hsz : Hid (a.size + s.size = totl (xs.take (k + 1)) + k) := (show a.size + s.size = _ from by rw [← Hvs.out, ← Hlen.out, ← Hnew.out]; rfl)
              by_cases hbig : a.size + s.size ≤ 4000
              · have hbd : decide ((4000 : Int) < (a.size : Int) + (s.size : Int)) = false := by simp; omega
                have hbi : (a.size : Int) + (s.size : Int) ≤ (4000 : Int) := by omega
                have HvS : Hid ((a ++ s).size ≤ 4000) := by show _ ≤ _; rw [Hvs.out]; exact hbig
                clear hbig
                go_wp2_with fail
                refine wp_region_after (by kernel_rfl) (by kernel_rfl) ?_
                repeat (go_big_quiet_step ((go_at_call 30; exact Calls.after_same (l1Stands_any _ _ _ (by unfold maxLen; omega)))))
                refine wpQuiet_nil ?_
                intro nq
                have hb9 := btr hb nq.bel
                rw [hq']
                go_wp2
                go_roundw
                case rel => exact ⟨k + 1, _, by omega, by go_num, rfl, HvS.out, Hnew, Hn2, hb9⟩
                case measure => simp [intOf]; omega
              · have HR : Hid (r = (⟨#[]⟩, false)) := HRE.out.trans (if_neg (by
                  have h1 := Hsz.out; have h2 := Hle.out; have h3 := HJ.out
                  have : decide ((joinL xs t).length ≤ 4000) = false := by simp; omega
                  rw [this]; simp))
                have hbd : decide ((4000 : Int) < (a.size : Int) + (s.size : Int)) = true := by simp; omega
                have hbi : (4000 : Int) < (a.size : Int) + (s.size : Int) := by omega
                clear HRE HJ hbig
                go_wp2_with fail
                refine wp_region_after (by kernel_rfl) (by kernel_rfl) ?_
                repeat (go_big_quiet_step ((go_at_call 30; exact Calls.after_same (l1Stands_any _ _ _ (by unfold maxLen; omega)))))
                refine wpQuiet_nil ?_
                intro nq
                have hb9 := btr hb nq.bel
                rw [hq']
                go_wp2
                exact bodyPost_ret (v := .tuple #[.string ⟨#[]⟩, .bool false]) (by simp [results, Try.results19, go_sem]) rfl ⟨by rw [HR.out], hb9⟩
            · have hd1 : decide ((0 : Int) < (k : Int)) = true := by simp; omega
              have hk0N : 0 < k := by omega
              have Hnew : Hid ((a ++ t ++ s).data.toList = joinL (xs.take (k + 1)) t) := by
                show _ = _
                rw [bytes_append, bytes_append, HA.out, HJ1.out hk0N]
              clear HJ1 HJ0 hk0
              have Hvs : Hid ((a ++ t ++ s).size = a.size + 1 + s.size) := by show _ = _; simp [ByteArray.size_append] <;> omega
              have Hsz : Hid (a.size + 1 + s.size = totl (xs.take (k + 1)) + k) := (show a.size + 1 + s.size = _ from by rw [← Hvs.out, ← Hlen.out, ← Hnew.out]; rfl)
              by_cases hbig : a.size + 1 + s.size ≤ 4000
              · have hbd : decide ((4000 : Int) < (a.size : Int) + 1 + (s.size : Int)) = false := by simp; omega
                have hbi : (a.size : Int) + 1 + (s.size : Int) ≤ (4000 : Int) := by omega
                have HvS : Hid ((a ++ t ++ s).size ≤ 4000) := by show _ ≤ _; rw [Hvs.out]; exact hbig
                clear hbig
                go_wp2_with fail
                refine wp_region_after (by kernel_rfl) (by kernel_rfl) ?_
                repeat (go_big_quiet_step ((go_at_call 30; exact Calls.after_same (l1Stands_any _ _ _ (by unfold maxLen; omega)))))
                refine wpQuiet_nil ?_
                intro nq
                have hb9 := btr hb nq.bel
                rw [hq']
                go_wp2
                go_roundw
                case rel => exact ⟨k + 1, _, by omega, by go_num, rfl, HvS.out, Hnew, Hn2, hb9⟩
                case measure => simp [intOf]; omega
              · have HR : Hid (r = (⟨#[]⟩, false)) := HRE.out.trans (if_neg (by
                  have h1 := Hsz.out; have h2 := Hle.out; have h3 := HJ.out
                  have : decide ((joinL xs t).length ≤ 4000) = false := by simp; omega
                  rw [this]; simp))
                have hbd : decide ((4000 : Int) < (a.size : Int) + 1 + (s.size : Int)) = true := by simp; omega
                have hbi : (4000 : Int) < (a.size : Int) + 1 + (s.size : Int) := by omega
                clear HRE HJ hbig
                go_wp2_with fail
                refine wp_region_after (by kernel_rfl) (by kernel_rfl) ?_
                repeat (go_big_quiet_step ((go_at_call 30; exact Calls.after_same (l1Stands_any _ _ _ (by unfold maxLen; omega)))))
                refine wpQuiet_nil ?_
                intro nq
                have hb9 := btr hb nq.bel
                rw [hq']
                go_wp2
                exact bodyPost_ret (v := .tuple #[.string ⟨#[]⟩, .bool false]) (by simp [results, Try.results19, go_sem]) rfl ⟨by rw [HR.out], hb9⟩
        · have hkn : k = xs.length := by omega
          have HK := Lib.hid hkn
          have HT : Hid (a.data.toList = joinL xs t ∧ xs.any (stB (byte0 t)) = false) := by
            have e1 := HA.out; have e2 := HS.out
            rw [HK.out, List.take_length] at e1 e2
            exact ⟨e1, e2⟩
          have HR : Hid (r = (a, true)) := HRE.out.trans (by
            have hl : (joinL xs t).length = a.size := by rw [← HT.out.1]; rfl
            rw [if_pos (by rw [HT.out.2, hl]; simpa using ha), ← HT.out.1])
          clear HRE HA HS HT hkn
          go_wp2
          exact bodyPost_ret (v := .tuple #[.string a, .bool true]) (by simp [results, Try.results19, go_sem]) rfl ⟨by rw [HR.out], hb⟩
  · have HR : Hid (r = (⟨#[]⟩, false)) := hr.trans (if_neg (by simp [joinOk, h1]))
    have h1b : (((t.size : Nat) : Int) != 1) = true := by simp; omega
    clear hr hx h1 hsz
    by_cases h2 : xs.length = 0
    · have h2b : (((xs.length : Nat) : Int) == 0) = true := by simp [h2]
      clear h2
      go_enter Try.func19, Try.ntmps19
      go_wp2
      exact bodyPost_ret (v := .tuple #[.string ⟨#[]⟩, .bool false]) (by simp [results, Try.results19, go_sem]) rfl ⟨by rw [HR.out], Below.refl _ _⟩
    · have h2b : (((xs.length : Nat) : Int) == 0) = false := by rw [beq_eq_false_iff_ne]; omega
      clear h2
      go_enter Try.func19, Try.ntmps19
      go_wp2
      exact bodyPost_ret (v := .tuple #[.string ⟨#[]⟩, .bool false]) (by simp [results, Try.results19, go_sem]) rfl ⟨by rw [HR.out], Below.refl _ _⟩
set_option maxHeartbeats 600000 in
theorem join_any (A : Option Addr) (c : Nat) (xs : List ByteArray) (t : ByteArray) (w : World) (hn : xs.length ≤ maxLen) (hlc : xs.length ≤ c) (hx : Rd w A (sCells xs)) (_ : ∀ s ∈ xs, s.size ≤ maxLen) (_ : t.size ≤ maxLen) (hlen : xs.length ≤ 1048576) (hsz : ∀ s ∈ xs, s.size ≤ 1048576) :
    Calls Try.prog 21 #[.slice A xs.length c, .string t] w fun en w' => en = .returned (.tuple #[.string (joinR xs t).1, .bool (joinR xs t).2]) ∧ Below w.heap.size w w' := by
  unfold maxLen at hn
  obtain ⟨r, hr⟩ : ∃ r, r = joinR xs t := ⟨_, rfl⟩
  rw [← hr]
  by_cases h1 : t.size = 1
  · have h1b : (((t.size : Nat) : Int) != 1) = false := by simp [h1]
    by_cases h2 : xs.length = 0
    · have HR : Hid (r = (⟨#[]⟩, false)) := hr.trans (if_neg (by simp [joinOk, h2]))
      have h2b : (((xs.length : Nat) : Int) == 0) = true := by simp [h2]
      clear hr hx h2 hsz
      go_enter Try.func21, Try.ntmps21
      go_wp2
      exact bodyPost_ret (v := .tuple #[.string ⟨#[]⟩, .bool false]) (by simp [results, Try.results21, go_sem]) rfl ⟨by rw [HR.out], Below.refl _ _⟩
    · have h2b : (((xs.length : Nat) : Int) == 0) = false := by rw [beq_eq_false_iff_ne]; omega
      have HRE : Hid (r = if (!(xs.any (stB (byte0 t))) && decide ((joinL xs t).length ≤ 4000)) = true then (⟨(joinL xs t).toArray⟩, true) else (⟨#[]⟩, false)) := by
        show r = _
        rw [hr]; unfold joinR joinOk
        rw [decide_eq_true h1, decide_eq_true h2]; rfl
      have HJ := Lib.hid (joinL_all (xs := xs) (t := t) h1 h2)
      have h0 : 0 < t.size := by omega
      have HB : Hid (byte0 t = t[0]) := by show _ = _; simp [byte0, h0]
      have hb8 : t[0].toNat < 256 := t[0].toNat_lt
      clear hr
      obtain ⟨b, off, rfl, -⟩ := Rd.strs hx (show 0 < xs.length by omega)
      have HRd : Hid (∀ w1, Below w.heap.size w w1 → ∀ (j : Nat) x, xs[j]? = some x → w1.cell? ⟨b, off + j, none⟩ = some (.string x)) := by
        intro w1 hb j x hj
        obtain ⟨hl, rfl⟩ := List.getElem?_eq_some_iff.1 hj
        obtain ⟨b', off', e, c0⟩ := Rd.strs (hx.below hb) hl
        have k9 : b' = b ∧ off' = off := by simpa using e.symm
        obtain ⟨rfl, rfl⟩ := k9
        exact c0
      have hbl : b < w.heap.size := World.block_lt_of_cell? w _ (HRd.out w (Below.refl _ _) 0 xs[0] (List.getElem?_eq_getElem (by omega)))
      go_enter Try.func21, Try.ntmps21
      go_wp2
      go_loopw [6, 22] (fun q i wr => ∃ k T : Nat, k ≤ xs.length ∧ i = .int .i64 k ∧ q = .int .i64 ((xs.length : Int) - 1 + (T : Int)) ∧ T ≤ 4000 ∧ Hid (totl (xs.take k) = T) ∧ Hid (0 < k → T + (xs.length - 1) ≤ 4000) ∧ Hid ((xs.take k).any (stB (byte0 t)) = false) ∧ Below w.heap.size w wr) (fun _ i _ => xs.length - (intOf i).toNat)
      case atStart => exact ⟨0, 0, by omega, rfl, by simp, by omega, rfl, fun h => absurd h (by omega), rfl, Below.refl _ _⟩
      case round =>
        obtain ⟨k, T, hk, rfl, rfl, hT, HA, HB4, HS, hb⟩ := hrel
        by_cases hlt : k < xs.length
        · have c0 := HRd.out wr hb k xs[k] (List.getElem?_eq_getElem hlt)
          have hz := hsz xs[k] (List.getElem_mem _)
          have Hn := Lib.hid (any_take1 (stB (byte0 t)) xs k hlt)
          have Hts := Lib.hid (totl_succ hlt)
          have Hle := Lib.hid (totl_le xs (k + 1))
          have hkI : (k : Int) < (xs.length : Int) := by omega
          have h1n : 1 ≤ (xs.length : Int) := by omega
          clear hsz
          generalize xs[k] = s at *
          by_cases hbig : T + (xs.length - 1) + s.size ≤ 4000
          · have hbd : decide ((4000 : Int) < (xs.length : Int) - 1 + (T : Int) + (s.size : Int)) = false := by simp; omega
            have hbi : (xs.length : Int) - 1 + (T : Int) + (s.size : Int) ≤ 4000 := by omega
            have hv := Lib.hid (indexByte_any s.data.toList t[0])
            have HI : Hid (∀ w1, Calls Try.prog 31 #[.string s, .int .u8 (t[0].toNat)] w1 fun e w' => e = .returned (.int .i64 (Lib.indexByte s.data.toList t[0])) ∧ w1 = w') := by
              intro w1
              refine (Try.strings_IndexByte s (t[0].toNat) w1).mono fun e w' h => ?_
              obtain ⟨he, hw⟩ := h
              refine ⟨he.trans ?_, hw.symm⟩
              rw [Int.toNat_natCast]
              simp
            generalize Lib.indexByte s.data.toList t[0] = v at *
            have Hst : Hid (stB t[0] s = decide (0 ≤ v)) := hv.out.symm
            by_cases hq : 0 ≤ v
            · have hqd : decide (0 ≤ v) = true := by simpa using hq
              have HR : Hid (r = (⟨#[]⟩, false)) := HRE.out.trans (if_neg (by
                have : xs.any (stB (byte0 t)) = true := any_of_take (k := k + 1) (by rw [Hn.out, HB.out, Hst.out, hqd]; simp)
                rw [this]; simp))
              clear HRE HJ Hn hv hbig
              go_wp2_with (go_at_call 31; refine (HI.out _).mono ?_; rintro en w9 ⟨rfl, rfl⟩)
              exact bodyPost_ret (v := .tuple #[.string ⟨#[]⟩, .bool false]) (by simp [results, Try.results21, go_sem]) rfl ⟨by rw [HR.out], hb⟩
            · have hqd : decide (0 ≤ v) = false := by simpa using hq
              have hq2 : v < 0 := by omega
              have Hn2 : Hid ((xs.take (k + 1)).any (stB (byte0 t)) = false) := Hn.out.trans (by rw [HS.out, HB.out, Hst.out, hqd]; rfl)
              have Ht2 : Hid (totl (xs.take (k + 1)) = T + s.size) := Hts.out.trans (by rw [HA.out])
              have HB5 : Hid (0 < k + 1 → T + s.size + (xs.length - 1) ≤ 4000) := fun _ => by omega
              clear Hn hv hbig hq
              go_wp2_with (go_at_call 31; refine (HI.out _).mono ?_; rintro en w9 ⟨rfl, rfl⟩)
              go_roundw
              case rel => exact ⟨k + 1, T + s.size, by omega, by go_num, by go_num, by omega, Ht2, HB5, Hn2, hb⟩
              case measure => simp [intOf]; omega
          · have HR : Hid (r = (⟨#[]⟩, false)) := HRE.out.trans (if_neg (by
              have h1 := Hts.out; have h2 := Hle.out; have h3 := HJ.out; have h4 := HA.out
              have : decide ((joinL xs t).length ≤ 4000) = false := by simp; omega
              rw [this]; simp))
            have hbd : decide ((4000 : Int) < (xs.length : Int) - 1 + (T : Int) + (s.size : Int)) = true := by simp; omega
            have hbi : (4000 : Int) < (xs.length : Int) - 1 + (T : Int) + (s.size : Int) := by omega
            clear HRE HJ hbig
            go_wp2
            exact bodyPost_ret (v := .tuple #[.string ⟨#[]⟩, .bool false]) (by simp [results, Try.results21, go_sem]) rfl ⟨by rw [HR.out], hb⟩
        · have hkn : k = xs.length := by omega
          have HK := Lib.hid hkn
          have HT2 : Hid (totl xs = T ∧ xs.any (stB (byte0 t)) = false ∧ T + (xs.length - 1) ≤ 4000) := by
            have e1 := HA.out; have e2 := HS.out
            rw [HK.out, List.take_length] at e1 e2
            exact ⟨e1, e2, HB4.out (by omega)⟩
          have HJL : Hid ((joinL xs t).length ≤ 4000) := by
            have h1 := HJ.out; have h2 := HT2.out
            show _ ≤ _
            omega
          have HR : Hid (r = (⟨(joinL xs t).toArray⟩, true)) := HRE.out.trans (by rw [if_pos (by rw [HT2.out.2.1, decide_eq_true HJL.out]; rfl)])
          have HC : Hid (Calls Try.prog 32 #[.slice (some ⟨b, off, none⟩) xs.length c, .string t] wr fun e w' => e = .returned (.string ⟨(joinL xs t).toArray⟩) ∧ Below wr.heap.size wr w') :=
            Try.strings_Join b off c xs t wr (HRd.out wr hb) (by have := hb.size; omega) (by omega) hlc (by have := HJL.out; unfold joinL bl at this; omega)
          clear HRE HA HS HT2 HJL HJ hkn
          generalize (⟨(joinL xs t).toArray⟩ : ByteArray) = R at *
          go_wp2_with (go_at_call 32; refine HC.out.mono ?_; rintro en w9 ⟨rfl, hb9⟩)
          exact bodyPost_ret (v := .tuple #[.string R, .bool true]) (by simp [results, Try.results21, go_sem]) rfl ⟨by rw [HR.out], btr hb hb9⟩
  · have HR : Hid (r = (⟨#[]⟩, false)) := hr.trans (if_neg (by simp [joinOk, h1]))
    have h1b : (((t.size : Nat) : Int) != 1) = true := by simp; omega
    clear hr hx h1 hsz
    by_cases h2 : xs.length = 0
    · have h2b : (((xs.length : Nat) : Int) == 0) = true := by simp [h2]
      clear h2
      go_enter Try.func21, Try.ntmps21
      go_wp2
      exact bodyPost_ret (v := .tuple #[.string ⟨#[]⟩, .bool false]) (by simp [results, Try.results21, go_sem]) rfl ⟨by rw [HR.out], Below.refl _ _⟩
    · have h2b : (((xs.length : Nat) : Int) == 0) = false := by rw [beq_eq_false_iff_ne]; omega
      clear h2
      go_enter Try.func21, Try.ntmps21
      go_wp2
      exact bodyPost_ret (v := .tuple #[.string ⟨#[]⟩, .bool false]) (by simp [results, Try.results21, go_sem]) rfl ⟨by rw [HR.out], Below.refl _ _⟩
end Go.Proofs.Ytpdohkcidlcboaa
