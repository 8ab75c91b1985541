/-
  Contracts of SplitString, of the program and of the reference. Conditions: lengths within Go's range.
-/
import Derived.Test.YtpdohkcidlcboaaStrS
namespace Go.My
open Go.RowKit
/-- The parts ahead of byte k, and where the part at hand begins. -/
def cutN (s : ByteArray) (b : UInt8) : Nat → List ByteArray × Nat
  | 0 => ([], 0)
  | k + 1 => if h : k < s.size then (if s[k] = b then ((cutN s b k).1 ++ [s.extract (cutN s b k).2 k], k + 1) else cutN s b k) else cutN s b k
def splitL (s : ByteArray) (b : UInt8) : List ByteArray := (cutN s b s.size).1 ++ [s.extract (cutN s b s.size).2 s.size]
theorem cutN_eq {s : ByteArray} {b : UInt8} {k : Nat} (h : k < s.size) (hb : s[k] = b) : cutN s b (k + 1) = ((cutN s b k).1 ++ [s.extract (cutN s b k).2 k], k + 1) := by
  simp only [cutN, h, hb, dif_pos, if_pos]
theorem cutN_ne {s : ByteArray} {b : UInt8} {k : Nat} (h : k < s.size) (hb : ¬ s[k] = b) : cutN s b (k + 1) = cutN s b k := by
  simp only [cutN, h, hb, dif_pos, if_false]
theorem cutN_le (s : ByteArray) (b : UInt8) (k : Nat) : (cutN s b k).2 ≤ k ∧ (cutN s b k).1.length ≤ k := by
  induction k with
  | zero => simp [cutN]
  | succ k ih =>
    simp only [cutN]
    split
    · split
      · simp; omega
      · omega
    · omega
theorem splitL_len (s : ByteArray) (b : UInt8) : (splitL s b).length ≤ s.size + 1 := by
  have := cutN_le s b s.size
  simp [splitL]; omega
def byte0 (s : ByteArray) : UInt8 := if h : 0 < s.size then s[0] else 0
def splitR (s t : ByteArray) : List ByteArray × Bool := if s.size ≤ 4000 ∧ t.size = 1 then (splitL s (byte0 t), true) else ([], false)
theorem splitR_len (s t : ByteArray) : (splitR s t).1.length ≤ 4001 := by
  unfold splitR
  split
  · have := splitL_len s (byte0 t); simp; omega
  · simp
theorem rd_new (w : World) (cs : Array Value) (e : TypeId) : Rd (w.alloc (.cells cs e)) (some ⟨w.heap.size, 0, none⟩) cs.toList := by
  refine .inr ⟨_, _, rfl, fun j hj => ?_⟩
  rw [Nat.zero_add, World.cell?_alloc_at _ _ _ _ rfl]
  simp only [Array.length_toList] at hj
  simp [hj]
end Go.My
namespace Go.Proofs.Ytpdohkcidlcboaa
open Go.RowKit Go.My
set_option maxHeartbeats 1000000 in
theorem l1Split_any (s : ByteArray) (b : UInt8) (w : World) (hs : s.size ≤ 1048576) :
    Calls Try.prog 28 #[.string s, .int .u8 b.toNat] w fun e w' => ∃ A' c', e = .returned (.slice A' (splitL s b).length c') ∧ w'.ownsRow w.heap.size 9 1 (.slice A' (splitL s b).length c') (splitL s b).length (sCells (splitL s b)) ∧ Below w.heap.size w w' := by
  have ho0 := own_lit (e := 9) (size := 1) (B := w.heap.size) (w := w) #[] 0 (by simp) (by unfold maxLen; omega) rfl
  have hb0 := bnew (Below.refl w.heap.size w) (.cells #[] 9)
  have HR : Hid (splitL s b = (cutN s b s.size).1 ++ [s.extract (cutN s b s.size).2 s.size]) := rfl
  generalize splitL s b = R at *
  go_enter Try.func28, Try.ntmps28
  go_wp2
  go_loopw [5, 6, 7] (fun o f i wr => ∃ k fr : Nat, ∃ PL : List ByteArray, ∃ (A' : Option Addr) (c' : Nat), k ≤ s.size ∧ fr ≤ k ∧ PL.length ≤ k ∧ i = .int .i64 k ∧ f = .int .i64 fr ∧ o = .slice A' PL.length c' ∧ Hid (cutN s b k = (PL, fr)) ∧ wr.ownsRow w.heap.size 9 1 (.slice A' PL.length c') PL.length (sCells PL) ∧ Below w.heap.size w wr) (fun _ _ i _ => s.size - (intOf i).toNat)
  case atStart => exact ⟨0, 0, [], _, _, by omega, by omega, by simp, rfl, rfl, rfl, rfl, ho0, hb0⟩
  case round =>
    obtain ⟨k, fr, PL, A', c', hk, hfr, hPL, rfl, rfl, rfl, H, ho, hb⟩ := hrel
    clear ho0 hb0
    have hfrI : (fr : Int) ≤ (k : Int) := by omega
    by_cases hlt : k < s.size
    · have hkI : (k : Int) < (s.size : Int) := by omega
      have hc : s[k].toNat < 256 := s[k].toNat_lt
      by_cases hq : s[k] = b
      · have HN : Hid (cutN s b (k + 1) = (PL ++ [s.extract fr k], k + 1)) := (cutN_eq hlt hq).trans (by rw [H.out])
        have he : (((s[k].toNat : Nat) : Int) == ((b.toNat : Nat) : Int)) = true := by rw [hq]; simp
        clear H hq
        have hoW := own_below ho (bnew (Below.refl wr.heap.size wr) (.cells #[.string (s.extract fr k)] 9))
        have hbW := bnew hb (.cells #[.string (s.extract fr k)] 9)
        have hrd := rd_new wr #[.string (s.extract fr k)] 9
        go_wp2_with (at_builtin; refine wpl_app rfl (.tmp 20) (.tmp 25) 27 rfl el_Str (v := .slice A' PL.length c') rfl hoW rfl rfl hrd (by simp [Value.oneCell']) (by unfold maxLen; omega) (by omega) hbW.size ?_; intro A1 c1 w1 ho1 hg1 _)
        have hb1 : Below w.heap.size w w1 := hbW.grown hg1 hbW.size (fun k hk => (hoW.lt k hk).1)
        clear hoW hbW hrd hg1
        go_roundw
        case rel => exact ⟨k + 1, k + 1, PL ++ [s.extract fr k], A1, c1, by omega, by omega, by simp; omega, by go_num, by go_num, by simp, HN, by simpa [sCells] using ho1, hb1⟩
        case measure => simp [intOf]; omega
      · have HN : Hid (cutN s b (k + 1) = (PL, fr)) := (cutN_ne hlt hq).trans H.out
        have he : (((s[k].toNat : Nat) : Int) == ((b.toNat : Nat) : Int)) = false := by
          have : s[k].toNat ≠ b.toNat := fun e => hq (UInt8.toNat_inj.1 e)
          simp; omega
        clear H hq
        go_wp2
        go_roundw
        case rel => exact ⟨k + 1, fr, PL, A', c', by omega, by omega, by omega, by go_num, rfl, rfl, HN, ho, hb⟩
        case measure => simp [intOf]; omega
    · have hkn : k = s.size := by omega
      have HF : Hid (R = PL ++ [s.extract fr s.size]) := HR.out.trans (by rw [← hkn, H.out])
      have hfs : (fr : Int) ≤ (s.size : Int) := by omega
      clear H HR hkn
      have hoW := own_below ho (bnew (Below.refl wr.heap.size wr) (.cells #[.string (s.extract fr s.size)] 9))
      have hbW := bnew hb (.cells #[.string (s.extract fr s.size)] 9)
      have hrd := rd_new wr #[.string (s.extract fr s.size)] 9
      go_wp2_with (at_builtin; refine wpl_app rfl (.tmp 29) (.tmp 33) 27 rfl el_Str (v := .slice A' PL.length c') rfl hoW rfl rfl hrd (by simp [Value.oneCell']) (by unfold maxLen; omega) (by omega) hbW.size ?_; intro A1 c1 w1 ho1 hg1 _)
      have hb1 : Below w.heap.size w w1 := hbW.grown hg1 hbW.size (fun k hk => (hoW.lt k hk).1)
      go_ret
      exact ⟨A1, c1, by rw [HF.out]; simp, by rw [HF.out]; simpa [sCells] using ho1, hb1⟩
set_option maxHeartbeats 1000000 in
theorem specSplit_any (s t : ByteArray) (w : World) (hs : s.size ≤ maxLen) (_ : t.size ≤ maxLen) :
    Calls Try.prog 13 #[.string s, .string t] w fun e w' => ∃ A' c', e = .returned (.tuple #[.slice A' (splitR s t).1.length c', .bool (splitR s t).2]) ∧ w'.ownsRow w.heap.size 9 1 (.slice A' (splitR s t).1.length c') (splitR s t).1.length (sCells (splitR s t).1) ∧ Below w.heap.size w w' := by
  unfold maxLen at hs
  obtain ⟨r, hr⟩ : ∃ r, r = splitR s t := ⟨_, rfl⟩
  rw [← hr]
  by_cases h2 : t.size = 1
  · have h2d : (((t.size : Nat) : Int) != 1) = false := by simp [h2]
    by_cases h1 : s.size ≤ 4000
    · have h1d : decide ((4000 : Int) < (s.size : Int)) = false := by simp; omega
      have HR : Hid (r = (splitL s (byte0 t), true)) := hr.trans (by unfold splitR; rw [if_pos ⟨h1, h2⟩])
      have h0 : 0 < t.size := by omega
      have HB : Hid (byte0 t = t[0]) := by show _ = _; simp [byte0, h0]
      have HC : Hid (∀ w1 : World, Calls Try.prog 28 #[.string s, .int .u8 (t[0].toNat)] w1 fun e w' => ∃ A' c', e = .returned (.slice A' (splitL s (byte0 t)).length c') ∧ w'.ownsRow w1.heap.size 9 1 (.slice A' (splitL s (byte0 t)).length c') (splitL s (byte0 t)).length (sCells (splitL s (byte0 t))) ∧ Below w1.heap.size w1 w') := by
        intro w1; rw [HB.out]; exact l1Split_any s t[0] w1 (by omega)
      clear hr
      generalize splitL s (byte0 t) = R at *
      clear HB
      go_enter Try.func13, Try.ntmps13
      go_wp2_with (go_at_call 28; refine (HC.out _).mono ?_; rintro e w1 ⟨A1, c1, rfl, ho1, hb1⟩)
      exact bodyPost_ret (v := .tuple #[.slice A1 R.length c1, .bool true]) (by simp [results, Try.results13, go_sem]) rfl ⟨A1, c1, by rw [HR.out], by rw [HR.out]; exact ho1, hb1⟩
    · have h1d : decide ((4000 : Int) < (s.size : Int)) = true := by simp; omega
      have HR : Hid (r = ([], false)) := hr.trans (by unfold splitR; rw [if_neg (by omega)])
      clear hr h1
      go_enter Try.func13, Try.ntmps13
      go_wp2
      exact bodyPost_ret (v := .tuple #[.slice (some ⟨w.heap.size, 0, none⟩) 0 0, .bool false]) (by simp [results, Try.results13, go_sem]) rfl ⟨some ⟨w.heap.size, 0, none⟩, 0, by rw [HR.out]; rfl, by rw [HR.out]; exact own_lit (e := 9) (size := 1) (w := w) #[] 0 (Nat.le_refl _) (by unfold maxLen; omega) rfl, bnew (Below.refl _ _) _⟩
  · have h2d : (((t.size : Nat) : Int) != 1) = true := by simp; omega
    have HR : Hid (r = ([], false)) := hr.trans (by unfold splitR; rw [if_neg (by omega)])
    clear hr h2
    go_enter Try.func13, Try.ntmps13
    go_wp2
    exact bodyPost_ret (v := .tuple #[.slice (some ⟨w.heap.size, 0, none⟩) 0 0, .bool false]) (by simp [results, Try.results13, go_sem]) rfl ⟨some ⟨w.heap.size, 0, none⟩, 0, by rw [HR.out]; rfl, by rw [HR.out]; exact own_lit (e := 9) (size := 1) (w := w) #[] 0 (Nat.le_refl _) (by unfold maxLen; omega) rfl, bnew (Below.refl _ _) _⟩
set_option maxHeartbeats 2000000 in
theorem split_any (s t : ByteArray) (w : World) (hs : s.size ≤ maxLen) (_ : t.size ≤ maxLen) :
    Calls Try.prog 14 #[.string s, .string t] w fun e w' => ∃ A' c', e = .returned (.tuple #[.slice A' (splitR s t).1.length c', .bool (splitR s t).2]) ∧ w'.ownsRow w.heap.size 9 1 (.slice A' (splitR s t).1.length c') (splitR s t).1.length (sCells (splitR s t).1) ∧ Below w.heap.size w w' := by
  unfold maxLen at hs
  obtain ⟨r, hr⟩ : ∃ r, r = splitR s t := ⟨_, rfl⟩
  rw [← hr]
  by_cases h1 : s.size ≤ 4000
  · have h1d : decide ((4000 : Int) < (s.size : Int)) = false := by simp; omega
    by_cases h2 : t.size = 1
    · have h2d : (((t.size : Nat) : Int) != 1) = false := by simp [h2]
      have HR : Hid (r = (splitL s (byte0 t), true)) := hr.trans (by unfold splitR; rw [if_pos ⟨h1, h2⟩])
      have h0 : 0 < t.size := by omega
      have HB : Hid (byte0 t = t[0]) := by show _ = _; simp [byte0, h0]
      have HS : Hid (splitL s (byte0 t) = (cutN s (byte0 t) s.size).1 ++ [s.extract (cutN s (byte0 t) s.size).2 s.size]) := rfl
      clear hr h2
      generalize splitL s (byte0 t) = R at *
      have ho0 := own_lit (e := 9) (size := 1) (B := w.heap.size) (w := w) #[] 0 (by simp) (by unfold maxLen; omega) rfl
      have hb0 := bnew (Below.refl w.heap.size w) (.cells #[] 9)
      obtain ⟨b, hbd⟩ : ∃ b, b = byte0 t := ⟨_, rfl⟩
      rw [← hbd] at HS HB
      clear hbd
      have hb8 : t[0].toNat < 256 := t[0].toNat_lt
      go_enter Try.func14, Try.ntmps14
      go_wp2
      go_loopw [6, 7, 8] (fun o f i wr => ∃ k fr : Nat, ∃ PL : List ByteArray, ∃ (A' : Option Addr) (c' : Nat), k ≤ s.size ∧ fr ≤ k ∧ PL.length ≤ k ∧ i = .int .i64 k ∧ f = .int .i64 fr ∧ o = .slice A' PL.length c' ∧ Hid (cutN s b k = (PL, fr)) ∧ wr.ownsRow w.heap.size 9 1 (.slice A' PL.length c') PL.length (sCells PL) ∧ Below w.heap.size w wr) (fun _ _ i _ => s.size - (intOf i).toNat)
      case atStart => exact ⟨0, 0, [], _, _, by omega, by omega, by simp, rfl, rfl, rfl, rfl, ho0, hb0⟩
      case round =>
        obtain ⟨k, fr, PL, A', c', hk, hfr, hPL, rfl, rfl, rfl, H, ho, hb⟩ := hrel
        clear ho0 hb0
        have hfrI : (fr : Int) ≤ (k : Int) := by omega
        by_cases hlt : k < s.size
        · have hkI : (k : Int) < (s.size : Int) := by omega
          have hc : s[k].toNat < 256 := s[k].toNat_lt
          by_cases hq : s[k] = b
          · have HN : Hid (cutN s b (k + 1) = (PL ++ [s.extract fr k], k + 1)) := (cutN_eq hlt hq).trans (by rw [H.out])
            have he : (((s[k].toNat : Nat) : Int) == ((t[0].toNat : Nat) : Int)) = true := by rw [hq, HB.out]; simp
            clear H hq
            go_wp2_with fail
            refine wp_region_after (by kernel_rfl) (by kernel_rfl) ?_
            repeat (go_big_quiet_step (fail))
            refine wpQuiet_nil ?_
            intro nq
            have hbq := btr hb nq.bel
            have hoq := own_below ho nq.bel
            generalize nq.val = w2 at *
            have hoW := own_below hoq (bnew (Below.refl w2.heap.size w2) (.cells #[.string (s.extract fr k)] 9))
            have hbW := bnew hbq (.cells #[.string (s.extract fr k)] 9)
            have hrd := rd_new w2 #[.string (s.extract fr k)] 9
            go_wp2_with (at_builtin; refine wpl_app rfl (.tmp 30) (.tmp 35) 27 rfl el_Str (v := .slice A' PL.length c') rfl hoW rfl rfl hrd (by simp [Value.oneCell']) (by unfold maxLen; omega) (by omega) hbW.size ?_; intro A1 c1 w1 ho1 hg1 _)
            have hb1 : Below w.heap.size w w1 := hbW.grown hg1 hbW.size (fun k hk => (hoW.lt k hk).1)
            clear hoW hbW hrd hg1
            go_roundw
            case rel => exact ⟨k + 1, k + 1, PL ++ [s.extract fr k], A1, c1, by omega, by omega, by simp; omega, by go_num, by go_num, by simp, HN, by simpa [sCells] using ho1, hb1⟩
            case measure => simp [intOf]; omega
          · have HN : Hid (cutN s b (k + 1) = (PL, fr)) := (cutN_ne hlt hq).trans H.out
            have he : (((s[k].toNat : Nat) : Int) == ((t[0].toNat : Nat) : Int)) = false := by
              have : s[k].toNat ≠ t[0].toNat := fun e => hq (by rw [HB.out]; exact UInt8.toNat_inj.1 e)
              simp; omega
            clear H hq
            go_wp2_with fail
            refine wp_region_after (by kernel_rfl) (by kernel_rfl) ?_
            repeat (go_big_quiet_step (fail))
            refine wpQuiet_nil ?_
            intro nq
            have hbq := btr hb nq.bel
            have hoq := own_below ho nq.bel
            go_wp2
            go_roundw
            case rel => exact ⟨k + 1, fr, PL, A', c', by omega, by omega, by omega, by go_num, rfl, rfl, HN, hoq, hbq⟩
            case measure => simp [intOf]; omega
        · have hkn : k = s.size := by omega
          have HF : Hid (R = PL ++ [s.extract fr s.size]) := HS.out.trans (by rw [← hkn, H.out])
          have hfs : (fr : Int) ≤ (s.size : Int) := by omega
          clear H hkn HS
          have hoW := own_below ho (bnew (Below.refl wr.heap.size wr) (.cells #[.string (s.extract fr s.size)] 9))
          have hbW := bnew hb (.cells #[.string (s.extract fr s.size)] 9)
          have hrd := rd_new wr #[.string (s.extract fr s.size)] 9
          go_wp2_with (at_builtin; refine wpl_app rfl (.tmp 39) (.tmp 43) 27 rfl el_Str (v := .slice A' PL.length c') rfl hoW rfl rfl hrd (by simp [Value.oneCell']) (by unfold maxLen; omega) (by omega) hbW.size ?_; intro A1 c1 w1 ho1 hg1 _)
          have hb1 : Below w.heap.size w w1 := hbW.grown hg1 hbW.size (fun k hk => (hoW.lt k hk).1)
          exact bodyPost_ret (v := .tuple #[.slice A1 (PL.length + 1) c1, .bool true]) (by simp [results, Try.results14, go_sem]) rfl ⟨A1, c1, by rw [HR.out, HF.out]; simp, by rw [HR.out, HF.out]; simpa [sCells] using ho1, hb1⟩
    · have h2d : (((t.size : Nat) : Int) != 1) = true := by simp; omega
      have HR : Hid (r = ([], false)) := hr.trans (by unfold splitR; rw [if_neg (by omega)])
      clear hr h2
      go_enter Try.func14, Try.ntmps14
      go_wp2
      exact bodyPost_ret (v := .tuple #[.slice none 0 0, .bool false]) (by simp [results, Try.results14, go_sem]) rfl ⟨none, 0, by rw [HR.out]; rfl, by rw [HR.out]; exact own_nil, Below.refl _ _⟩
  · have h1d : decide ((4000 : Int) < (s.size : Int)) = true := by simp; omega
    have HR : Hid (r = ([], false)) := hr.trans (by unfold splitR; rw [if_neg (by omega)])
    clear hr h1
    go_enter Try.func14, Try.ntmps14
    go_wp2
    exact bodyPost_ret (v := .tuple #[.slice none 0 0, .bool false]) (by simp [results, Try.results14, go_sem]) rfl ⟨none, 0, by rw [HR.out]; rfl, by rw [HR.out]; exact own_nil, Below.refl _ _⟩
end Go.Proofs.Ytpdohkcidlcboaa
