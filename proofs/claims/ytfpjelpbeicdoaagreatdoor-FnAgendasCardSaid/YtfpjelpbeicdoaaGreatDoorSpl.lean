/-
  Contracts of SplitString, of the program and of the reference. Conditions: lengths within Go's range.
-/
import Derived.Test.YtfpjelpbeicdoaaGreatDoorStrS
namespace Go.My
open Go.RowKit
/-- The parts ahead of byte k, and where the part at hand begins. -/
def cutN (s : ByteArray) (b : UInt8) : Nat → List ByteArray × Nat
  | 0 => ([], 0)
  | k + 1 => if h : k < s.size then (if s[k] = b then ((cutN s b k).1 ++ [s.extract (cutN s b k).2 k], k + 1) else cutN s b k) else cutN s b k
def splitL (s : ByteArray) (b : UInt8) : List ByteArray := (cutN s b s.size).1 ++ [s.extract (cutN s b s.size).2 s.size]
theorem cutN_eq {s : ByteArray} {b : UInt8} {k : Nat} (h : k < s.size) (hb : s[k] = b) : cutN s b (k + 1) = ((cutN s b k).1 ++ [s.extract (cutN s b k).2 k], k + 1) := by
  simp only [cutN, h, hb, dif_pos, if_pos]
theorem cutN_ne {s : ByteArray} {b : UInt8} {k : Nat} (h : k < s.size) (hb : ¬ s[k] = b) : cutN s b (k + 1) = cutN s b k := by
  simp only [cutN, h, hb, dif_pos, if_false]
theorem cutN_le (s : ByteArray) (b : UInt8) (k : Nat) : (cutN s b k).2 ≤ k ∧ (cutN s b k).1.length ≤ k := by
  induction k with
  | zero => simp [cutN]
  | succ k ih =>
    simp only [cutN]
    split
    · split
      · simp; omega
      · omega
    · omega
theorem splitL_len (s : ByteArray) (b : UInt8) : (splitL s b).length ≤ s.size + 1 := by
  have := cutN_le s b s.size
  simp [splitL]; omega
def byte0 (s : ByteArray) : UInt8 := if h : 0 < s.size then s[0] else 0
def splitR (s t : ByteArray) : List ByteArray × Bool := if s.size ≤ 4000 ∧ t.size = 1 then (splitL s (byte0 t), true) else ([], false)
theorem splitR_len (s t : ByteArray) : (splitR s t).1.length ≤ 4001 := by
  unfold splitR
  split
  · have := splitL_len s (byte0 t); simp; omega
  · simp
theorem rd_new (w : World) (cs : Array Value) (e : TypeId) : Rd (w.alloc (.cells cs e)) (some ⟨w.heap.size, 0, none⟩) cs.toList := by
  refine .inr ⟨_, _, rfl, fun j hj => ?_⟩
  rw [Nat.zero_add, World.cell?_alloc_at _ _ _ _ rfl]
  simp only [Array.length_toList] at hj
  simp [hj]
end Go.My
namespace Go.Proofs.YtfpjelpbeicdoaaGreatDoor
open Go.RowKit Go.My
set_option maxHeartbeats 1000000 in
theorem l1Split_any (s : ByteArray) (b : UInt8) (w : World) (hs : s.size ≤ 1048576) :
    Calls Tryz.prog 43 #[.string s, .int .u8 b.toNat] w fun e w' => ∃ A' c', e = .returned (.slice A' (splitL s b).length c') ∧ w'.ownsRow w.heap.size 9 1 (.slice A' (splitL s b).length c') (splitL s b).length (sCells (splitL s b)) ∧ Below w.heap.size w w' := by
  have ho0 := own_lit (e := 9) (size := 1) (B := w.heap.size) (w := w) #[] 0 (by simp) (by unfold maxLen; omega) rfl
  have hb0 := bnew (Below.refl w.heap.size w) (.cells #[] 9)
  have HR : Hid (splitL s b = (cutN s b s.size).1 ++ [s.extract (cutN s b s.size).2 s.size]) := rfl
  generalize splitL s b = R at *
  go_enter Tryz.func43, Tryz.ntmps43
  go_wp2
  go_loopw [5, 6, 7] (fun o f i wr => ∃ k fr : Nat, ∃ PL : List ByteArray, ∃ (A' : Option Addr) (c' : Nat), k ≤ s.size ∧ fr ≤ k ∧ PL.length ≤ k ∧ i = .int .i64 k ∧ f = .int .i64 fr ∧ o = .slice A' PL.length c' ∧ Hid (cutN s b k = (PL, fr)) ∧ wr.ownsRow w.heap.size 9 1 (.slice A' PL.length c') PL.length (sCells PL) ∧ Below w.heap.size w wr) (fun _ _ i _ => s.size - (intOf i).toNat)
  case atStart => exact ⟨0, 0, [], _, _, by omega, by omega, by simp, rfl, rfl, rfl, rfl, ho0, hb0⟩
  case round =>
    obtain ⟨k, fr, PL, A', c', hk, hfr, hPL, rfl, rfl, rfl, H, ho, hb⟩ := hrel
    clear ho0 hb0
    have hfrI : (fr : Int) ≤ (k : Int) := by omega
    by_cases hlt : k < s.size
    · have hkI : (k : Int) < (s.size : Int) := by omega
      have hc : s[k].toNat < 256 := s[k].toNat_lt
      by_cases hq : s[k] = b
      · have HN : Hid (cutN s b (k + 1) = (PL ++ [s.extract fr k], k + 1)) := (cutN_eq hlt hq).trans (by rw [H.out])
        have he : (((s[k].toNat : Nat) : Int) == ((b.toNat : Nat) : Int)) = true := by rw [hq]; simp
        clear H hq
        have hoW := own_below ho (bnew (Below.refl wr.heap.size wr) (.cells #[.string (s.extract fr k)] 9))
        have hbW := bnew hb (.cells #[.string (s.extract fr k)] 9)
        have hrd := rd_new wr #[.string (s.extract fr k)] 9
        go_wp2_with (at_builtin; refine wpl_app rfl (.tmp 20) (.tmp 25) 58 rfl el_Str (v := .slice A' PL.length c') rfl hoW rfl rfl hrd (by simp [Value.oneCell']) (by unfold maxLen; omega) (by omega) hbW.size ?_; intro A1 c1 w1 ho1 hg1 _)
        have hb1 : Below w.heap.size w w1 := hbW.grown hg1 hbW.size (fun k hk => (hoW.lt k hk).1)
        clear hoW hbW hrd hg1
        go_roundw
        case rel => exact ⟨k + 1, k + 1, PL ++ [s.extract fr k], A1, c1, by omega, by omega, by simp; omega, by go_num, by go_num, by simp, HN, by simpa [sCells] using ho1, hb1⟩
        case measure => simp [intOf]; omega
      · have HN : Hid (cutN s b (k + 1) = (PL, fr)) := (cutN_ne hlt hq).trans H.out
        have he : (((s[k].toNat : Nat) : Int) == ((b.toNat : Nat) : Int)) = false := by
          have : s[k].toNat ≠ b.toNat := fun e => hq (UInt8.toNat_inj.1 e)
          simp; omega
        clear H hq
        go_wp2
        go_roundw
        case rel => exact ⟨k + 1, fr, PL, A', c', by omega, by omega, by omega, by go_num, rfl, rfl, HN, ho, hb⟩
        case measure => simp [intOf]; omega
    · have hkn : k = s.size := by omega
      have HF : Hid (R = PL ++ [s.extract fr s.size]) := HR.out.trans (by rw [← hkn, H.out])
      have hfs : (fr : Int) ≤ (s.size : Int) := by omega
      clear H HR hkn
      have hoW := own_below ho (bnew (Below.refl wr.heap.size wr) (.cells #[.string (s.extract fr s.size)] 9))
      have hbW := bnew hb (.cells #[.string (s.extract fr s.size)] 9)
      have hrd := rd_new wr #[.string (s.extract fr s.size)] 9
      go_wp2_with (at_builtin; refine wpl_app rfl (.tmp 29) (.tmp 33) 58 rfl el_Str (v := .slice A' PL.length c') rfl hoW rfl rfl hrd (by simp [Value.oneCell']) (by unfold maxLen; omega) (by omega) hbW.size ?_; intro A1 c1 w1 ho1 hg1 _)
      have hb1 : Below w.heap.size w w1 := hbW.grown hg1 hbW.size (fun k hk => (hoW.lt k hk).1)
      go_ret
      exact ⟨A1, c1, by rw [HF.out]; simp, by rw [HF.out]; simpa [sCells] using ho1, hb1⟩
end Go.Proofs.YtfpjelpbeicdoaaGreatDoor
