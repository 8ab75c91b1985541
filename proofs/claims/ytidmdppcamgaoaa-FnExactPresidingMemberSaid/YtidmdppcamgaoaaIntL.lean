/-
  A list of ints as a law's argument: its copy, its cells. Conditions: none of theirs.
-/
import Derived.Test.YtidmdppcamgaoaaIntS
import Derived.Test.YtidmdppcamgaoaaLaw
namespace Go.My
open Go.RowKit
theorem intCells_flat (xs : List Int) : xs.flatMap (fun x => [Value.int .i64 x]) = intCells xs := by
  induction xs with
  | nil => rfl
  | cons x r ih => simp [intCells] at ih ⊢; exact ih
theorem intCells_succ (xs : List Int) (k : Nat) (hk : k < xs.length) : intCells (xs.take (k + 1)) = intCells (xs.take k) ++ [.int .i64 xs[k]] := by
  unfold intCells
  rw [List.take_succ_eq_append_getElem hk, List.map_append]
  rfl
end Go.My
namespace Go.Proofs.Ytidmdppcamgaoaa
open Go.RowKit Go.My
set_option maxHeartbeats 1000000 in
theorem toIntS_any (A : Option Addr) (c : Nat) (xs : List Int) (w : World) (hn : xs.length ≤ 1048576) (hx : Rd w A (intCells xs)) :
    Calls Try.prog 19 #[.slice A xs.length c] w fun e w' => ∃ A' c', e = .returned (.slice A' xs.length c') ∧ w'.ownsRow w.heap.size 3 1 (.slice A' xs.length c') xs.length (intCells xs) ∧ Below w.heap.size w w' := by
  go_enter Try.func19, Try.ntmps19
  go_wp2_with (at_make; refine wpl_make rfl (.tmp 6) (.tmp 6) 33 rfl el_Int rfl rfl rfl rfl (by omega) (by unfold maxLen; omega) (Nat.le_refl _) ?_; intro L0 w1 hL0 ho1 hg1)
  go_loopw [4] (fun i wr => ∃ k : Nat, ∃ L : List Value, k ≤ xs.length ∧ i = .int .i64 k ∧ Hid (L.length = xs.length * 1) ∧ Hid (L.take k = intCells (xs.take k)) ∧ wr.ownsRow w.heap.size 3 1 (.slice (some ⟨w.heap.size, 0, none⟩) xs.length xs.length) xs.length L ∧ Below w.heap.size w wr) (fun i _ => xs.length - (intOf i).toNat)
  case atStart => exact ⟨0, L0, by omega, rfl, hL0, by simp [Hid, intCells], ho1, below_grown hg1 (Nat.le_refl _) (by simp)⟩
  case round =>
    obtain ⟨k, L, hk, rfl, hL, H, ho, hb⟩ := hrel
    clear ho1 hg1 hL0
    by_cases hlt : k < xs.length
    · obtain ⟨b, off, rfl, c0⟩ := Rd.ints (hx.below hb) hlt
      have Hs := Lib.hid (intCells_succ xs k hlt)
      generalize xs[k] = s at *
      obtain ⟨u0, f0⟩ := own_some ho k (by omega)
      have z0 := ho.frozenAt k
      have Hm : Hid ((L.set k (.int .i64 s)).take (k + 1) = intCells (xs.take (k + 1))) := by
        show _ = _
        rw [take_set_next _ _ _ (by have := hL.out; omega), H.out, Hs.out]
      clear H Hs hx
      go_wp2
      go_roundw
      case rel => exact ⟨k + 1, _, by omega, by go_num, by simpa using hL, Hm, own_set ho _ _, hb.setCell (Nat.le_refl _) _⟩
      case measure => simp [intOf]; omega
    · have hL' := hL.out
      have HL : Hid (L = intCells xs) := by
        have := H.out
        rw [List.take_of_length_le (by omega), List.take_of_length_le (by omega)] at this
        exact this
      clear H hL hL'
      go_wp2
      go_ret
      exact ⟨_, _, rfl, HL.out ▸ ho, hb⟩
theorem open_Ints {H : Type} {enc : TypeId × Value → H} {w : World} {A : Option Addr} {len cap : Nat} {d : DataW H} {ps : List MemPlace} (h : DataW.Trod enc Try.prog w 0 (fun _ => true) true 33 (.slice A len cap) d ps) :
    ∃ xs : List Int, xs.length = len ∧ len ≤ cap ∧ cap ≤ maxLen ∧ Rd w A (intCells xs) ∧ ∀ s ∈ xs, True := by
  obtain ⟨xs, h1, h2, h3, h4, h5⟩ := open_list (fun x : Int => [Value.int .i64 x]) (fun _ => True) 1 (fun _ => rfl) (by decide) Try.underlying33 (by kernel_rfl) (fun n cs x hx => by
    obtain ⟨n1, e1, _, _⟩ := DataW.trod_int Try.underlying3 hx
    exact ⟨n1, e1, trivial⟩) h
  exact ⟨xs, h1, h2, h3, by rw [← intCells_flat]; exact h4, h5⟩
end Go.Proofs.Ytidmdppcamgaoaa
