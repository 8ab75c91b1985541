/-
  Draws of members, numbers and offices. Conditions: none.
-/
import Derived.Test.YtngheildmhimoaaGreatDoorMemD
namespace Go.Proofs.YtngheildmhimoaaGreatDoor
open Go.RowKit Go.My
theorem own_snocI {w : World} {B n : Nat} {A : Option Addr} {c : Nat} {L : List Int} {m : Int} (h : w.ownsRow B 3 1 (.slice A (n + 1) c) (n + 1) (intCells L ++ [.int .i64 m])) (hn : n = L.length := by rfl) : w.ownsRow B 3 1 (.slice A (L ++ [m]).length c) (L ++ [m]).length (intCells (L ++ [m])) := by
  subst hn
  have e : intCells (L ++ [m]) = intCells L ++ [.int .i64 m] := by simp [intCells]
  rw [e, List.length_append]; exact h
set_option maxHeartbeats 4000000 in
theorem memberNumber_any (g N B : Nat) (A : Option Addr) (c : Nat) (xs : List Mem) (w : World) (h : Cur w g N 47) (hN : N ≤ 500000000000) (hn : xs.length ≤ 13) (ho : w.ownsRow B 54 3 (.slice A xs.length c) xs.length (memCells xs)) (hlt : g < B) :
    Calls Tryz.prog 36 #[.pointer (some ⟨g, 0, none⟩), .slice A xs.length c] w fun e w' => ∃ v : Int, e = .returned (.int .i64 v) ∧ Cur w' g (N + 5) 47 ∧ w.grownBy w' (some g) := by
  have hc := h
  have hg := World.grownBy.refl w (some g)
  clear h
  by_cases h0 : xs.length = 0
  · go_enter Tryz.func36, Tryz.ntmps36
    go_wp2_with fail
    have hbA := bnew (Below.refl w.heap.size w) (.cells #[.int .i64 0, .int .i64 1, .int .i64 5, .int .i64 50] 3)
    refine (among_any g _ _ 4 4 _ (fun _ => true) _ (hc.below hbA) (by omega) rfl (by decide) (by decide) Rd.made (by decide) (fun ad e => by cases e; simp; have := hc.lt; omega)).mono ?_
    rintro e w9 ⟨v, rfl, -, hc9, hg9⟩
    replace ho := World.ownsRow.kept (own_below ho hbA) hg9 (.inr (Ne.symm (own_ne ho hlt)))
    replace hg := grown_trans (grown_below hg hbA) hg9
    clear hbA
    replace hc := hc9
    clear hc9 hg9
    generalize w9 = W at *
    go_wp2
    go_ret
    exact ⟨v, rfl, hc.more (by omega), hg⟩
  · have h0I : ((xs.length : Int) == 0) = false := by rw [beq_eq_false_iff_ne]; omega
    have h0J : ¬ (xs.length : Int) = 0 := by omega
    go_enter Tryz.func36, Tryz.ntmps36
    go_wp2_with fail
    refine (one_any g _ 8 _ hc (by omega)).mono ?_
    rintro e w9 ⟨b, rfl, hc9, hg9⟩
    replace ho := World.ownsRow.kept ho hg9 (.inr (Ne.symm (own_ne ho hlt)))
    replace hg := grown_trans hg hg9
    replace hc := hc9
    clear hc9 hg9
    generalize w9 = W at *
    cases b with
    | true =>
      go_wp2_with fail
      have hbA := bnew (Below.refl W.heap.size W) (.cells #[.int .i64 0, .int .i64 1, .int .i64 5, .int .i64 50] 3)
      refine (among_any g _ _ 4 4 _ (fun _ => true) _ (hc.below hbA) (by omega) rfl (by decide) (by decide) Rd.made (by decide) (fun ad e => by cases e; simp; have := hc.lt; omega)).mono ?_
      rintro e w9 ⟨v, rfl, -, hc9, hg9⟩
      replace ho := World.ownsRow.kept (own_below ho hbA) hg9 (.inr (Ne.symm (own_ne ho hlt)))
      replace hg := grown_trans (grown_below hg hbA) hg9
      clear hbA
      replace hc := hc9
      clear hc9 hg9
      generalize w9 = W at *
      go_wp2
      go_ret
      exact ⟨v, rfl, hc.more (by omega), hg⟩
    | false =>
      go_wp2_with fail
      refine (pick_any g _ (xs.length : Int) _ hc (by omega)).mono ?_
      rintro e w9 ⟨v, rfl, hv, hc9, hg9⟩
      replace ho := World.ownsRow.kept ho hg9 (.inr (Ne.symm (own_ne ho hlt)))
      replace hg := grown_trans hg hg9
      replace hc := hc9
      clear hc9 hg9
      generalize w9 = W at *
      obtain ⟨k, rfl⟩ : ∃ m : Nat, v = m := ⟨v.toNat, by omega⟩
      have hk : k < xs.length := by have := hv.2.1 (by omega); omega
      have hkI : (k : Int) < (xs.length : Int) := by omega
      obtain ⟨b, off, rfl, c0, c1, c2⟩ := Rd.mem (own_rd ho) hk
      generalize xs[k] = s at *
      go_wp2
      go_ret
      exact ⟨s.num, rfl, hc.more (by omega), hg⟩
end Go.Proofs.YtngheildmhimoaaGreatDoor
