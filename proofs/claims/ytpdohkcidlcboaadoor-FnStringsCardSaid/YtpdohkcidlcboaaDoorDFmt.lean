/-
  FormatInt: both texts; the law's walk. Conditions: the library's table of powers of ten is as laid.
-/
import Derived.Test.YtpdohkcidlcboaaDoorDNum
import Derived.Test.YtpdohkcidlcboaaDoorLaw
namespace Go.My
open Go.RowKit
theorem below_gr (w : World) (k : Nat) (os : Array Obj) : Below w.heap.size w (Go.Sort.grow (w.drewN k) os) := by
  refine ⟨rfl, rfl, rfl, by simp [Go.Sort.grow, World.drewN], fun j hj => ?_⟩
  simp only [Go.Sort.grow, World.drewN]
  exact Array.getElem?_append_left hj
def fmtR (n : Int) : ByteArray × Bool := if inB n (-999999) 999999 = true then (⟨(Lib.itoa n).toArray⟩, true) else (⟨#[]⟩, false)
end Go.My
namespace Go.Proofs.YtpdohkcidlcboaaDoor
open Go.RowKit Go.My
theorem tab_below {w w' : World} {nm : String} {k : IntKind} {zs : List Int} (h : Lib.TabIs Tryd.prog w nm k zs) (hb : Below w.heap.size w w') : Lib.TabIs Tryd.prog w' nm k zs := by
  unfold Lib.TabIs World.var? at *
  cases hg : (Tryd.prog).globalNamed nm with
  | none => rw [hg] at h; simp at h
  | some g =>
    rw [hg] at h
    simp only [Option.bind_some] at h ⊢
    have hl : g < w.heap.size := by
      by_cases hl : g < w.heap.size
      · exact hl
      · rw [Array.getElem?_eq_none (by omega)] at h; cases h
    rw [hb.block g hl]
    exact h
theorem specFmt_any (n : Int) (w : World) : Calls Tryd.prog 8 #[.int .i64 n] w fun e w' => e = .returned (.tuple #[.string (fmtR n).1, .bool (fmtR n).2]) ∧ Below w.heap.size w w' := by
  by_cases h : -999999 ≤ n ∧ n ≤ 999999
  · have hf : fmtR n = (⟨(Lib.itoa n).toArray⟩, true) := if_pos (inB_yes h)
    have HN := Lib.hid (numI_any n h.1 h.2 w)
    rw [hf]
    have HB : inB n (-999999) 999999 = true := inB_yes h
    generalize (⟨(Lib.itoa n).toArray⟩ : ByteArray) = D at *
    go_enter Tryd.func8, Tryd.ntmps8
    go_wp2_with (first | (go_at_call 21; refine (l1In_any _ _ _ _).mono ?_; rintro e w9 ⟨rfl, rfl⟩) | (go_at_call 22; refine HN.out.mono ?_; rintro e w9 ⟨rfl, hb⟩))
    exact bodyPost_ret (v := .tuple #[.string D, .bool true]) (by simp [results, Tryd.results8, go_sem]) rfl ⟨rfl, hb⟩
  · have hf : fmtR n = (⟨#[]⟩, false) := if_neg (by rw [inB_no h]; decide)
    rw [hf]
    have HB : inB n (-999999) 999999 = false := inB_no h
    go_enter Tryd.func8, Tryd.ntmps8
    go_wp2_with (go_at_call 21; refine (l1In_any _ _ _ _).mono ?_; rintro e w9 ⟨rfl, rfl⟩)
    exact bodyPost_ret (v := .tuple #[.string ⟨#[]⟩, .bool false]) (by simp [results, Tryd.results8, go_sem]) rfl ⟨rfl, Below.refl _ _⟩
theorem implFmt_any (n : Int) (w : World) (htab : Lib.TabIs Tryd.prog w "internal/strconv.uint64pow10" .u64 Lib.pow10Tab) : Calls Tryd.prog 9 #[.int .i64 n] w fun e w' => e = .returned (.tuple #[.string (fmtR n).1, .bool (fmtR n).2]) ∧ Below w.heap.size w w' := by
  by_cases h : -999999 ≤ n ∧ n ≤ 999999
  · have hf : fmtR n = (⟨(Lib.itoa n).toArray⟩, true) := if_pos (inB_yes h)
    have HN := Lib.hid (Tryd.strconv_Itoa n (by omega) (by omega) w htab)
    rw [hf]
    have HB : inB n (-999999) 999999 = true := inB_yes h
    generalize (⟨(Lib.itoa n).toArray⟩ : ByteArray) = D at *
    go_enter Tryd.func9, Tryd.ntmps9
    go_wp2_with (first | (go_at_call 23; refine (inside_any _ _ _ _).mono ?_; rintro e w9 ⟨rfl, rfl⟩) | (go_at_call 24; refine HN.out.mono ?_; rintro e w9 ⟨rfl, k, os, rfl⟩))
    exact bodyPost_ret (v := .tuple #[.string D, .bool true]) (by simp [results, Tryd.results9, go_sem]) rfl ⟨rfl, below_gr _ _ _⟩
  · have hf : fmtR n = (⟨#[]⟩, false) := if_neg (by rw [inB_no h]; decide)
    rw [hf]
    have HB : inB n (-999999) 999999 = false := inB_no h
    go_enter Tryd.func9, Tryd.ntmps9
    go_wp2_with (go_at_call 23; refine (inside_any _ _ _ _).mono ?_; rintro e w9 ⟨rfl, rfl⟩)
    exact bodyPost_ret (v := .tuple #[.string ⟨#[]⟩, .bool false]) (by simp [results, Tryd.results9, go_sem]) rfl ⟨rfl, Below.refl _ _⟩
theorem law_FormatInt (n : Int) (w : World) (htab : Lib.TabIs Tryd.prog w "internal/strconv.uint64pow10" .u64 Lib.pow10Tab) : Calls Tryd.prog 3 #[.int .i64 n] w fun e w' => e = .returned (.bool true) ∧ Below w.heap.size w w' := by
  have H1 := Lib.hid (specFmt_any n w)
  have H2 : Hid (∀ w1, Below w.heap.size w w1 → _) := fun w1 hb => implFmt_any n w1 (tab_below htab hb)
  generalize fmtR n = R at *
  obtain ⟨D, b⟩ := R
  clear htab
  go_enter Tryd.func3, Tryd.ntmps3
  go_wp2_with fail
  refine H1.out.mono ?_
  rintro e w1 ⟨rfl, hb1⟩
  go_wp2_with fail
  refine (H2.out w1 hb1).mono ?_
  rintro e w2 ⟨rfl, hb2⟩
  have hb := btr hb1 hb2
  go_wp2
  go_ret
  exact ⟨rfl, hb⟩
end Go.Proofs.YtpdohkcidlcboaaDoor

