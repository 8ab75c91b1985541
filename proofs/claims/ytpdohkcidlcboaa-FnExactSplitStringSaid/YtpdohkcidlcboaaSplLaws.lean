/-
  FnExactSplitString returns true for every input. Conditions: none.
-/
import Derived.Test.YtpdohkcidlcboaaSpl
import Derived.Test.YtpdohkcidlcboaaLaw
namespace Go.Proofs.Ytpdohkcidlcboaa
open Go.RowKit Go.My Go.ChangeShapes Go.WideShapes Go.ChangeAt
open Go.ChangeMaps (open_string shut_string)

theorem own : ownKnob Try.prog.godebug = none := by kernel_rfl
theorem laidOut : laidOutB Try.prog = true := by kernel_rfl

set_option maxHeartbeats 2000000 in
set_option maxRecDepth 100000 in
theorem law_SplitString (s : ByteArray) (t : ByteArray) (w : World) (hzs : s.size ≤ maxLen) (hzt : t.size ≤ maxLen) :
    Calls Try.prog 6 #[.string s, .string t] w fun e w' => e = .returned (.bool true) ∧ Below w.heap.size w w' := by
  have hms : s.size ≤ 9223372036854775807 := by have := hzs; unfold maxLen at this; omega
  have hmt : t.size ≤ 9223372036854775807 := by have := hzt; unfold maxLen at this; omega
  by_cases hqs : s.size ≤ 1048576
  rotate_left
  · have hqsI : (1048576 : Int) < ((s.size : Nat) : Int) := by omega
    go_enter Try.func6, Try.ntmps6
    go_wp2_with fail
    all_goals
      go_ret
      exact ⟨rfl, Below.refl _ _⟩
  by_cases hqt : t.size ≤ 1048576
  rotate_left
  · have hqtI : (1048576 : Int) < ((t.size : Nat) : Int) := by omega
    go_enter Try.func6, Try.ntmps6
    go_wp2_with fail
    all_goals
      go_ret
      exact ⟨rfl, Below.refl _ _⟩
  have hb := Below.refl w.heap.size w
  obtain ⟨r, hr⟩ : ∃ r, r = (splitR s t) := ⟨_, rfl⟩
  have Hs : Hid (∀ (w1 : World), Calls Try.prog 13 #[.string s, .string t] w1 fun e w' => ∃ A0 c0, e = .returned (.tuple #[.slice A0 r.1.length c0, .bool r.2]) ∧ w'.ownsRow w1.heap.size 9 1 (.slice A0 r.1.length c0) r.1.length (sCells r.1) ∧ Below w1.heap.size w1 w') := by
    subst hr; exact fun w1   => specSplit_any s t w1 hzs hzt
  have Hi : Hid (∀ (w1 : World), Calls Try.prog 14 #[.string s, .string t] w1 fun e w' => ∃ A0 c0, e = .returned (.tuple #[.slice A0 r.1.length c0, .bool r.2]) ∧ w'.ownsRow w1.heap.size 9 1 (.slice A0 r.1.length c0) r.1.length (sCells r.1) ∧ Below w1.heap.size w1 w') := by
    subst hr; exact fun w1   => split_any s t w1 hzs hzt
  have hB0 : r.1.length ≤ 2097152 := by subst hr; (have := splitR_len s t; omega)
  clear hr
  go_enter Try.func6, Try.ntmps6
  go_wp2_with fail
  refine (Hs.out _  ).mono ?_
  rintro e w2 ⟨AW0, cW0, rfl, hoW0, hb2⟩
  replace hoW0 := own_base hoW0 hb.size
  replace hb := btr hb hb2
  clear hb2
  go_wp2_with fail
  refine (Hi.out _  ).mono ?_
  rintro e w3 ⟨AG0, cG0, rfl, hoG0, hb2⟩
  have hap_W0_G0 := apart_new hoW0 hoG0; have hap_G0_W0 := apart_symm hap_W0_G0
  replace hoG0 := own_base hoG0 hb.size
  replace hb := btr hb hb2
  replace hoW0 := own_below hoW0 hb2
  clear hb2
  go_wp2_with fail
  refine (eqStringS_same AG0 AW0 cG0 cW0 r.1 _ (by have := hB0; unfold maxLen; omega) (own_rd hoG0) (own_rd hoW0)).mono ?_
  rintro e w4 ⟨rfl, hb2⟩
  replace hb := btr hb hb2
  replace hoW0 := own_below hoW0 hb2
  replace hoG0 := own_below hoG0 hb2
  clear hb2
  go_wp2_with fail
  refine (markStringS_any AG0 cG0 _ _ _ _ _ (by omega) (by omega) (by omega) hoG0).mono ?_
  rintro e w5 ⟨rfl, hoG0', hg⟩
  replace hb := mark_below hb hoG0 hg
  replace hoW0 := own_mark hoW0 hg hap_W0_G0
  clear hg hoG0
  have hoG0 := hoG0'; clear hoG0'
  go_wp2_with fail
  refine (heldStringS_any AG0 cG0 _ _ _ (by omega) (by omega) (by omega) (own_rd hoG0)).mono ?_
  rintro e w6 ⟨rfl, hb2⟩
  replace hb := btr hb hb2
  replace hoW0 := own_below hoW0 hb2
  replace hoG0 := own_below hoG0 hb2
  clear hb2
  go_wp2_with fail
  refine (Hi.out _  ).mono ?_
  rintro e w7 ⟨AK0, cK0, rfl, hoK0, hb2⟩
  have hap_W0_K0 := apart_new hoW0 hoK0; have hap_K0_W0 := apart_symm hap_W0_K0
  have hap_G0_K0 := apart_new hoG0 hoK0; have hap_K0_G0 := apart_symm hap_G0_K0
  replace hoK0 := own_base hoK0 hb.size
  replace hb := btr hb hb2
  replace hoW0 := own_below hoW0 hb2
  replace hoG0 := own_below hoG0 hb2
  clear hb2
  go_wp2_with fail
  refine (eqStringS_same AK0 AW0 cK0 cW0 r.1 _ (by have := hB0; unfold maxLen; omega) (own_rd hoK0) (own_rd hoW0)).mono ?_
  rintro e w8 ⟨rfl, hb2⟩
  replace hb := btr hb hb2
  replace hoW0 := own_below hoW0 hb2
  replace hoG0 := own_below hoG0 hb2
  replace hoK0 := own_below hoK0 hb2
  clear hb2
  go_wp2_with fail
  refine (heldStringS_any AG0 cG0 _ _ _ (by omega) (by omega) (by omega) (own_rd hoG0)).mono ?_
  rintro e w9 ⟨rfl, hb2⟩
  replace hb := btr hb hb2
  replace hoW0 := own_below hoW0 hb2
  replace hoG0 := own_below hoG0 hb2
  replace hoK0 := own_below hoK0 hb2
  clear hb2
  go_wp2_with fail
  go_ret
  exact ⟨rfl, hb⟩

set_option maxRecDepth 100000 in
theorem law_SplitString_lifted (os : Os) (started : os.Started) (H : Type) (enc : TypeId × Value → H) :
    ReturnsInHanded {} Try.checked os 6 .any (Rows.fnExactSplitStringSpec.pre6 enc Try.prog Try.f6 Rows.fnExactSplitStringRow.domain false) (Rows.fnExactSplitStringSpec.post enc Try.prog Try.f6 false true false false) := by
  refine returnsInHanded_of_change (C := Try.checked) own started (by kernel_rfl) Try.func6
    (ChangeSpec.witness6 (enc := enc) (C := Try.checked) false ⟨#[], #[.string ⟨#[]⟩, .string ⟨#[]⟩], []⟩ 8 (by kernel_rfl) (by kernel_rfl) (by kernel_rfl) (by kernel_rfl)) ?_
  intro W base args ds gs before hval0 hW _ _
  have hval : ∀ (j : Nat) t v, Try.f6.params[j]? = some t → args[j]? = some v → Value.okWide Try.prog W .any base t v := hval0
  have hW' := hW
  obtain ⟨p, q, hA, -⟩ := hW
  replace hA : DataW.TrodAll enc Try.prog W 0 (fun _ => true) true Try.f6.params.toList args.toList ds p := hA
  rw [Try.params6] at hA hval
  obtain ⟨v0, v1, d0, d1, p0, p1, rfl, rfl, rfl, h0, h1⟩ := trodAll_two hA
  obtain ⟨s, rfl, rfl, rfl, hzs⟩ := open_string Try.underlying9 (hval 0 9 v0 rfl rfl) h0
  obtain ⟨t, rfl, rfl, rfl, hzt⟩ := open_string Try.underlying9 (hval 1 9 v1 rfl rfl) h1
  exact My.law_step laidOut Try.underlying4 (by kernel_rfl) (by kernel_rfl) rfl (fun H ds hd => by match ds, hd with | [_, _], _ => rfl) hW' (law_SplitString s t W hzs hzt)
theorem law_SplitString_holds : Rows.FnExactSplitStringSaid :=
  OpenClaim.holds_of_wide 6 Try.f6 rfl rfl rfl rfl rfl rfl rfl ⟨rfl, rfl, rfl, rfl, rfl⟩ rfl rfl rfl rfl rfl (by kernel_rfl) Try.func6 (by kernel_rfl)
    (of_decide_eq_true (by kernel_rfl)) (by unfold Func.isWrapper; first | (rw [if_pos (by decide +kernel)]; kernel_rfl) | (rw [if_neg (by decide +kernel)]; exact ⟨rfl, rfl⟩))
    (fun os started H enc _ => law_SplitString_lifted os started H enc)

end Go.Proofs.Ytpdohkcidlcboaa
