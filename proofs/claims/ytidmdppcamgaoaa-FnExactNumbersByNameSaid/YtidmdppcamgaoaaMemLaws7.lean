/-
  FnExactNumbersByName returns true for every input and leaves its arguments as they were. Conditions: none.
-/
import Derived.Test.YtidmdppcamgaoaaMemb7
import Derived.Test.YtidmdppcamgaoaaMemLaws
namespace Go.Proofs.Ytidmdppcamgaoaa
open Go.RowKit Go.My Go.ChangeShapes Go.WideShapes Go.ChangeAt

set_option maxHeartbeats 2000000 in
set_option maxRecDepth 100000 in
theorem law_NumbersByName (Axs : Option Addr) (cxs : Nat) (xs : List Mem) (w : World) (hnxs : xs.length ≤ maxLen) (hxxs : Rd w Axs (memCells xs)) (hsxs : ∀ s ∈ xs, s.name.size ≤ maxLen) :
    Calls Try.prog 7 #[.slice Axs xs.length cxs] w fun e w' => e = .returned (.bool true) ∧ Below w.heap.size w w' := by
  have hb := Below.refl w.heap.size w
  by_cases hy0 : 0 ≤ memSz (1048576) xs
  rotate_left
  · go_enter Try.func7, Try.ntmps7
    go_wp2_with fail
    refine (szMemberS_any Axs cxs xs (1048576) _ (by omega) (by omega) hnxs (hxxs.below hb) hsxs).mono ?_
    rintro e w1 ⟨rfl, hb2⟩
    replace hb := btr hb hb2; clear hb2
    go_wp2_with fail
    go_ret
    exact ⟨rfl, hb⟩
  obtain ⟨hl0, znxs, zsxs⟩ := memSz_ok hy0
  have hkxs : xs.length ≤ 1048576 := by omega
  obtain ⟨r, hr⟩ : ∃ r, r = (byNameR xs) := ⟨_, rfl⟩
  have Hs : Hid (∀ (w1 : World) (Axs1 : Option Addr) (cxs1 : Nat), xs.length ≤ cxs1 → Rd w1 Axs1 (memCells xs) → Calls Try.prog 24 #[.slice Axs1 xs.length cxs1] w1 fun e w' => ∃ A0 c0, e = .returned (.tuple #[.slice A0 r.1.length c0, .bool r.2]) ∧ w'.ownsRow w1.heap.size 3 1 (.slice A0 r.1.length c0) r.1.length (intCells r.1) ∧ Below w1.heap.size w1 w') := by
    subst hr; exact fun w1 Axs1 cxs1 hkxs1 hxs1 => specByName_any Axs1 cxs1 xs w1 hnxs hkxs1 hxs1 hsxs
  have Hi : Hid (∀ (w1 : World) (Axs1 : Option Addr) (cxs1 : Nat), xs.length ≤ cxs1 → Rd w1 Axs1 (memCells xs) → Calls Try.prog 25 #[.slice Axs1 xs.length cxs1] w1 fun e w' => ∃ A0 c0, e = .returned (.tuple #[.slice A0 r.1.length c0, .bool r.2]) ∧ w'.ownsRow w1.heap.size 3 1 (.slice A0 r.1.length c0) r.1.length (intCells r.1) ∧ Below w1.heap.size w1 w') := by
    subst hr; exact fun w1 Axs1 cxs1 hkxs1 hxs1 => byName_any Axs1 cxs1 xs w1 hnxs hkxs1 hxs1 hsxs
  have hB0 : r.1.length ≤ 2097152 := by subst hr; (have := byNameR_len xs; omega)
  clear hr
  have Hsmxs := Lib.hid hsxs; clear hsxs
  clear zsxs
  go_enter Try.func7, Try.ntmps7
  go_wp2_with fail
  refine (szMemberS_any Axs cxs xs (1048576) _ (by omega) (by omega) hnxs (hxxs.below hb) Hsmxs.out).mono ?_
  rintro e w1 ⟨rfl, hb2⟩
  replace hb := btr hb hb2; clear hb2
  go_wp2_with fail
  refine (toMemberS_any Axs cxs xs _ hkxs (hxxs.below hb)).mono ?_
  rintro e w2 ⟨Axss, cxss, rfl, hoxss, hb2⟩
  replace hoxss := own_base hoxss hb.size
  replace hb := btr hb hb2
  clear hb2
  go_wp2_with fail
  refine (Hs.out _ _ _ (own_cap hoxss) (own_rd hoxss)).mono ?_
  rintro e w3 ⟨AW0, cW0, rfl, hoW0, hb2⟩
  have hap_xss_W0 := apart_new hoxss hoW0; have hap_W0_xss := apart_symm hap_xss_W0
  replace hoW0 := own_base hoW0 hb.size
  replace hb := btr hb hb2
  replace hoxss := own_below hoxss hb2
  clear hb2
  clear hoxss
  clear hap_W0_xss hap_xss_W0
  go_wp2_with fail
  refine (toMemberS_any Axs cxs xs _ hkxs (hxxs.below hb)).mono ?_
  rintro e w4 ⟨Axsx, cxsx, rfl, hoxsx, hb2⟩
  have hap_W0_xsx := apart_new hoW0 hoxsx; have hap_xsx_W0 := apart_symm hap_W0_xsx
  replace hoxsx := own_base hoxsx hb.size
  replace hb := btr hb hb2
  replace hoW0 := own_below hoW0 hb2
  clear hb2
  go_wp2_with fail
  refine (Hi.out _ _ _ (own_cap hoxsx) (own_rd hoxsx)).mono ?_
  rintro e w5 ⟨AG0, cG0, rfl, hoG0, hb2⟩
  have hap_W0_G0 := apart_new hoW0 hoG0; have hap_G0_W0 := apart_symm hap_W0_G0
  have hap_xsx_G0 := apart_new hoxsx hoG0; have hap_G0_xsx := apart_symm hap_xsx_G0
  replace hoG0 := own_base hoG0 hb.size
  replace hb := btr hb hb2
  replace hoW0 := own_below hoW0 hb2
  replace hoxsx := own_below hoxsx hb2
  clear hb2
  go_wp2_with fail
  refine (eqIntS_same AG0 AW0 cG0 cW0 r.1 _ (by have := hB0; unfold maxLen; omega) (own_rd hoG0) (own_rd hoW0)).mono ?_
  rintro e w6 ⟨rfl, hb2⟩
  replace hb := btr hb hb2
  replace hoW0 := own_below hoW0 hb2
  replace hoxsx := own_below hoxsx hb2
  replace hoG0 := own_below hoG0 hb2
  clear hb2
  go_wp2_with fail
  refine (toMemberS_any Axs cxs xs _ hkxs (hxxs.below hb)).mono ?_
  rintro e w7 ⟨Axst, cxst, rfl, hoxst, hb2⟩
  have hap_W0_xst := apart_new hoW0 hoxst; have hap_xst_W0 := apart_symm hap_W0_xst
  have hap_xsx_xst := apart_new hoxsx hoxst; have hap_xst_xsx := apart_symm hap_xsx_xst
  have hap_G0_xst := apart_new hoG0 hoxst; have hap_xst_G0 := apart_symm hap_G0_xst
  replace hoxst := own_base hoxst hb.size
  replace hb := btr hb hb2
  replace hoW0 := own_below hoW0 hb2
  replace hoxsx := own_below hoxsx hb2
  replace hoG0 := own_below hoG0 hb2
  clear hb2
  go_wp2_with fail
  refine (eqMemberS_same Axsx Axst cxsx cxst xs _ hnxs (own_rd hoxsx) (own_rd hoxst)).mono ?_
  rintro e w8 ⟨rfl, hb2⟩
  replace hb := btr hb hb2
  replace hoW0 := own_below hoW0 hb2
  replace hoxsx := own_below hoxsx hb2
  replace hoG0 := own_below hoG0 hb2
  replace hoxst := own_below hoxst hb2
  clear hb2
  clear hoxst
  clear hap_W0_xst hap_xst_W0
  clear hap_xsx_xst hap_xst_xsx
  clear hap_G0_xst hap_xst_G0
  go_wp2_with fail
  refine (markMemberS_any Axsx cxsx _ _ _ _ _ (by omega) (by omega) (by omega) hoxsx).mono ?_
  rintro e w9 ⟨rfl, hoxsx', hg⟩
  replace hb := mark_below hb hoxsx hg
  replace hoW0 := own_mark hoW0 hg hap_W0_xsx
  replace hoG0 := own_mark hoG0 hg hap_G0_xsx
  clear hg hoxsx
  have hoxsx := hoxsx'; clear hoxsx'
  go_wp2_with fail
  refine (eqIntS_same AG0 AW0 cG0 cW0 r.1 _ (by have := hB0; unfold maxLen; omega) (own_rd hoG0) (own_rd hoW0)).mono ?_
  rintro e w10 ⟨rfl, hb2⟩
  replace hb := btr hb hb2
  replace hoW0 := own_below hoW0 hb2
  replace hoxsx := own_below hoxsx hb2
  replace hoG0 := own_below hoG0 hb2
  clear hb2
  clear hoxsx
  clear hap_W0_xsx hap_xsx_W0
  clear hap_G0_xsx hap_xsx_G0
  go_wp2_with fail
  refine (markIntS_any AG0 cG0 _ _ _ _ _ (by omega) (by omega) (by omega) hoG0).mono ?_
  rintro e w11 ⟨rfl, hoG0', hg⟩
  replace hb := mark_below hb hoG0 hg
  replace hoW0 := own_mark hoW0 hg hap_W0_G0
  clear hg hoG0
  have hoG0 := hoG0'; clear hoG0'
  go_wp2_with fail
  refine (heldIntS_any AG0 cG0 _ _ _ (by omega) (by omega) (by omega) (own_rd hoG0)).mono ?_
  rintro e w12 ⟨rfl, hb2⟩
  replace hb := btr hb hb2
  replace hoW0 := own_below hoW0 hb2
  replace hoG0 := own_below hoG0 hb2
  clear hb2
  go_wp2_with fail
  refine (toMemberS_any Axs cxs xs _ hkxs (hxxs.below hb)).mono ?_
  rintro e w13 ⟨Axsu, cxsu, rfl, hoxsu, hb2⟩
  have hap_W0_xsu := apart_new hoW0 hoxsu; have hap_xsu_W0 := apart_symm hap_W0_xsu
  have hap_G0_xsu := apart_new hoG0 hoxsu; have hap_xsu_G0 := apart_symm hap_G0_xsu
  replace hoxsu := own_base hoxsu hb.size
  replace hb := btr hb hb2
  replace hoW0 := own_below hoW0 hb2
  replace hoG0 := own_below hoG0 hb2
  clear hb2
  go_wp2_with fail
  refine (Hi.out _ _ _ (own_cap hoxsu) (own_rd hoxsu)).mono ?_
  rintro e w14 ⟨AK0, cK0, rfl, hoK0, hb2⟩
  have hap_W0_K0 := apart_new hoW0 hoK0; have hap_K0_W0 := apart_symm hap_W0_K0
  have hap_G0_K0 := apart_new hoG0 hoK0; have hap_K0_G0 := apart_symm hap_G0_K0
  have hap_xsu_K0 := apart_new hoxsu hoK0; have hap_K0_xsu := apart_symm hap_xsu_K0
  replace hoK0 := own_base hoK0 hb.size
  replace hb := btr hb hb2
  replace hoW0 := own_below hoW0 hb2
  replace hoG0 := own_below hoG0 hb2
  replace hoxsu := own_below hoxsu hb2
  clear hb2
  clear hoxsu
  clear hap_W0_xsu hap_xsu_W0
  clear hap_G0_xsu hap_xsu_G0
  clear hap_K0_xsu hap_xsu_K0
  go_wp2_with fail
  refine (eqIntS_same AK0 AW0 cK0 cW0 r.1 _ (by have := hB0; unfold maxLen; omega) (own_rd hoK0) (own_rd hoW0)).mono ?_
  rintro e w15 ⟨rfl, hb2⟩
  replace hb := btr hb hb2
  replace hoW0 := own_below hoW0 hb2
  replace hoG0 := own_below hoG0 hb2
  replace hoK0 := own_below hoK0 hb2
  clear hb2
  go_wp2_with fail
  refine (heldIntS_any AG0 cG0 _ _ _ (by omega) (by omega) (by omega) (own_rd hoG0)).mono ?_
  rintro e w16 ⟨rfl, hb2⟩
  replace hb := btr hb hb2
  replace hoW0 := own_below hoW0 hb2
  replace hoG0 := own_below hoG0 hb2
  replace hoK0 := own_below hoK0 hb2
  clear hb2
  go_wp2_with fail
  go_ret
  exact ⟨rfl, hb⟩

set_option maxRecDepth 100000 in
theorem law_NumbersByName_lifted (os : Os) (started : os.Started) (H : Type) (enc : TypeId × Value → H) :
    ReturnsInHanded {} Try.checked os 7 .any (Rows.fnExactNumbersByNameSpec.pre6 enc Try.prog Try.f7 Rows.fnExactNumbersByNameRow.domain false) (Rows.fnExactNumbersByNameSpec.post enc Try.prog Try.f7 false true false false) := by
  refine returnsInHanded_of_change (C := Try.checked) own started (by kernel_rfl) Try.func7
    (ChangeSpec.witness6 (enc := enc) (C := Try.checked) false ⟨#[], #[.slice none 0 0], []⟩ 8 (by kernel_rfl) (by kernel_rfl) (by kernel_rfl) (by kernel_rfl)) ?_
  intro W base args ds gs before hval0 hW _ _
  have hval : ∀ (j : Nat) t v, Try.f7.params[j]? = some t → args[j]? = some v → Value.okWide Try.prog W .any base t v := hval0
  have hW' := hW
  obtain ⟨p, q, hA, -⟩ := hW
  replace hA : DataW.TrodAll enc Try.prog W 0 (fun _ => true) true Try.f7.params.toList args.toList ds p := hA
  rw [Try.params7] at hA hval
  obtain ⟨v0, d0, rfl, rfl, h0⟩ := trodAll_one hA
  obtain ⟨Axs, lenxs, capxs, rfl⟩ := okWide_slice Try.underlying22 (hval 0 22 v0 rfl rfl)
  obtain ⟨xs, rfl, hlcxs, hcmxs, hxxs, hokxs⟩ := open_Mem h0
  exact My.law_step laidOut Try.underlying4 (by kernel_rfl) (by kernel_rfl) rfl (fun H ds hd => by match ds, hd with | [_], _ => rfl) hW' (law_NumbersByName Axs capxs xs W (Nat.le_trans hlcxs hcmxs) hxxs (fun s hs => hokxs s hs))
theorem law_NumbersByName_holds : Rows.FnExactNumbersByNameSaid :=
  OpenClaim.holds_of_wide 7 Try.f7 rfl rfl rfl rfl rfl rfl rfl ⟨rfl, rfl, rfl, rfl, rfl⟩ rfl rfl rfl rfl rfl (by kernel_rfl) Try.func7 (by kernel_rfl)
    (of_decide_eq_true (by kernel_rfl)) (by unfold Func.isWrapper; first | (rw [if_pos (by decide +kernel)]; kernel_rfl) | (rw [if_neg (by decide +kernel)]; exact ⟨rfl, rfl⟩))
    (fun os started H enc _ => law_NumbersByName_lifted os started H enc)

end Go.Proofs.Ytidmdppcamgaoaa
