/-
  FnExactPresidingMember returns true for every input and leaves its arguments as they were. Conditions: none.
-/
import Derived.Test.YtidmdppcamgaoaaMemb6
import Derived.Test.YtidmdppcamgaoaaIntL
import Derived.Test.YtidmdppcamgaoaaMemLaws
namespace Go.Proofs.Ytidmdppcamgaoaa
open Go.RowKit Go.My Go.ChangeShapes Go.WideShapes Go.ChangeAt

set_option maxHeartbeats 2000000 in
set_option maxRecDepth 100000 in
theorem law_PresidingMember (Axs : Option Addr) (cxs : Nat) (xs : List Mem) (Aps : Option Addr) (cps : Nat) (ps : List Int) (w : World) (hnxs : xs.length ≤ maxLen) (hxxs : Rd w Axs (memCells xs)) (hsxs : ∀ s ∈ xs, s.name.size ≤ maxLen) (hnps : ps.length ≤ maxLen) (hxps : Rd w Aps (intCells ps)) :
    Calls Try.prog 5 #[.slice Axs xs.length cxs, .slice Aps ps.length cps] w fun e w' => e = .returned (.bool true) ∧ Below w.heap.size w w' := by
  have hmps : ps.length ≤ 9223372036854775807 := by have := hnps; unfold maxLen at this; omega
  by_cases hqps : ps.length ≤ 1048576
  rotate_left
  · have hqpsI : (1048576 : Int) < ((ps.length : Nat) : Int) := by omega
    clear hxxs hxps
    go_enter Try.func5, Try.ntmps5
    go_wp2_with fail
    all_goals
      go_ret
      exact ⟨rfl, Below.refl _ _⟩
  have hb := Below.refl w.heap.size w
  by_cases hy0 : 0 ≤ memSz (1048576) xs
  rotate_left
  · go_enter Try.func5, Try.ntmps5
    go_wp2_with fail
    refine (szMemberS_any Axs cxs xs (1048576) _ (by omega) (by omega) hnxs (hxxs.below hb) hsxs).mono ?_
    rintro e w1 ⟨rfl, hb2⟩
    replace hb := btr hb hb2; clear hb2
    go_wp2_with fail
    go_ret
    exact ⟨rfl, hb⟩
  obtain ⟨hl0, znxs, zsxs⟩ := memSz_ok hy0
  have hkxs : xs.length ≤ 1048576 := by omega
  have hkps : ps.length ≤ 1048576 := by omega
  obtain ⟨r, hr⟩ : ∃ r, r = (presR xs ps) := ⟨_, rfl⟩
  have Hs : Hid (∀ (w1 : World) (Axs1 : Option Addr) (cxs1 : Nat) (Aps1 : Option Addr) (cps1 : Nat), xs.length ≤ cxs1 → Rd w1 Axs1 (memCells xs) → Rd w1 Aps1 (intCells ps) → Calls Try.prog 18 #[.slice Axs1 xs.length cxs1, .slice Aps1 ps.length cps1] w1 fun e w' => e = .returned (.tuple #[.int .i64 r.1, .bool r.2]) ∧ Below w1.heap.size w1 w') := by
    subst hr; exact fun w1 Axs1 cxs1 Aps1 cps1 hkxs1 hxs1 hps1 => specPres_any Axs1 cxs1 xs Aps1 cps1 ps w1 hnxs hkxs1 hxs1 hsxs hnps hps1
  have Hi : Hid (∀ (w1 : World) (Axs1 : Option Addr) (cxs1 : Nat) (Aps1 : Option Addr) (cps1 : Nat), xs.length ≤ cxs1 → Rd w1 Axs1 (memCells xs) → Rd w1 Aps1 (intCells ps) → Calls Try.prog 20 #[.slice Axs1 xs.length cxs1, .slice Aps1 ps.length cps1] w1 fun e w' => e = .returned (.tuple #[.int .i64 r.1, .bool r.2]) ∧ Below w1.heap.size w1 w') := by
    subst hr; exact fun w1 Axs1 cxs1 Aps1 cps1 hkxs1 hxs1 hps1 => pres_any Axs1 cxs1 xs Aps1 cps1 ps w1 hnxs hkxs1 hxs1 hsxs hnps hps1
  clear hr
  have Hsmxs := Lib.hid hsxs; clear hsxs
  clear zsxs
  go_enter Try.func5, Try.ntmps5
  go_wp2_with fail
  refine (szMemberS_any Axs cxs xs (1048576) _ (by omega) (by omega) hnxs (hxxs.below hb) Hsmxs.out).mono ?_
  rintro e w1 ⟨rfl, hb2⟩
  replace hb := btr hb hb2; clear hb2
  go_wp2_with fail
  refine (toMemberS_any Axs cxs xs _ hkxs (hxxs.below hb)).mono ?_
  rintro e w2 ⟨Axss, cxss, rfl, hoxss, hb2⟩
  replace hoxss := own_base hoxss hb.size
  replace hb := btr hb hb2
  clear hb2
  go_wp2_with fail
  refine (toIntS_any Aps cps ps _ hkps (hxps.below hb)).mono ?_
  rintro e w3 ⟨Apss, cpss, rfl, hopss, hb2⟩
  have hap_xss_pss := apart_new hoxss hopss; have hap_pss_xss := apart_symm hap_xss_pss
  replace hopss := own_base hopss hb.size
  replace hb := btr hb hb2
  replace hoxss := own_below hoxss hb2
  clear hb2
  go_wp2_with fail
  refine (Hs.out _ _ _ _ _ (own_cap hoxss) (own_rd hoxss) (own_rd hopss)).mono ?_
  rintro e w4 ⟨rfl, hb2⟩
  replace hb := btr hb hb2
  replace hoxss := own_below hoxss hb2
  replace hopss := own_below hopss hb2
  clear hb2
  clear hoxss
  clear hap_pss_xss hap_xss_pss
  clear hopss
  go_wp2_with fail
  refine (toMemberS_any Axs cxs xs _ hkxs (hxxs.below hb)).mono ?_
  rintro e w5 ⟨Axsx, cxsx, rfl, hoxsx, hb2⟩
  replace hoxsx := own_base hoxsx hb.size
  replace hb := btr hb hb2
  clear hb2
  go_wp2_with fail
  refine (toIntS_any Aps cps ps _ hkps (hxps.below hb)).mono ?_
  rintro e w6 ⟨Apsx, cpsx, rfl, hopsx, hb2⟩
  have hap_xsx_psx := apart_new hoxsx hopsx; have hap_psx_xsx := apart_symm hap_xsx_psx
  replace hopsx := own_base hopsx hb.size
  replace hb := btr hb hb2
  replace hoxsx := own_below hoxsx hb2
  clear hb2
  go_wp2_with fail
  refine (Hi.out _ _ _ _ _ (own_cap hoxsx) (own_rd hoxsx) (own_rd hopsx)).mono ?_
  rintro e w7 ⟨rfl, hb2⟩
  replace hb := btr hb hb2
  replace hoxsx := own_below hoxsx hb2
  replace hopsx := own_below hopsx hb2
  clear hb2
  go_wp2_with fail
  refine (toMemberS_any Axs cxs xs _ hkxs (hxxs.below hb)).mono ?_
  rintro e w8 ⟨Axst, cxst, rfl, hoxst, hb2⟩
  have hap_xsx_xst := apart_new hoxsx hoxst; have hap_xst_xsx := apart_symm hap_xsx_xst
  have hap_psx_xst := apart_new hopsx hoxst; have hap_xst_psx := apart_symm hap_psx_xst
  replace hoxst := own_base hoxst hb.size
  replace hb := btr hb hb2
  replace hoxsx := own_below hoxsx hb2
  replace hopsx := own_below hopsx hb2
  clear hb2
  go_wp2_with fail
  refine (eqMemberS_same Axsx Axst cxsx cxst xs _ hnxs (own_rd hoxsx) (own_rd hoxst)).mono ?_
  rintro e w9 ⟨rfl, hb2⟩
  replace hb := btr hb hb2
  replace hoxsx := own_below hoxsx hb2
  replace hopsx := own_below hopsx hb2
  replace hoxst := own_below hoxst hb2
  clear hb2
  clear hoxst
  clear hap_xsx_xst hap_xst_xsx
  clear hap_psx_xst hap_xst_psx
  go_wp2_with fail
  refine (toIntS_any Aps cps ps _ hkps (hxps.below hb)).mono ?_
  rintro e w10 ⟨Apst, cpst, rfl, hopst, hb2⟩
  have hap_xsx_pst := apart_new hoxsx hopst; have hap_pst_xsx := apart_symm hap_xsx_pst
  have hap_psx_pst := apart_new hopsx hopst; have hap_pst_psx := apart_symm hap_psx_pst
  replace hopst := own_base hopst hb.size
  replace hb := btr hb hb2
  replace hoxsx := own_below hoxsx hb2
  replace hopsx := own_below hopsx hb2
  clear hb2
  go_wp2_with fail
  refine (eqIntS_same Apsx Apst cpsx cpst ps _ hnps (own_rd hopsx) (own_rd hopst)).mono ?_
  rintro e w11 ⟨rfl, hb2⟩
  replace hb := btr hb hb2
  replace hoxsx := own_below hoxsx hb2
  replace hopsx := own_below hopsx hb2
  replace hopst := own_below hopst hb2
  clear hb2
  clear hopst
  clear hap_xsx_pst hap_pst_xsx
  clear hap_psx_pst hap_pst_psx
  go_wp2_with fail
  go_ret
  exact ⟨rfl, hb⟩

set_option maxRecDepth 100000 in
theorem law_PresidingMember_lifted (os : Os) (started : os.Started) (H : Type) (enc : TypeId × Value → H) :
    ReturnsInHanded {} Try.checked os 5 .any (Rows.fnExactPresidingMemberSpec.pre6 enc Try.prog Try.f5 Rows.fnExactPresidingMemberRow.domain false) (Rows.fnExactPresidingMemberSpec.post enc Try.prog Try.f5 false true false false) := by
  refine returnsInHanded_of_change (C := Try.checked) own started (by kernel_rfl) Try.func5
    (ChangeSpec.witness6 (enc := enc) (C := Try.checked) false ⟨#[], #[.slice none 0 0, .slice none 0 0], []⟩ 8 (by kernel_rfl) (by kernel_rfl) (by kernel_rfl) (by kernel_rfl)) ?_
  intro W base args ds gs before hval0 hW _ _
  have hval : ∀ (j : Nat) t v, Try.f5.params[j]? = some t → args[j]? = some v → Value.okWide Try.prog W .any base t v := hval0
  have hW' := hW
  obtain ⟨p, q, hA, -⟩ := hW
  replace hA : DataW.TrodAll enc Try.prog W 0 (fun _ => true) true Try.f5.params.toList args.toList ds p := hA
  rw [Try.params5] at hA hval
  obtain ⟨v0, v1, d0, d1, p0, p1, rfl, rfl, rfl, h0, h1⟩ := trodAll_two hA
  obtain ⟨Axs, lenxs, capxs, rfl⟩ := okWide_slice Try.underlying22 (hval 0 22 v0 rfl rfl)
  obtain ⟨xs, rfl, hlcxs, hcmxs, hxxs, hokxs⟩ := open_Mem h0
  obtain ⟨Aps, lenps, capps, rfl⟩ := okWide_slice Try.underlying33 (hval 1 33 v1 rfl rfl)
  obtain ⟨ps, rfl, hlcps, hcmps, hxps, hokps⟩ := open_Ints h1
  exact My.law_step laidOut Try.underlying4 (by kernel_rfl) (by kernel_rfl) rfl (fun H ds hd => by match ds, hd with | [_, _], _ => rfl) hW' (law_PresidingMember Axs capxs xs Aps capps ps W (Nat.le_trans hlcxs hcmxs) hxxs (fun s hs => hokxs s hs) (Nat.le_trans hlcps hcmps) hxps)
theorem law_PresidingMember_holds : Rows.FnExactPresidingMemberSaid :=
  OpenClaim.holds_of_wide 5 Try.f5 rfl rfl rfl rfl rfl rfl rfl ⟨rfl, rfl, rfl, rfl, rfl⟩ rfl rfl rfl rfl rfl (by kernel_rfl) Try.func5 (by kernel_rfl)
    (of_decide_eq_true (by kernel_rfl)) (by unfold Func.isWrapper; first | (rw [if_pos (by decide +kernel)]; kernel_rfl) | (rw [if_neg (by decide +kernel)]; exact ⟨rfl, rfl⟩))
    (fun os started H enc _ => law_PresidingMember_lifted os started H enc)

end Go.Proofs.Ytidmdppcamgaoaa
