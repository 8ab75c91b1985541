/-
  FnExactRuleByName returns true for every input and leaves its arguments as they were. Conditions: none.
-/
import Derived.Test.YtfcpdiplmbagjaaRul2
import Derived.Test.YtfcpdiplmbagjaaRulLaws
namespace Go.Proofs.Ytfcpdiplmbagjaa
open Go.RowKit Go.My Go.ChangeShapes Go.WideShapes Go.ChangeAt
open Go.ChangeMaps (open_string shut_string)

set_option maxHeartbeats 2000000 in
set_option maxRecDepth 100000 in
theorem law_RuleByName (Axs : Option Addr) (cxs : Nat) (xs : List Rul) (t : ByteArray) (w : World) (hnxs : xs.length ≤ maxLen) (hxxs : Rd w Axs (rulCells xs)) (hsxs : ∀ s ∈ xs, s.name.size ≤ maxLen) (hzt : t.size ≤ maxLen) :
    Calls Try.prog 5 #[.slice Axs xs.length cxs, .string t] w fun e w' => e = .returned (.bool true) ∧ Below w.heap.size w w' := by
  have hmt : t.size ≤ 9223372036854775807 := by have := hzt; unfold maxLen at this; omega
  by_cases hqt : t.size ≤ 1048576
  rotate_left
  · have hqtI : (1048576 : Int) < ((t.size : Nat) : Int) := by omega
    clear hxxs
    go_enter Try.func5, Try.ntmps5
    go_wp2_with fail
    all_goals
      go_ret
      exact ⟨rfl, Below.refl _ _⟩
  have hb := Below.refl w.heap.size w
  by_cases hy0 : 0 ≤ rulSz (1048576) xs
  rotate_left
  · go_enter Try.func5, Try.ntmps5
    go_wp2_with fail
    refine (szRuleS_any Axs cxs xs (1048576) _ (by omega) (by omega) hnxs (hxxs.below hb) hsxs).mono ?_
    rintro e w1 ⟨rfl, hb2⟩
    replace hb := btr hb hb2; clear hb2
    go_wp2_with fail
    go_ret
    exact ⟨rfl, hb⟩
  obtain ⟨hl0, znxs, zsxs⟩ := rulSz_ok hy0
  have hkxs : xs.length ≤ 1048576 := by omega
  obtain ⟨r, hr⟩ : ∃ r, r = (byNameR xs t) := ⟨_, rfl⟩
  have Hs : Hid (∀ (w1 : World) (Axs1 : Option Addr) (cxs1 : Nat), xs.length ≤ cxs1 → Rd w1 Axs1 (rulCells xs) → Calls Try.prog 18 #[.slice Axs1 xs.length cxs1, .string t] w1 fun e w' => e = .returned (.tuple #[.agg #[.int .i64 r.1.id, .string r.1.name, .int .i64 r.1.rank, .bool r.1.sec, .bool r.1.deb, .bool r.1.am, .int .i64 r.1.need], .bool r.2]) ∧ Below w1.heap.size w1 w') := by
    subst hr; exact fun w1 Axs1 cxs1 hkxs1 hxs1 => specByName_any Axs1 cxs1 xs t w1 hnxs hkxs1 hxs1 hsxs hzt
  have Hi : Hid (∀ (w1 : World) (Axs1 : Option Addr) (cxs1 : Nat), xs.length ≤ cxs1 → Rd w1 Axs1 (rulCells xs) → Calls Try.prog 19 #[.slice Axs1 xs.length cxs1, .string t] w1 fun e w' => e = .returned (.tuple #[.agg #[.int .i64 r.1.id, .string r.1.name, .int .i64 r.1.rank, .bool r.1.sec, .bool r.1.deb, .bool r.1.am, .int .i64 r.1.need], .bool r.2]) ∧ Below w1.heap.size w1 w') := by
    subst hr; exact fun w1 Axs1 cxs1 hkxs1 hxs1 => byName_any Axs1 cxs1 xs t w1 hnxs hkxs1 hxs1 hsxs hzt
  clear hr
  have Hsmxs := Lib.hid hsxs; clear hsxs
  clear zsxs
  go_enter Try.func5, Try.ntmps5
  go_wp2_with fail
  refine (szRuleS_any Axs cxs xs (1048576) _ (by omega) (by omega) hnxs (hxxs.below hb) Hsmxs.out).mono ?_
  rintro e w1 ⟨rfl, hb2⟩
  replace hb := btr hb hb2; clear hb2
  go_wp2_with fail
  refine (toRuleS_any Axs cxs xs _ hkxs (hxxs.below hb)).mono ?_
  rintro e w2 ⟨Axss, cxss, rfl, hoxss, hb2⟩
  replace hoxss := own_base hoxss hb.size
  replace hb := btr hb hb2
  clear hb2
  go_wp2_with fail
  refine (Hs.out _ _ _ (own_cap hoxss) (own_rd hoxss)).mono ?_
  rintro e w3 ⟨rfl, hb2⟩
  replace hb := btr hb hb2
  replace hoxss := own_below hoxss hb2
  clear hb2
  have hb2 := bnew (Below.refl w3.heap.size w3) (.cells #[.int .i64 r.1.id, .string r.1.name, .int .i64 r.1.rank, .bool r.1.sec, .bool r.1.deb, .bool r.1.am, .int .i64 r.1.need] 26)
  replace hb := btr hb hb2
  replace hoxss := own_below hoxss hb2
  clear hb2
  have kbW00 : (w3.alloc (.cells #[.int .i64 r.1.id, .string r.1.name, .int .i64 r.1.rank, .bool r.1.sec, .bool r.1.deb, .bool r.1.am, .int .i64 r.1.need] 26)).cell? ⟨w3.heap.size, 0, none⟩ = some (.int .i64 r.1.id) := (World.cell?_alloc_at _ _ _ _ rfl).trans rfl
  have kbW01 : (w3.alloc (.cells #[.int .i64 r.1.id, .string r.1.name, .int .i64 r.1.rank, .bool r.1.sec, .bool r.1.deb, .bool r.1.am, .int .i64 r.1.need] 26)).cell? ⟨w3.heap.size, 1, none⟩ = some (.string r.1.name) := (World.cell?_alloc_at _ _ _ _ rfl).trans rfl
  have kbW02 : (w3.alloc (.cells #[.int .i64 r.1.id, .string r.1.name, .int .i64 r.1.rank, .bool r.1.sec, .bool r.1.deb, .bool r.1.am, .int .i64 r.1.need] 26)).cell? ⟨w3.heap.size, 2, none⟩ = some (.int .i64 r.1.rank) := (World.cell?_alloc_at _ _ _ _ rfl).trans rfl
  have kbW03 : (w3.alloc (.cells #[.int .i64 r.1.id, .string r.1.name, .int .i64 r.1.rank, .bool r.1.sec, .bool r.1.deb, .bool r.1.am, .int .i64 r.1.need] 26)).cell? ⟨w3.heap.size, 3, none⟩ = some (.bool r.1.sec) := (World.cell?_alloc_at _ _ _ _ rfl).trans rfl
  have kbW04 : (w3.alloc (.cells #[.int .i64 r.1.id, .string r.1.name, .int .i64 r.1.rank, .bool r.1.sec, .bool r.1.deb, .bool r.1.am, .int .i64 r.1.need] 26)).cell? ⟨w3.heap.size, 4, none⟩ = some (.bool r.1.deb) := (World.cell?_alloc_at _ _ _ _ rfl).trans rfl
  have kbW05 : (w3.alloc (.cells #[.int .i64 r.1.id, .string r.1.name, .int .i64 r.1.rank, .bool r.1.sec, .bool r.1.deb, .bool r.1.am, .int .i64 r.1.need] 26)).cell? ⟨w3.heap.size, 5, none⟩ = some (.bool r.1.am) := (World.cell?_alloc_at _ _ _ _ rfl).trans rfl
  have kbW06 : (w3.alloc (.cells #[.int .i64 r.1.id, .string r.1.name, .int .i64 r.1.rank, .bool r.1.sec, .bool r.1.deb, .bool r.1.am, .int .i64 r.1.need] 26)).cell? ⟨w3.heap.size, 6, none⟩ = some (.int .i64 r.1.need) := (World.cell?_alloc_at _ _ _ _ rfl).trans rfl
  go_wp2_with fail
  generalize w3.alloc (.cells #[.int .i64 r.1.id, .string r.1.name, .int .i64 r.1.rank, .bool r.1.sec, .bool r.1.deb, .bool r.1.am, .int .i64 r.1.need] 26) = w4 at *
  clear hoxss
  go_wp2_with fail
  refine (toRuleS_any Axs cxs xs _ hkxs (hxxs.below hb)).mono ?_
  rintro e w5 ⟨Axsx, cxsx, rfl, hoxsx, hb2⟩
  replace hoxsx := own_base hoxsx hb.size
  replace hb := btr hb hb2
  replace kbW00 := cell_below kbW00 hb2
  replace kbW01 := cell_below kbW01 hb2
  replace kbW02 := cell_below kbW02 hb2
  replace kbW03 := cell_below kbW03 hb2
  replace kbW04 := cell_below kbW04 hb2
  replace kbW05 := cell_below kbW05 hb2
  replace kbW06 := cell_below kbW06 hb2
  clear hb2
  go_wp2_with fail
  refine (Hi.out _ _ _ (own_cap hoxsx) (own_rd hoxsx)).mono ?_
  rintro e w6 ⟨rfl, hb2⟩
  replace hb := btr hb hb2
  replace kbW00 := cell_below kbW00 hb2
  replace kbW01 := cell_below kbW01 hb2
  replace kbW02 := cell_below kbW02 hb2
  replace kbW03 := cell_below kbW03 hb2
  replace kbW04 := cell_below kbW04 hb2
  replace kbW05 := cell_below kbW05 hb2
  replace kbW06 := cell_below kbW06 hb2
  replace hoxsx := own_below hoxsx hb2
  clear hb2
  have hb2 := bnew (Below.refl w6.heap.size w6) (.cells #[.int .i64 r.1.id, .string r.1.name, .int .i64 r.1.rank, .bool r.1.sec, .bool r.1.deb, .bool r.1.am, .int .i64 r.1.need] 26)
  replace hb := btr hb hb2
  replace kbW00 := cell_below kbW00 hb2
  replace kbW01 := cell_below kbW01 hb2
  replace kbW02 := cell_below kbW02 hb2
  replace kbW03 := cell_below kbW03 hb2
  replace kbW04 := cell_below kbW04 hb2
  replace kbW05 := cell_below kbW05 hb2
  replace kbW06 := cell_below kbW06 hb2
  replace hoxsx := own_below hoxsx hb2
  clear hb2
  have kbG00 : (w6.alloc (.cells #[.int .i64 r.1.id, .string r.1.name, .int .i64 r.1.rank, .bool r.1.sec, .bool r.1.deb, .bool r.1.am, .int .i64 r.1.need] 26)).cell? ⟨w6.heap.size, 0, none⟩ = some (.int .i64 r.1.id) := (World.cell?_alloc_at _ _ _ _ rfl).trans rfl
  have kbG01 : (w6.alloc (.cells #[.int .i64 r.1.id, .string r.1.name, .int .i64 r.1.rank, .bool r.1.sec, .bool r.1.deb, .bool r.1.am, .int .i64 r.1.need] 26)).cell? ⟨w6.heap.size, 1, none⟩ = some (.string r.1.name) := (World.cell?_alloc_at _ _ _ _ rfl).trans rfl
  have kbG02 : (w6.alloc (.cells #[.int .i64 r.1.id, .string r.1.name, .int .i64 r.1.rank, .bool r.1.sec, .bool r.1.deb, .bool r.1.am, .int .i64 r.1.need] 26)).cell? ⟨w6.heap.size, 2, none⟩ = some (.int .i64 r.1.rank) := (World.cell?_alloc_at _ _ _ _ rfl).trans rfl
  have kbG03 : (w6.alloc (.cells #[.int .i64 r.1.id, .string r.1.name, .int .i64 r.1.rank, .bool r.1.sec, .bool r.1.deb, .bool r.1.am, .int .i64 r.1.need] 26)).cell? ⟨w6.heap.size, 3, none⟩ = some (.bool r.1.sec) := (World.cell?_alloc_at _ _ _ _ rfl).trans rfl
  have kbG04 : (w6.alloc (.cells #[.int .i64 r.1.id, .string r.1.name, .int .i64 r.1.rank, .bool r.1.sec, .bool r.1.deb, .bool r.1.am, .int .i64 r.1.need] 26)).cell? ⟨w6.heap.size, 4, none⟩ = some (.bool r.1.deb) := (World.cell?_alloc_at _ _ _ _ rfl).trans rfl
  have kbG05 : (w6.alloc (.cells #[.int .i64 r.1.id, .string r.1.name, .int .i64 r.1.rank, .bool r.1.sec, .bool r.1.deb, .bool r.1.am, .int .i64 r.1.need] 26)).cell? ⟨w6.heap.size, 5, none⟩ = some (.bool r.1.am) := (World.cell?_alloc_at _ _ _ _ rfl).trans rfl
  have kbG06 : (w6.alloc (.cells #[.int .i64 r.1.id, .string r.1.name, .int .i64 r.1.rank, .bool r.1.sec, .bool r.1.deb, .bool r.1.am, .int .i64 r.1.need] 26)).cell? ⟨w6.heap.size, 6, none⟩ = some (.int .i64 r.1.need) := (World.cell?_alloc_at _ _ _ _ rfl).trans rfl
  go_wp2_with fail
  generalize w6.alloc (.cells #[.int .i64 r.1.id, .string r.1.name, .int .i64 r.1.rank, .bool r.1.sec, .bool r.1.deb, .bool r.1.am, .int .i64 r.1.need] 26) = w7 at *
  go_wp2_with fail
  refine (eqRule_same r.1 _).mono ?_
  rintro e w8 ⟨rfl, hb2⟩
  replace hb := btr hb hb2
  replace kbW00 := cell_below kbW00 hb2
  replace kbW01 := cell_below kbW01 hb2
  replace kbW02 := cell_below kbW02 hb2
  replace kbW03 := cell_below kbW03 hb2
  replace kbW04 := cell_below kbW04 hb2
  replace kbW05 := cell_below kbW05 hb2
  replace kbW06 := cell_below kbW06 hb2
  replace kbG00 := cell_below kbG00 hb2
  replace kbG01 := cell_below kbG01 hb2
  replace kbG02 := cell_below kbG02 hb2
  replace kbG03 := cell_below kbG03 hb2
  replace kbG04 := cell_below kbG04 hb2
  replace kbG05 := cell_below kbG05 hb2
  replace kbG06 := cell_below kbG06 hb2
  replace hoxsx := own_below hoxsx hb2
  clear hb2
  go_wp2_with fail
  refine (toRuleS_any Axs cxs xs _ hkxs (hxxs.below hb)).mono ?_
  rintro e w9 ⟨Axst, cxst, rfl, hoxst, hb2⟩
  have hap_xsx_xst := apart_new hoxsx hoxst; have hap_xst_xsx := apart_symm hap_xsx_xst
  replace hoxst := own_base hoxst hb.size
  replace hb := btr hb hb2
  replace kbW00 := cell_below kbW00 hb2
  replace kbW01 := cell_below kbW01 hb2
  replace kbW02 := cell_below kbW02 hb2
  replace kbW03 := cell_below kbW03 hb2
  replace kbW04 := cell_below kbW04 hb2
  replace kbW05 := cell_below kbW05 hb2
  replace kbW06 := cell_below kbW06 hb2
  replace kbG00 := cell_below kbG00 hb2
  replace kbG01 := cell_below kbG01 hb2
  replace kbG02 := cell_below kbG02 hb2
  replace kbG03 := cell_below kbG03 hb2
  replace kbG04 := cell_below kbG04 hb2
  replace kbG05 := cell_below kbG05 hb2
  replace kbG06 := cell_below kbG06 hb2
  replace hoxsx := own_below hoxsx hb2
  clear hb2
  go_wp2_with fail
  refine (eqRuleS_same Axsx Axst cxsx cxst xs _ hnxs (own_rd hoxsx) (own_rd hoxst)).mono ?_
  rintro e w10 ⟨rfl, hb2⟩
  replace hb := btr hb hb2
  replace kbW00 := cell_below kbW00 hb2
  replace kbW01 := cell_below kbW01 hb2
  replace kbW02 := cell_below kbW02 hb2
  replace kbW03 := cell_below kbW03 hb2
  replace kbW04 := cell_below kbW04 hb2
  replace kbW05 := cell_below kbW05 hb2
  replace kbW06 := cell_below kbW06 hb2
  replace kbG00 := cell_below kbG00 hb2
  replace kbG01 := cell_below kbG01 hb2
  replace kbG02 := cell_below kbG02 hb2
  replace kbG03 := cell_below kbG03 hb2
  replace kbG04 := cell_below kbG04 hb2
  replace kbG05 := cell_below kbG05 hb2
  replace kbG06 := cell_below kbG06 hb2
  replace hoxsx := own_below hoxsx hb2
  replace hoxst := own_below hoxst hb2
  clear hb2
  clear hoxst
  clear hap_xsx_xst hap_xst_xsx
  go_wp2_with fail
  go_ret
  exact ⟨rfl, hb⟩

set_option maxRecDepth 100000 in
theorem law_RuleByName_lifted (os : Os) (started : os.Started) (H : Type) (enc : TypeId × Value → H) :
    ReturnsInHanded {} Try.checked os 5 .any (Rows.fnExactRuleByNameSpec.pre6 enc Try.prog Try.f5 Rows.fnExactRuleByNameRow.domain false) (Rows.fnExactRuleByNameSpec.post enc Try.prog Try.f5 false true false false) := by
  refine returnsInHanded_of_change (C := Try.checked) own started (by kernel_rfl) Try.func5
    (ChangeSpec.witness6 (enc := enc) (C := Try.checked) false ⟨#[], #[.slice none 0 0, .string ⟨#[]⟩], []⟩ 8 (by kernel_rfl) (by kernel_rfl) (by kernel_rfl) (by kernel_rfl)) ?_
  intro W base args ds gs before hval0 hW _ _
  have hval : ∀ (j : Nat) t v, Try.f5.params[j]? = some t → args[j]? = some v → Value.okWide Try.prog W .any base t v := hval0
  have hW' := hW
  obtain ⟨p, q, hA, -⟩ := hW
  replace hA : DataW.TrodAll enc Try.prog W 0 (fun _ => true) true Try.f5.params.toList args.toList ds p := hA
  rw [Try.params5] at hA hval
  obtain ⟨v0, v1, d0, d1, p0, p1, rfl, rfl, rfl, h0, h1⟩ := trodAll_two hA
  obtain ⟨Axs, lenxs, capxs, rfl⟩ := okWide_slice Try.underlying29 (hval 0 29 v0 rfl rfl)
  obtain ⟨xs, rfl, hlcxs, hcmxs, hxxs, hokxs⟩ := open_Rul h0
  obtain ⟨t, rfl, rfl, rfl, hzt⟩ := open_string Try.underlying9 (hval 1 9 v1 rfl rfl) h1
  exact My.law_step laidOut Try.underlying4 (by kernel_rfl) (by kernel_rfl) rfl (fun H ds hd => by match ds, hd with | [_, _], _ => rfl) hW' (law_RuleByName Axs capxs xs t W (Nat.le_trans hlcxs hcmxs) hxxs (fun s hs => hokxs s hs) hzt)
theorem law_RuleByName_holds : Rows.FnExactRuleByNameSaid :=
  OpenClaim.holds_of_wide 5 Try.f5 rfl rfl rfl rfl rfl rfl rfl ⟨rfl, rfl, rfl, rfl, rfl⟩ rfl rfl rfl rfl rfl (by kernel_rfl) Try.func5 (by kernel_rfl)
    (of_decide_eq_true (by kernel_rfl)) (by unfold Func.isWrapper; first | (rw [if_pos (by decide +kernel)]; kernel_rfl) | (rw [if_neg (by decide +kernel)]; exact ⟨rfl, rfl⟩))
    (fun os started H enc _ => law_RuleByName_lifted os started H enc)

end Go.Proofs.Ytfcpdiplmbagjaa
