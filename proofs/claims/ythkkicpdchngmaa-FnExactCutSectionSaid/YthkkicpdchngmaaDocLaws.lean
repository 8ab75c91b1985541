/-
  FnExactIsDocument, FnExactPartOf and FnExactBelongsTo return true for every input and leave their arguments as they were. Conditions: none.
-/
import Derived.Test.YthkkicpdchngmaaDoc2
import Derived.Test.YthkkicpdchngmaaLaw
namespace Go.Proofs.Ythkkicpdchngmaa
open Go.RowKit Go.My Go.ChangeShapes Go.WideShapes Go.ChangeAt
open Go.ChangeMaps (open_string shut_string)

theorem own : ownKnob Try.prog.godebug = none := by kernel_rfl
theorem laidOut : laidOutB Try.prog = true := by kernel_rfl

theorem open_Sec {H : Type} {enc : TypeId × Value → H} {w : World} {A : Option Addr} {len cap : Nat} {d : DataW H} {ps : List MemPlace} (h : DataW.Trod enc Try.prog w 0 (fun _ => true) true 22 (.slice A len cap) d ps) :
    ∃ xs : List Sec, xs.length = len ∧ len ≤ cap ∧ cap ≤ maxLen ∧ Rd w A (secCells xs) ∧ ∀ s ∈ xs, s.t.size ≤ maxLen ∧ (Lit.int .i64 s.d).wf = true :=
  open_list Sec.cells (fun s => s.t.size ≤ maxLen ∧ (Lit.int .i64 s.d).wf = true) 2 (fun _ => rfl) (by decide) Try.underlying22 (by kernel_rfl) (fun n cs x hx => by
    obtain ⟨hl, hf⟩ := trod_fields Try.underlying38 hx
    have c3 : Try.prog.cellsOf 3 = 1 := by kernel_rfl
    have c9 : Try.prog.cellsOf 9 = 1 := by kernel_rfl
    rw [show Try.prog.cellsOf 38 = 2 by kernel_rfl] at hl
    match cs, hl with
    | [a, b], _ =>
      simp only [List.mem_cons, List.not_mem_nil, or_false, forall_eq_or_imp, forall_eq, c3, c9] at hf
      obtain ⟨⟨_, _, h1⟩, ⟨_, _, h2⟩⟩ := hf
      obtain ⟨n1, e1, _, w1⟩ := DataW.trod_int Try.underlying3 h1
      obtain ⟨n2, e2, _, w2⟩ := DataW.trod_string Try.underlying9 h2
      simp at e1 e2
      subst e1 e2
      exact ⟨⟨n1, n2⟩, rfl, w2, w1⟩) h

set_option maxHeartbeats 2000000 in
set_option maxRecDepth 100000 in
theorem law_IsDocument (Axs : Option Addr) (cxs : Nat) (xs : List Sec) (w : World) (hnxs : xs.length ≤ maxLen) (hxxs : Rd w Axs (secCells xs)) (hsxs : ∀ s ∈ xs, s.t.size ≤ maxLen) :
    Calls Try.prog 3 #[.slice Axs xs.length cxs] w fun e w' => e = .returned (.bool true) ∧ Below w.heap.size w w' := by
  have hb := Below.refl w.heap.size w
  by_cases hy0 : 0 ≤ szSecs (1048576) xs
  rotate_left
  · go_enter Try.func3, Try.ntmps3
    go_wp2_with fail
    refine (szSectionS_any Axs cxs xs (1048576) _ (by omega) (by omega) hnxs (hxxs.below hb) hsxs).mono ?_
    rintro e w1 ⟨rfl, hb2⟩
    replace hb := btr hb hb2; clear hb2
    go_wp2_with fail
    go_ret
    exact ⟨rfl, hb⟩
  obtain ⟨hl0, znxs, zsxs⟩ := szSecs_ok hy0
  have hkxs : xs.length ≤ 1048576 := by omega
  obtain ⟨r, hr⟩ : ∃ r, r = (goodDoc xs) := ⟨_, rfl⟩
  have Hs : Hid (∀ (w1 : World) (Axs1 : Option Addr) (cxs1 : Nat), Rd w1 Axs1 (secCells xs) → Calls Try.prog 10 #[.slice Axs1 xs.length cxs1] w1 fun e w' => e = .returned (.bool r) ∧ Below w1.heap.size w1 w') := by
    subst hr; exact fun w1 Axs1 cxs1 hxs1 => isDoc_spec Axs1 cxs1 xs w1 hnxs hxs1 hsxs
  have Hi : Hid (∀ (w1 : World) (Axs1 : Option Addr) (cxs1 : Nat), Rd w1 Axs1 (secCells xs) → Calls Try.prog 12 #[.slice Axs1 xs.length cxs1] w1 fun e w' => e = .returned (.bool r) ∧ Below w1.heap.size w1 w') := by
    subst hr; exact fun w1 Axs1 cxs1 hxs1 => isDoc_any Axs1 cxs1 xs w1 hnxs hxs1 hsxs
  clear hr
  have Hsmxs := Lib.hid hsxs; clear hsxs
  clear zsxs
  go_enter Try.func3, Try.ntmps3
  go_wp2_with fail
  refine (szSectionS_any Axs cxs xs (1048576) _ (by omega) (by omega) hnxs (hxxs.below hb) Hsmxs.out).mono ?_
  rintro e w1 ⟨rfl, hb2⟩
  replace hb := btr hb hb2; clear hb2
  go_wp2_with fail
  refine (toSectionS_any Axs cxs xs _ hkxs (hxxs.below hb)).mono ?_
  rintro e w2 ⟨Axss, cxss, rfl, hoxss, hb2⟩
  replace hoxss := own_base hoxss hb.size
  replace hb := btr hb hb2
  clear hb2
  go_wp2_with fail
  refine (Hs.out _ _ _ (own_rd hoxss)).mono ?_
  rintro e w3 ⟨rfl, hb2⟩
  replace hb := btr hb hb2
  replace hoxss := own_below hoxss hb2
  clear hb2
  clear hoxss
  go_wp2_with fail
  refine (toSectionS_any Axs cxs xs _ hkxs (hxxs.below hb)).mono ?_
  rintro e w4 ⟨Axsx, cxsx, rfl, hoxsx, hb2⟩
  replace hoxsx := own_base hoxsx hb.size
  replace hb := btr hb hb2
  clear hb2
  go_wp2_with fail
  refine (Hi.out _ _ _ (own_rd hoxsx)).mono ?_
  rintro e w5 ⟨rfl, hb2⟩
  replace hb := btr hb hb2
  replace hoxsx := own_below hoxsx hb2
  clear hb2
  go_wp2_with fail
  refine (toSectionS_any Axs cxs xs _ hkxs (hxxs.below hb)).mono ?_
  rintro e w6 ⟨Axst, cxst, rfl, hoxst, hb2⟩
  have hap_xsx_xst := apart_new hoxsx hoxst; have hap_xst_xsx := apart_symm hap_xsx_xst
  replace hoxst := own_base hoxst hb.size
  replace hb := btr hb hb2
  replace hoxsx := own_below hoxsx hb2
  clear hb2
  go_wp2_with fail
  refine (eqSectionS_same Axsx Axst cxsx cxst xs _ hnxs (own_rd hoxsx) (own_rd hoxst)).mono ?_
  rintro e w7 ⟨rfl, hb2⟩
  replace hb := btr hb hb2
  replace hoxsx := own_below hoxsx hb2
  replace hoxst := own_below hoxst hb2
  clear hb2
  clear hoxst
  clear hap_xsx_xst hap_xst_xsx
  go_wp2_with fail
  go_ret
  exact ⟨rfl, hb⟩

set_option maxRecDepth 100000 in
theorem law_IsDocument_lifted (os : Os) (started : os.Started) (H : Type) (enc : TypeId × Value → H) :
    ReturnsInHanded {} Try.checked os 3 .any (Rows.fnExactIsDocumentSpec.pre6 enc Try.prog Try.f3 Rows.fnExactIsDocumentRow.domain false) (Rows.fnExactIsDocumentSpec.post enc Try.prog Try.f3 false true false false) := by
  refine returnsInHanded_of_change (C := Try.checked) own started (by kernel_rfl) Try.func3
    (ChangeSpec.witness6 (enc := enc) (C := Try.checked) false ⟨#[], #[.slice none 0 0], []⟩ 8 (by kernel_rfl) (by kernel_rfl) (by kernel_rfl) (by kernel_rfl)) ?_
  intro W base args ds gs before hval0 hW _ _
  have hval : ∀ (j : Nat) t v, Try.f3.params[j]? = some t → args[j]? = some v → Value.okWide Try.prog W .any base t v := hval0
  have hW' := hW
  obtain ⟨p, q, hA, -⟩ := hW
  replace hA : DataW.TrodAll enc Try.prog W 0 (fun _ => true) true Try.f3.params.toList args.toList ds p := hA
  rw [Try.params3] at hA hval
  obtain ⟨v0, d0, rfl, rfl, h0⟩ := trodAll_one hA
  obtain ⟨Axs, lenxs, capxs, rfl⟩ := okWide_slice Try.underlying22 (hval 0 22 v0 rfl rfl)
  obtain ⟨xs, rfl, hlcxs, hcmxs, hxxs, hokxs⟩ := open_Sec h0
  exact My.law_step laidOut Try.underlying4 (by kernel_rfl) (by kernel_rfl) rfl (fun H ds hd => by match ds, hd with | [_], _ => rfl) hW' (law_IsDocument Axs capxs xs W (Nat.le_trans hlcxs hcmxs) hxxs (fun s hs => (hokxs s hs).1))
theorem law_IsDocument_holds : Rows.FnExactIsDocumentSaid :=
  OpenClaim.holds_of_wide 3 Try.f3 rfl rfl rfl rfl rfl rfl rfl ⟨rfl, rfl, rfl, rfl, rfl⟩ rfl rfl rfl rfl rfl (by kernel_rfl) Try.func3 (by kernel_rfl)
    (of_decide_eq_true (by kernel_rfl)) (by unfold Func.isWrapper; first | (rw [if_pos (by decide +kernel)]; kernel_rfl) | (rw [if_neg (by decide +kernel)]; exact ⟨rfl, rfl⟩))
    (fun os started H enc _ => law_IsDocument_lifted os started H enc)

set_option maxHeartbeats 2000000 in
set_option maxRecDepth 100000 in
theorem law_PartOf (Axs : Option Addr) (cxs : Nat) (xs : List Sec) (i : Int) (w : World) (hnxs : xs.length ≤ maxLen) (hxxs : Rd w Axs (secCells xs)) (hsxs : ∀ s ∈ xs, s.t.size ≤ maxLen) :
    Calls Try.prog 4 #[.slice Axs xs.length cxs, .int .i64 i] w fun e w' => e = .returned (.bool true) ∧ Below w.heap.size w w' := by
  have hb := Below.refl w.heap.size w
  by_cases hy0 : 0 ≤ szSecs (1048576) xs
  rotate_left
  · go_enter Try.func4, Try.ntmps4
    go_wp2_with fail
    refine (szSectionS_any Axs cxs xs (1048576) _ (by omega) (by omega) hnxs (hxxs.below hb) hsxs).mono ?_
    rintro e w1 ⟨rfl, hb2⟩
    replace hb := btr hb hb2; clear hb2
    go_wp2_with fail
    go_ret
    exact ⟨rfl, hb⟩
  obtain ⟨hl0, znxs, zsxs⟩ := szSecs_ok hy0
  have hkxs : xs.length ≤ 1048576 := by omega
  obtain ⟨r, hr⟩ : ∃ r, r = (partOfR xs i) := ⟨_, rfl⟩
  have Hs : Hid (∀ (w1 : World) (Axs1 : Option Addr) (cxs1 : Nat), Rd w1 Axs1 (secCells xs) → Calls Try.prog 14 #[.slice Axs1 xs.length cxs1, .int .i64 i] w1 fun e w' => e = .returned (.tuple #[.int .i64 r.1, .bool r.2]) ∧ Below w1.heap.size w1 w') := by
    subst hr; exact fun w1 Axs1 cxs1 hxs1 => partOf_spec Axs1 cxs1 xs i w1 hnxs hxs1 hsxs
  have Hi : Hid (∀ (w1 : World) (Axs1 : Option Addr) (cxs1 : Nat), Rd w1 Axs1 (secCells xs) → Calls Try.prog 15 #[.slice Axs1 xs.length cxs1, .int .i64 i] w1 fun e w' => e = .returned (.tuple #[.int .i64 r.1, .bool r.2]) ∧ Below w1.heap.size w1 w') := by
    subst hr; exact fun w1 Axs1 cxs1 hxs1 => partOf_any Axs1 cxs1 xs i w1 hnxs hxs1 hsxs
  clear hr
  have Hsmxs := Lib.hid hsxs; clear hsxs
  clear zsxs
  go_enter Try.func4, Try.ntmps4
  go_wp2_with fail
  refine (szSectionS_any Axs cxs xs (1048576) _ (by omega) (by omega) hnxs (hxxs.below hb) Hsmxs.out).mono ?_
  rintro e w1 ⟨rfl, hb2⟩
  replace hb := btr hb hb2; clear hb2
  go_wp2_with fail
  refine (toSectionS_any Axs cxs xs _ hkxs (hxxs.below hb)).mono ?_
  rintro e w2 ⟨Axss, cxss, rfl, hoxss, hb2⟩
  replace hoxss := own_base hoxss hb.size
  replace hb := btr hb hb2
  clear hb2
  go_wp2_with fail
  refine (Hs.out _ _ _ (own_rd hoxss)).mono ?_
  rintro e w3 ⟨rfl, hb2⟩
  replace hb := btr hb hb2
  replace hoxss := own_below hoxss hb2
  clear hb2
  clear hoxss
  go_wp2_with fail
  refine (toSectionS_any Axs cxs xs _ hkxs (hxxs.below hb)).mono ?_
  rintro e w4 ⟨Axsx, cxsx, rfl, hoxsx, hb2⟩
  replace hoxsx := own_base hoxsx hb.size
  replace hb := btr hb hb2
  clear hb2
  go_wp2_with fail
  refine (Hi.out _ _ _ (own_rd hoxsx)).mono ?_
  rintro e w5 ⟨rfl, hb2⟩
  replace hb := btr hb hb2
  replace hoxsx := own_below hoxsx hb2
  clear hb2
  go_wp2_with fail
  refine (toSectionS_any Axs cxs xs _ hkxs (hxxs.below hb)).mono ?_
  rintro e w6 ⟨Axst, cxst, rfl, hoxst, hb2⟩
  have hap_xsx_xst := apart_new hoxsx hoxst; have hap_xst_xsx := apart_symm hap_xsx_xst
  replace hoxst := own_base hoxst hb.size
  replace hb := btr hb hb2
  replace hoxsx := own_below hoxsx hb2
  clear hb2
  go_wp2_with fail
  refine (eqSectionS_same Axsx Axst cxsx cxst xs _ hnxs (own_rd hoxsx) (own_rd hoxst)).mono ?_
  rintro e w7 ⟨rfl, hb2⟩
  replace hb := btr hb hb2
  replace hoxsx := own_below hoxsx hb2
  replace hoxst := own_below hoxst hb2
  clear hb2
  clear hoxst
  clear hap_xsx_xst hap_xst_xsx
  go_wp2_with fail
  go_ret
  exact ⟨rfl, hb⟩

set_option maxRecDepth 100000 in
theorem law_PartOf_lifted (os : Os) (started : os.Started) (H : Type) (enc : TypeId × Value → H) :
    ReturnsInHanded {} Try.checked os 4 .any (Rows.fnExactPartOfSpec.pre6 enc Try.prog Try.f4 Rows.fnExactPartOfRow.domain false) (Rows.fnExactPartOfSpec.post enc Try.prog Try.f4 false true false false) := by
  refine returnsInHanded_of_change (C := Try.checked) own started (by kernel_rfl) Try.func4
    (ChangeSpec.witness6 (enc := enc) (C := Try.checked) false ⟨#[], #[.slice none 0 0, .int .i64 0], []⟩ 8 (by kernel_rfl) (by kernel_rfl) (by kernel_rfl) (by kernel_rfl)) ?_
  intro W base args ds gs before hval0 hW _ _
  have hval : ∀ (j : Nat) t v, Try.f4.params[j]? = some t → args[j]? = some v → Value.okWide Try.prog W .any base t v := hval0
  have hW' := hW
  obtain ⟨p, q, hA, -⟩ := hW
  replace hA : DataW.TrodAll enc Try.prog W 0 (fun _ => true) true Try.f4.params.toList args.toList ds p := hA
  rw [Try.params4] at hA hval
  obtain ⟨v0, v1, d0, d1, p0, p1, rfl, rfl, rfl, h0, h1⟩ := trodAll_two hA
  obtain ⟨Axs, lenxs, capxs, rfl⟩ := okWide_slice Try.underlying22 (hval 0 22 v0 rfl rfl)
  obtain ⟨xs, rfl, hlcxs, hcmxs, hxxs, hokxs⟩ := open_Sec h0
  obtain ⟨i, rfl, rfl, rfl, wfi⟩ := open_int Try.underlying3 (hval 1 3 v1 rfl rfl) h1
  exact My.law_step laidOut Try.underlying4 (by kernel_rfl) (by kernel_rfl) rfl (fun H ds hd => by match ds, hd with | [_, _], _ => rfl) hW' (law_PartOf Axs capxs xs i W (Nat.le_trans hlcxs hcmxs) hxxs (fun s hs => (hokxs s hs).1))
theorem law_PartOf_holds : Rows.FnExactPartOfSaid :=
  OpenClaim.holds_of_wide 4 Try.f4 rfl rfl rfl rfl rfl rfl rfl ⟨rfl, rfl, rfl, rfl, rfl⟩ rfl rfl rfl rfl rfl (by kernel_rfl) Try.func4 (by kernel_rfl)
    (of_decide_eq_true (by kernel_rfl)) (by unfold Func.isWrapper; first | (rw [if_pos (by decide +kernel)]; kernel_rfl) | (rw [if_neg (by decide +kernel)]; exact ⟨rfl, rfl⟩))
    (fun os started H enc _ => law_PartOf_lifted os started H enc)

set_option maxHeartbeats 2000000 in
set_option maxRecDepth 100000 in
theorem law_BelongsTo (Axs : Option Addr) (cxs : Nat) (xs : List Sec) (i : Int) (w : World) (hnxs : xs.length ≤ maxLen) (hxxs : Rd w Axs (secCells xs)) (hsxs : ∀ s ∈ xs, s.t.size ≤ maxLen) :
    Calls Try.prog 5 #[.slice Axs xs.length cxs, .int .i64 i] w fun e w' => e = .returned (.bool true) ∧ Below w.heap.size w w' := by
  have hb := Below.refl w.heap.size w
  by_cases hy0 : 0 ≤ szSecs (1048576) xs
  rotate_left
  · go_enter Try.func5, Try.ntmps5
    go_wp2_with fail
    refine (szSectionS_any Axs cxs xs (1048576) _ (by omega) (by omega) hnxs (hxxs.below hb) hsxs).mono ?_
    rintro e w1 ⟨rfl, hb2⟩
    replace hb := btr hb hb2; clear hb2
    go_wp2_with fail
    go_ret
    exact ⟨rfl, hb⟩
  obtain ⟨hl0, znxs, zsxs⟩ := szSecs_ok hy0
  have hkxs : xs.length ≤ 1048576 := by omega
  obtain ⟨r, hr⟩ : ∃ r, r = (belongsR xs i) := ⟨_, rfl⟩
  have Hs : Hid (∀ (w1 : World) (Axs1 : Option Addr) (cxs1 : Nat), Rd w1 Axs1 (secCells xs) → Calls Try.prog 16 #[.slice Axs1 xs.length cxs1, .int .i64 i] w1 fun e w' => e = .returned (.tuple #[.int .i64 r.1, .bool r.2]) ∧ Below w1.heap.size w1 w') := by
    subst hr; exact fun w1 Axs1 cxs1 hxs1 => belongs_spec Axs1 cxs1 xs i w1 hnxs hxs1 hsxs
  have Hi : Hid (∀ (w1 : World) (Axs1 : Option Addr) (cxs1 : Nat), Rd w1 Axs1 (secCells xs) → Calls Try.prog 17 #[.slice Axs1 xs.length cxs1, .int .i64 i] w1 fun e w' => e = .returned (.tuple #[.int .i64 r.1, .bool r.2]) ∧ Below w1.heap.size w1 w') := by
    subst hr; exact fun w1 Axs1 cxs1 hxs1 => belongs_any Axs1 cxs1 xs i w1 hnxs hxs1 hsxs
  clear hr
  have Hsmxs := Lib.hid hsxs; clear hsxs
  clear zsxs
  go_enter Try.func5, Try.ntmps5
  go_wp2_with fail
  refine (szSectionS_any Axs cxs xs (1048576) _ (by omega) (by omega) hnxs (hxxs.below hb) Hsmxs.out).mono ?_
  rintro e w1 ⟨rfl, hb2⟩
  replace hb := btr hb hb2; clear hb2
  go_wp2_with fail
  refine (toSectionS_any Axs cxs xs _ hkxs (hxxs.below hb)).mono ?_
  rintro e w2 ⟨Axss, cxss, rfl, hoxss, hb2⟩
  replace hoxss := own_base hoxss hb.size
  replace hb := btr hb hb2
  clear hb2
  go_wp2_with fail
  refine (Hs.out _ _ _ (own_rd hoxss)).mono ?_
  rintro e w3 ⟨rfl, hb2⟩
  replace hb := btr hb hb2
  replace hoxss := own_below hoxss hb2
  clear hb2
  clear hoxss
  go_wp2_with fail
  refine (toSectionS_any Axs cxs xs _ hkxs (hxxs.below hb)).mono ?_
  rintro e w4 ⟨Axsx, cxsx, rfl, hoxsx, hb2⟩
  replace hoxsx := own_base hoxsx hb.size
  replace hb := btr hb hb2
  clear hb2
  go_wp2_with fail
  refine (Hi.out _ _ _ (own_rd hoxsx)).mono ?_
  rintro e w5 ⟨rfl, hb2⟩
  replace hb := btr hb hb2
  replace hoxsx := own_below hoxsx hb2
  clear hb2
  go_wp2_with fail
  refine (toSectionS_any Axs cxs xs _ hkxs (hxxs.below hb)).mono ?_
  rintro e w6 ⟨Axst, cxst, rfl, hoxst, hb2⟩
  have hap_xsx_xst := apart_new hoxsx hoxst; have hap_xst_xsx := apart_symm hap_xsx_xst
  replace hoxst := own_base hoxst hb.size
  replace hb := btr hb hb2
  replace hoxsx := own_below hoxsx hb2
  clear hb2
  go_wp2_with fail
  refine (eqSectionS_same Axsx Axst cxsx cxst xs _ hnxs (own_rd hoxsx) (own_rd hoxst)).mono ?_
  rintro e w7 ⟨rfl, hb2⟩
  replace hb := btr hb hb2
  replace hoxsx := own_below hoxsx hb2
  replace hoxst := own_below hoxst hb2
  clear hb2
  clear hoxst
  clear hap_xsx_xst hap_xst_xsx
  go_wp2_with fail
  go_ret
  exact ⟨rfl, hb⟩

set_option maxRecDepth 100000 in
theorem law_BelongsTo_lifted (os : Os) (started : os.Started) (H : Type) (enc : TypeId × Value → H) :
    ReturnsInHanded {} Try.checked os 5 .any (Rows.fnExactBelongsToSpec.pre6 enc Try.prog Try.f5 Rows.fnExactBelongsToRow.domain false) (Rows.fnExactBelongsToSpec.post enc Try.prog Try.f5 false true false false) := by
  refine returnsInHanded_of_change (C := Try.checked) own started (by kernel_rfl) Try.func5
    (ChangeSpec.witness6 (enc := enc) (C := Try.checked) false ⟨#[], #[.slice none 0 0, .int .i64 0], []⟩ 8 (by kernel_rfl) (by kernel_rfl) (by kernel_rfl) (by kernel_rfl)) ?_
  intro W base args ds gs before hval0 hW _ _
  have hval : ∀ (j : Nat) t v, Try.f5.params[j]? = some t → args[j]? = some v → Value.okWide Try.prog W .any base t v := hval0
  have hW' := hW
  obtain ⟨p, q, hA, -⟩ := hW
  replace hA : DataW.TrodAll enc Try.prog W 0 (fun _ => true) true Try.f5.params.toList args.toList ds p := hA
  rw [Try.params5] at hA hval
  obtain ⟨v0, v1, d0, d1, p0, p1, rfl, rfl, rfl, h0, h1⟩ := trodAll_two hA
  obtain ⟨Axs, lenxs, capxs, rfl⟩ := okWide_slice Try.underlying22 (hval 0 22 v0 rfl rfl)
  obtain ⟨xs, rfl, hlcxs, hcmxs, hxxs, hokxs⟩ := open_Sec h0
  obtain ⟨i, rfl, rfl, rfl, wfi⟩ := open_int Try.underlying3 (hval 1 3 v1 rfl rfl) h1
  exact My.law_step laidOut Try.underlying4 (by kernel_rfl) (by kernel_rfl) rfl (fun H ds hd => by match ds, hd with | [_, _], _ => rfl) hW' (law_BelongsTo Axs capxs xs i W (Nat.le_trans hlcxs hcmxs) hxxs (fun s hs => (hokxs s hs).1))
theorem law_BelongsTo_holds : Rows.FnExactBelongsToSaid :=
  OpenClaim.holds_of_wide 5 Try.f5 rfl rfl rfl rfl rfl rfl rfl ⟨rfl, rfl, rfl, rfl, rfl⟩ rfl rfl rfl rfl rfl (by kernel_rfl) Try.func5 (by kernel_rfl)
    (of_decide_eq_true (by kernel_rfl)) (by unfold Func.isWrapper; first | (rw [if_pos (by decide +kernel)]; kernel_rfl) | (rw [if_neg (by decide +kernel)]; exact ⟨rfl, rfl⟩))
    (fun os started H enc _ => law_BelongsTo_lifted os started H enc)

end Go.Proofs.Ythkkicpdchngmaa
