/-
  FnExactIsValidMembers returns true for every input and leaves its argument as it was. Conditions: none.
-/
import Derived.Test.YtkdcigofjinipaaMemb
import Derived.Test.YtkdcigofjinipaaLaw
namespace Go.Proofs.Ytkdcigofjinipaa
open Go.RowKit Go.My Go.ChangeShapes Go.WideShapes Go.ChangeAt

theorem own : ownKnob Try.prog.godebug = none := by kernel_rfl
theorem laidOut : laidOutB Try.prog = true := by kernel_rfl

theorem cell_below {w w' : World} {p : Addr} {v : Value} (h : w.cell? p = some v) (hb : Below w.heap.size w w') : w'.cell? p = some v := (hb.cell (World.block_lt_of_cell? w _ h)).trans h
theorem own_cap {w : World} {B : Nat} {e : TypeId} {size n c : Nat} {A : Option Addr} {cells : List Value} (h : w.ownsRow B e size (.slice A n c) n cells) : n ≤ c := by
  obtain ⟨A0, c0, e0, hnc⟩ := own_form h
  simp only [Value.slice.injEq, true_and] at e0
  obtain ⟨rfl, rfl⟩ := e0
  exact hnc

set_option maxRecDepth 100000 in
theorem open_Mem1 {H : Type} {enc : TypeId × Value → H} {w : World} {n : Nat} {cs : List Value} {x : DataW H × List MemPlace} (hx : DataW.trod enc Try.prog w 0 (fun _ => true) true n 59 cs = some x) : ∃ s : Mem, cs = s.cells ∧ s.name.size ≤ maxLen := by
  obtain ⟨hl, hf⟩ := trod_fields Try.underlying59 hx
  have cint : Try.prog.cellsOf 3 = 1 := by kernel_rfl
  have cstr : Try.prog.cellsOf 9 = 1 := by kernel_rfl
  rw [show Try.prog.cellsOf 59 = 3 by kernel_rfl] at hl
  match cs, hl with
  | [a0, a1, a2], _ =>
    simp only [List.mem_cons, List.not_mem_nil, or_false, forall_eq_or_imp, forall_eq, cint, cstr] at hf
    obtain ⟨⟨_, _, h0⟩, ⟨_, _, h1⟩, ⟨_, _, h2⟩⟩ := hf
    obtain ⟨n0, e0, _, w0⟩ := DataW.trod_int Try.underlying3 h0
    obtain ⟨n1, e1, _, w1⟩ := DataW.trod_string Try.underlying9 h1
    obtain ⟨n2, e2, _, w2⟩ := DataW.trod_int Try.underlying3 h2
    simp at e0 e1 e2
    subst e0 e1 e2
    exact ⟨⟨n0, n1, n2⟩, rfl, w1⟩
theorem open_Mem {H : Type} {enc : TypeId × Value → H} {w : World} {A : Option Addr} {len cap : Nat} {d : DataW H} {ps : List MemPlace} (h : DataW.Trod enc Try.prog w 0 (fun _ => true) true 22 (.slice A len cap) d ps) :
    ∃ xs : List Mem, xs.length = len ∧ len ≤ cap ∧ cap ≤ maxLen ∧ Rd w A (memCells xs) ∧ ∀ s ∈ xs, s.name.size ≤ maxLen :=
  open_list Mem.cells (fun s => s.name.size ≤ maxLen) 3 (fun _ => rfl) (by decide) Try.underlying22 (by kernel_rfl) (fun n cs x hx => open_Mem1 hx) h

set_option maxHeartbeats 2000000 in
set_option maxRecDepth 100000 in
theorem law_IsValidMembers (Axs : Option Addr) (cxs : Nat) (xs : List Mem) (w : World) (hnxs : xs.length ≤ maxLen) (hxxs : Rd w Axs (memCells xs)) (hsxs : ∀ s ∈ xs, s.name.size ≤ maxLen) :
    Calls Try.prog 3 #[.slice Axs xs.length cxs] w fun e w' => e = .returned (.bool true) ∧ Below w.heap.size w w' := by
  have hb := Below.refl w.heap.size w
  by_cases hy0 : 0 ≤ memSz (1048576) xs
  rotate_left
  · go_enter Try.func3, Try.ntmps3
    go_wp2_with fail
    refine (szMemberS_any Axs cxs xs (1048576) _ (by omega) (by omega) hnxs (hxxs.below hb) hsxs).mono ?_
    rintro e w1 ⟨rfl, hb2⟩
    replace hb := btr hb hb2; clear hb2
    go_wp2_with fail
    go_ret
    exact ⟨rfl, hb⟩
  obtain ⟨hl0, znxs, zsxs⟩ := memSz_ok hy0
  have hkxs : xs.length ≤ 1048576 := by omega
  obtain ⟨r, hr⟩ : ∃ r, r = (goodMem xs) := ⟨_, rfl⟩
  have Hs : Hid (∀ (w1 : World) (Axs1 : Option Addr) (cxs1 : Nat), xs.length ≤ cxs1 → Rd w1 Axs1 (memCells xs) → Calls Try.prog 12 #[.slice Axs1 xs.length cxs1] w1 fun e w' => e = .returned (.bool r) ∧ Below w1.heap.size w1 w') := by
    subst hr; exact fun w1 Axs1 cxs1 hkxs1 hxs1 => specMembers_any Axs1 cxs1 xs w1 hnxs hkxs1 hxs1 hsxs
  have Hi : Hid (∀ (w1 : World) (Axs1 : Option Addr) (cxs1 : Nat), xs.length ≤ cxs1 → Rd w1 Axs1 (memCells xs) → Calls Try.prog 14 #[.slice Axs1 xs.length cxs1] w1 fun e w' => e = .returned (.bool r) ∧ Below w1.heap.size w1 w') := by
    subst hr; exact fun w1 Axs1 cxs1 hkxs1 hxs1 => isMembers_any Axs1 cxs1 xs w1 hnxs hkxs1 hxs1 hsxs
  clear hr
  have Hsmxs := Lib.hid hsxs; clear hsxs
  clear zsxs
  go_enter Try.func3, Try.ntmps3
  go_wp2_with fail
  refine (szMemberS_any Axs cxs xs (1048576) _ (by omega) (by omega) hnxs (hxxs.below hb) Hsmxs.out).mono ?_
  rintro e w1 ⟨rfl, hb2⟩
  replace hb := btr hb hb2; clear hb2
  go_wp2_with fail
  refine (toMemberS_any Axs cxs xs _ hkxs (hxxs.below hb)).mono ?_
  rintro e w2 ⟨Axss, cxss, rfl, hoxss, hb2⟩
  replace hoxss := own_base hoxss hb.size
  replace hb := btr hb hb2
  clear hb2
  go_wp2_with fail
  refine (Hs.out _ _ _ (own_cap hoxss) (own_rd hoxss)).mono ?_
  rintro e w3 ⟨rfl, hb2⟩
  replace hb := btr hb hb2
  replace hoxss := own_below hoxss hb2
  clear hb2
  clear hoxss
  go_wp2_with fail
  refine (toMemberS_any Axs cxs xs _ hkxs (hxxs.below hb)).mono ?_
  rintro e w4 ⟨Axsx, cxsx, rfl, hoxsx, hb2⟩
  replace hoxsx := own_base hoxsx hb.size
  replace hb := btr hb hb2
  clear hb2
  go_wp2_with fail
  refine (Hi.out _ _ _ (own_cap hoxsx) (own_rd hoxsx)).mono ?_
  rintro e w5 ⟨rfl, hb2⟩
  replace hb := btr hb hb2
  replace hoxsx := own_below hoxsx hb2
  clear hb2
  go_wp2_with fail
  refine (toMemberS_any Axs cxs xs _ hkxs (hxxs.below hb)).mono ?_
  rintro e w6 ⟨Axst, cxst, rfl, hoxst, hb2⟩
  have hap_xsx_xst := apart_new hoxsx hoxst; have hap_xst_xsx := apart_symm hap_xsx_xst
  replace hoxst := own_base hoxst hb.size
  replace hb := btr hb hb2
  replace hoxsx := own_below hoxsx hb2
  clear hb2
  go_wp2_with fail
  refine (eqMemberS_same Axsx Axst cxsx cxst xs _ hnxs (own_rd hoxsx) (own_rd hoxst)).mono ?_
  rintro e w7 ⟨rfl, hb2⟩
  replace hb := btr hb hb2
  replace hoxsx := own_below hoxsx hb2
  replace hoxst := own_below hoxst hb2
  clear hb2
  clear hoxst
  clear hap_xsx_xst hap_xst_xsx
  go_wp2_with fail
  go_ret
  exact ⟨rfl, hb⟩

set_option maxRecDepth 100000 in
theorem law_IsValidMembers_lifted (os : Os) (started : os.Started) (H : Type) (enc : TypeId × Value → H) :
    ReturnsInHanded {} Try.checked os 3 .any (Rows.fnExactIsValidMembersSpec.pre6 enc Try.prog Try.f3 Rows.fnExactIsValidMembersRow.domain false) (Rows.fnExactIsValidMembersSpec.post enc Try.prog Try.f3 false true false false) := by
  refine returnsInHanded_of_change (C := Try.checked) own started (by kernel_rfl) Try.func3
    (ChangeSpec.witness6 (enc := enc) (C := Try.checked) false ⟨#[], #[.slice none 0 0], []⟩ 8 (by kernel_rfl) (by kernel_rfl) (by kernel_rfl) (by kernel_rfl)) ?_
  intro W base args ds gs before hval0 hW _ _
  have hval : ∀ (j : Nat) t v, Try.f3.params[j]? = some t → args[j]? = some v → Value.okWide Try.prog W .any base t v := hval0
  have hW' := hW
  obtain ⟨p, q, hA, -⟩ := hW
  replace hA : DataW.TrodAll enc Try.prog W 0 (fun _ => true) true Try.f3.params.toList args.toList ds p := hA
  rw [Try.params3] at hA hval
  obtain ⟨v0, d0, rfl, rfl, h0⟩ := trodAll_one hA
  obtain ⟨Axs, lenxs, capxs, rfl⟩ := okWide_slice Try.underlying22 (hval 0 22 v0 rfl rfl)
  obtain ⟨xs, rfl, hlcxs, hcmxs, hxxs, hokxs⟩ := open_Mem h0
  exact My.law_step laidOut Try.underlying4 (by kernel_rfl) (by kernel_rfl) rfl (fun H ds hd => by match ds, hd with | [_], _ => rfl) hW' (law_IsValidMembers Axs capxs xs W (Nat.le_trans hlcxs hcmxs) hxxs (fun s hs => hokxs s hs))
theorem law_IsValidMembers_holds : Rows.FnExactIsValidMembersSaid :=
  OpenClaim.holds_of_wide 3 Try.f3 rfl rfl rfl rfl rfl rfl rfl ⟨rfl, rfl, rfl, rfl, rfl⟩ rfl rfl rfl rfl rfl (by kernel_rfl) Try.func3 (by kernel_rfl)
    (of_decide_eq_true (by kernel_rfl)) (by unfold Func.isWrapper; first | (rw [if_pos (by decide +kernel)]; kernel_rfl) | (rw [if_neg (by decide +kernel)]; exact ⟨rfl, rfl⟩))
    (fun os started H enc _ => law_IsValidMembers_lifted os started H enc)

end Go.Proofs.Ytkdcigofjinipaa
