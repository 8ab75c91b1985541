/-
  FnExactJoinStrings returns true for every input and leaves its arguments as they were. Conditions: none.
-/
import Derived.Test.YtpdohkcidlcboaaJoi
import Derived.Test.YtpdohkcidlcboaaLaw
namespace Go.Proofs.Ytpdohkcidlcboaa
open Go.RowKit Go.My Go.ChangeShapes Go.WideShapes Go.ChangeAt
open Go.ChangeMaps (open_string shut_string)

theorem own : ownKnob Try.prog.godebug = none := by kernel_rfl
theorem laidOut : laidOutB Try.prog = true := by kernel_rfl

theorem cell_below {w w' : World} {p : Addr} {v : Value} (h : w.cell? p = some v) (hb : Below w.heap.size w w') : w'.cell? p = some v := (hb.cell (World.block_lt_of_cell? w _ h)).trans h
theorem own_cap {w : World} {B : Nat} {e : TypeId} {size n c : Nat} {A : Option Addr} {cells : List Value} (h : w.ownsRow B e size (.slice A n c) n cells) : n ≤ c := by
  obtain ⟨A0, c0, e0, hnc⟩ := own_form h
  simp only [Value.slice.injEq, true_and] at e0
  obtain ⟨rfl, rfl⟩ := e0
  exact hnc

theorem sCells_flat (xs : List ByteArray) : xs.flatMap (fun x => [Value.string x]) = sCells xs := by
  induction xs with
  | nil => rfl
  | cons x r ih => simp [sCells] at ih ⊢; exact ih
theorem open_Strs {H : Type} {enc : TypeId × Value → H} {w : World} {A : Option Addr} {len cap : Nat} {d : DataW H} {ps : List MemPlace} (h : DataW.Trod enc Try.prog w 0 (fun _ => true) true 27 (.slice A len cap) d ps) :
    ∃ xs : List ByteArray, xs.length = len ∧ len ≤ cap ∧ cap ≤ maxLen ∧ Rd w A (sCells xs) ∧ ∀ s ∈ xs, s.size ≤ maxLen := by
  obtain ⟨xs, h1, h2, h3, h4, h5⟩ := open_list (fun x : ByteArray => [Value.string x]) (fun s => s.size ≤ maxLen) 1 (fun _ => rfl) (by decide) Try.underlying27 (by kernel_rfl) (fun n cs x hx => by
    obtain ⟨n1, e1, _, w1⟩ := DataW.trod_string Try.underlying9 hx
    exact ⟨n1, e1, w1⟩) h
  exact ⟨xs, h1, h2, h3, by rw [← sCells_flat]; exact h4, h5⟩

set_option maxHeartbeats 2000000 in
set_option maxRecDepth 100000 in
theorem law_JoinStrings (Axs : Option Addr) (cxs : Nat) (xs : List ByteArray) (t : ByteArray) (w : World) (hnxs : xs.length ≤ maxLen) (hxxs : Rd w Axs (sCells xs)) (hsxs : ∀ s ∈ xs, s.size ≤ maxLen) (hzt : t.size ≤ maxLen) :
    Calls Try.prog 7 #[.slice Axs xs.length cxs, .string t] w fun e w' => e = .returned (.bool true) ∧ Below w.heap.size w w' := by
  have hmt : t.size ≤ 9223372036854775807 := by have := hzt; unfold maxLen at this; omega
  by_cases hqt : t.size ≤ 1048576
  rotate_left
  · have hqtI : (1048576 : Int) < ((t.size : Nat) : Int) := by omega
    clear hxxs
    go_enter Try.func7, Try.ntmps7
    go_wp2_with fail
    all_goals
      go_ret
      exact ⟨rfl, Below.refl _ _⟩
  have hb := Below.refl w.heap.size w
  by_cases hy0 : 0 ≤ sSz (1048576) xs
  rotate_left
  · go_enter Try.func7, Try.ntmps7
    go_wp2_with fail
    refine (szStringS_any Axs cxs xs (1048576) _ (by omega) (by omega) hnxs (hxxs.below hb) hsxs).mono ?_
    rintro e w1 ⟨rfl, hb2⟩
    replace hb := btr hb hb2; clear hb2
    go_wp2_with fail
    go_ret
    exact ⟨rfl, hb⟩
  obtain ⟨hl0, znxs, zsxs⟩ := sSz_ok hy0
  have hkxs : xs.length ≤ 1048576 := by omega
  obtain ⟨r, hr⟩ : ∃ r, r = (joinR xs t) := ⟨_, rfl⟩
  have Hs : Hid (∀ (w1 : World) (Axs1 : Option Addr) (cxs1 : Nat), xs.length ≤ cxs1 → Rd w1 Axs1 (sCells xs) → Calls Try.prog 19 #[.slice Axs1 xs.length cxs1, .string t] w1 fun e w' => e = .returned (.tuple #[.string r.1, .bool r.2]) ∧ Below w1.heap.size w1 w') := by
    subst hr; exact fun w1 Axs1 cxs1 hkxs1 hxs1 => specJoin_any Axs1 cxs1 xs t w1 hnxs hkxs1 hxs1 hsxs hzt hkxs (fun s h9 => by have := zsxs s h9; omega)
  have Hi : Hid (∀ (w1 : World) (Axs1 : Option Addr) (cxs1 : Nat), xs.length ≤ cxs1 → Rd w1 Axs1 (sCells xs) → Calls Try.prog 21 #[.slice Axs1 xs.length cxs1, .string t] w1 fun e w' => e = .returned (.tuple #[.string r.1, .bool r.2]) ∧ Below w1.heap.size w1 w') := by
    subst hr; exact fun w1 Axs1 cxs1 hkxs1 hxs1 => join_any Axs1 cxs1 xs t w1 hnxs hkxs1 hxs1 hsxs hzt hkxs (fun s h9 => by have := zsxs s h9; omega)
  clear hr
  have Hsmxs := Lib.hid hsxs; clear hsxs
  clear zsxs
  go_enter Try.func7, Try.ntmps7
  go_wp2_with fail
  refine (szStringS_any Axs cxs xs (1048576) _ (by omega) (by omega) hnxs (hxxs.below hb) Hsmxs.out).mono ?_
  rintro e w1 ⟨rfl, hb2⟩
  replace hb := btr hb hb2; clear hb2
  go_wp2_with fail
  refine (toStringS_any Axs cxs xs _ hkxs (hxxs.below hb)).mono ?_
  rintro e w2 ⟨Axss, cxss, rfl, hoxss, hb2⟩
  replace hoxss := own_base hoxss hb.size
  replace hb := btr hb hb2
  clear hb2
  go_wp2_with fail
  refine (Hs.out _ _ _ (own_cap hoxss) (own_rd hoxss)).mono ?_
  rintro e w3 ⟨rfl, hb2⟩
  replace hb := btr hb hb2
  replace hoxss := own_below hoxss hb2
  clear hb2
  clear hoxss
  go_wp2_with fail
  refine (toStringS_any Axs cxs xs _ hkxs (hxxs.below hb)).mono ?_
  rintro e w4 ⟨Axsx, cxsx, rfl, hoxsx, hb2⟩
  replace hoxsx := own_base hoxsx hb.size
  replace hb := btr hb hb2
  clear hb2
  go_wp2_with fail
  refine (Hi.out _ _ _ (own_cap hoxsx) (own_rd hoxsx)).mono ?_
  rintro e w5 ⟨rfl, hb2⟩
  replace hb := btr hb hb2
  replace hoxsx := own_below hoxsx hb2
  clear hb2
  go_wp2_with fail
  refine (toStringS_any Axs cxs xs _ hkxs (hxxs.below hb)).mono ?_
  rintro e w6 ⟨Axst, cxst, rfl, hoxst, hb2⟩
  have hap_xsx_xst := apart_new hoxsx hoxst; have hap_xst_xsx := apart_symm hap_xsx_xst
  replace hoxst := own_base hoxst hb.size
  replace hb := btr hb hb2
  replace hoxsx := own_below hoxsx hb2
  clear hb2
  go_wp2_with fail
  refine (eqStringS_same Axsx Axst cxsx cxst xs _ hnxs (own_rd hoxsx) (own_rd hoxst)).mono ?_
  rintro e w7 ⟨rfl, hb2⟩
  replace hb := btr hb hb2
  replace hoxsx := own_below hoxsx hb2
  replace hoxst := own_below hoxst hb2
  clear hb2
  clear hoxst
  clear hap_xsx_xst hap_xst_xsx
  go_wp2_with fail
  go_ret
  exact ⟨rfl, hb⟩

set_option maxRecDepth 100000 in
theorem law_JoinStrings_lifted (os : Os) (started : os.Started) (H : Type) (enc : TypeId × Value → H) :
    ReturnsInHanded {} Try.checked os 7 .any (Rows.fnExactJoinStringsSpec.pre6 enc Try.prog Try.f7 Rows.fnExactJoinStringsRow.domain false) (Rows.fnExactJoinStringsSpec.post enc Try.prog Try.f7 false true false false) := by
  refine returnsInHanded_of_change (C := Try.checked) own started (by kernel_rfl) Try.func7
    (ChangeSpec.witness6 (enc := enc) (C := Try.checked) false ⟨#[], #[.slice none 0 0, .string ⟨#[]⟩], []⟩ 8 (by kernel_rfl) (by kernel_rfl) (by kernel_rfl) (by kernel_rfl)) ?_
  intro W base args ds gs before hval0 hW _ _
  have hval : ∀ (j : Nat) t v, Try.f7.params[j]? = some t → args[j]? = some v → Value.okWide Try.prog W .any base t v := hval0
  have hW' := hW
  obtain ⟨p, q, hA, -⟩ := hW
  replace hA : DataW.TrodAll enc Try.prog W 0 (fun _ => true) true Try.f7.params.toList args.toList ds p := hA
  rw [Try.params7] at hA hval
  obtain ⟨v0, v1, d0, d1, p0, p1, rfl, rfl, rfl, h0, h1⟩ := trodAll_two hA
  obtain ⟨Axs, lenxs, capxs, rfl⟩ := okWide_slice Try.underlying27 (hval 0 27 v0 rfl rfl)
  obtain ⟨xs, rfl, hlcxs, hcmxs, hxxs, hokxs⟩ := open_Strs h0
  obtain ⟨t, rfl, rfl, rfl, hzt⟩ := open_string Try.underlying9 (hval 1 9 v1 rfl rfl) h1
  exact My.law_step laidOut Try.underlying4 (by kernel_rfl) (by kernel_rfl) rfl (fun H ds hd => by match ds, hd with | [_, _], _ => rfl) hW' (law_JoinStrings Axs capxs xs t W (Nat.le_trans hlcxs hcmxs) hxxs hokxs hzt)
theorem law_JoinStrings_holds : Rows.FnExactJoinStringsSaid :=
  OpenClaim.holds_of_wide 7 Try.f7 rfl rfl rfl rfl rfl rfl rfl ⟨rfl, rfl, rfl, rfl, rfl⟩ rfl rfl rfl rfl rfl (by kernel_rfl) Try.func7 (by kernel_rfl)
    (of_decide_eq_true (by kernel_rfl)) (by unfold Func.isWrapper; first | (rw [if_pos (by decide +kernel)]; kernel_rfl) | (rw [if_neg (by decide +kernel)]; exact ⟨rfl, rfl⟩))
    (fun os started H enc _ => law_JoinStrings_lifted os started H enc)

end Go.Proofs.Ytpdohkcidlcboaa
