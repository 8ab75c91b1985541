/-
  FnExactSectionNumber: the law's walk, the row over the laid tables, and its tied card. Conditions: none beyond the row's own.
-/
import Derived.Test.YteeelkiapccdoaaDoorSecN
import Derived.Test.YteeelkiapccdoaaDoorLaw
import Derived.Test.YteeelkiapccdoaaDoorRows
import Derived.Test.YteeelkiapccdoaaDoorCards
import Derived.Test.YteeelkiapccdoaaDoorTie
import Derived.ProofKit
import Derived.LaidMore
import Derived.OpenShut
import Derived.Stop.Joined
import Derived.Stop.LaidErr
import Derived.HandedShaped
import Derived.SevenTiedAt
import Derived.Lib.LaidTab
namespace Go.Proofs.YteeelkiapccdoaaDoor
open Go.ChangeMaps (open_string shut_string)
open Go.ChangeShapes Go.WideShapes Go.ChangeAt Go.WideMaps Go.WideElems Go.RowKit Go.My
theorem cell_below {w w' : World} {p : Addr} {v : Value} (h : w.cell? p = some v) (hb : Below w.heap.size w w') : w'.cell? p = some v := (hb.cell (World.block_lt_of_cell? w _ h)).trans h
theorem own_cap {w : World} {B : Nat} {e : TypeId} {size n c : Nat} {A : Option Addr} {cells : List Value} (h : w.ownsRow B e size (.slice A n c) n cells) : n ≤ c := by
  obtain ⟨A0, c0, e0, hnc⟩ := own_form h
  simp only [Value.slice.injEq, true_and] at e0
  obtain ⟨rfl, rfl⟩ := e0
  exact hnc
set_option maxHeartbeats 2000000 in
set_option maxRecDepth 100000 in
theorem law_SectionNumber (Axs : Option Addr) (cxs : Nat) (xs : List Sec) (i : Int) (w : World) (hnxs : xs.length ≤ maxLen) (hxxs : Rd w Axs (secCells xs)) (hsxs : ∀ s ∈ xs, s.t.size ≤ maxLen) :
    Calls Tryd.prog 3 #[.slice Axs xs.length cxs, .int .i64 i] w fun e w' => e = .returned (.bool true) ∧ Below w.heap.size w w' := by
  have hb := Below.refl w.heap.size w
  by_cases hy0 : 0 ≤ szSecs (1048576) xs
  rotate_left
  · go_enter Tryd.func3, Tryd.ntmps3
    go_wp2_with fail
    refine (szSectionS_any Axs cxs xs (1048576) _ (by omega) (by omega) hnxs (hxxs.below hb) hsxs).mono ?_
    rintro e w1 ⟨rfl, hb2⟩
    replace hb := btr hb hb2; clear hb2
    go_wp2_with fail
    go_ret
    exact ⟨rfl, hb⟩
  obtain ⟨hl0, znxs, zsxs⟩ := szSecs_ok hy0
  have hkxs : xs.length ≤ 1048576 := by omega
  obtain ⟨r, hr⟩ : ∃ r, r = (secR xs i) := ⟨_, rfl⟩
  have Hs : Hid (∀ (w1 : World) (Axs1 : Option Addr) (cxs1 : Nat), Rd w1 Axs1 (secCells xs) → Calls Tryd.prog 5 #[.slice Axs1 xs.length cxs1, .int .i64 i] w1 fun e w' => e = .returned (.tuple #[.string r.1, .bool r.2]) ∧ Below w1.heap.size w1 w') := by
    subst hr; exact fun w1 Axs1 cxs1 hxs1 => specSec_any Axs1 cxs1 xs i w1 hnxs hxs1 hsxs
  have Hi : Hid (∀ (w1 : World) (Axs1 : Option Addr) (cxs1 : Nat), Rd w1 Axs1 (secCells xs) → Calls Tryd.prog 7 #[.slice Axs1 xs.length cxs1, .int .i64 i] w1 fun e w' => e = .returned (.tuple #[.string r.1, .bool r.2]) ∧ Below w1.heap.size w1 w') := by
    subst hr; exact fun w1 Axs1 cxs1 hxs1 => implSec_any Axs1 cxs1 xs i w1 hnxs hxs1 hsxs
  clear hr
  have Hsmxs := Lib.hid hsxs; clear hsxs
  clear zsxs
  go_enter Tryd.func3, Tryd.ntmps3
  go_wp2_with fail
  refine (szSectionS_any Axs cxs xs (1048576) _ (by omega) (by omega) hnxs (hxxs.below hb) Hsmxs.out).mono ?_
  rintro e w1 ⟨rfl, hb2⟩
  replace hb := btr hb hb2; clear hb2
  go_wp2_with fail
  refine (toSectionS_any Axs cxs xs _ hkxs (hxxs.below hb)).mono ?_
  rintro e w2 ⟨Axss, cxss, rfl, hoxss, hb2⟩
  replace hoxss := own_base hoxss hb.size
  replace hb := btr hb hb2
  clear hb2
  go_wp2_with fail
  refine (Hs.out _ _ _ (own_rd hoxss)).mono ?_
  rintro e w3 ⟨rfl, hb2⟩
  replace hb := btr hb hb2
  replace hoxss := own_below hoxss hb2
  clear hb2
  clear hoxss
  go_wp2_with fail
  refine (toSectionS_any Axs cxs xs _ hkxs (hxxs.below hb)).mono ?_
  rintro e w4 ⟨Axsx, cxsx, rfl, hoxsx, hb2⟩
  replace hoxsx := own_base hoxsx hb.size
  replace hb := btr hb hb2
  clear hb2
  go_wp2_with fail
  refine (Hi.out _ _ _ (own_rd hoxsx)).mono ?_
  rintro e w5 ⟨rfl, hb2⟩
  replace hb := btr hb hb2
  replace hoxsx := own_below hoxsx hb2
  clear hb2
  go_wp2_with fail
  refine (toSectionS_any Axs cxs xs _ hkxs (hxxs.below hb)).mono ?_
  rintro e w6 ⟨Axst, cxst, rfl, hoxst, hb2⟩
  have hap_xsx_xst := apart_new hoxsx hoxst; have hap_xst_xsx := apart_symm hap_xsx_xst
  replace hoxst := own_base hoxst hb.size
  replace hb := btr hb hb2
  replace hoxsx := own_below hoxsx hb2
  clear hb2
  go_wp2_with fail
  refine (eqSectionS_same Axsx Axst cxsx cxst xs _ hnxs (own_rd hoxsx) (own_rd hoxst)).mono ?_
  rintro e w7 ⟨rfl, hb2⟩
  replace hb := btr hb hb2
  replace hoxsx := own_below hoxsx hb2
  replace hoxst := own_below hoxst hb2
  clear hb2
  clear hoxst
  clear hap_xsx_xst hap_xst_xsx
  go_wp2_with fail
  go_ret
  exact ⟨rfl, hb⟩
theorem open_Sec {H : Type} {enc : TypeId × Value → H} {w : World} {A : Option Addr} {len cap : Nat} {d : DataW H} {ps : List MemPlace} (h : DataW.Trod enc Tryd.prog w 0 (fun _ => true) true 22 (.slice A len cap) d ps) :
    ∃ xs : List Sec, xs.length = len ∧ len ≤ cap ∧ cap ≤ maxLen ∧ Rd w A (secCells xs) ∧ ∀ s ∈ xs, s.t.size ≤ maxLen ∧ (Lit.int .i64 s.d).wf = true :=
  open_list Sec.cells (fun s => s.t.size ≤ maxLen ∧ (Lit.int .i64 s.d).wf = true) 2 (fun _ => rfl) (by decide) Tryd.underlying22 (by kernel_rfl) (fun n cs x hx => by
    obtain ⟨hl, hf⟩ := trod_fields Tryd.underlying32 hx
    have c3 : Tryd.prog.cellsOf 3 = 1 := by kernel_rfl
    have c9 : Tryd.prog.cellsOf 9 = 1 := by kernel_rfl
    rw [show Tryd.prog.cellsOf 32 = 2 by kernel_rfl] at hl
    match cs, hl with
    | [a, b], _ =>
      simp only [List.mem_cons, List.not_mem_nil, or_false, forall_eq_or_imp, forall_eq, c3, c9] at hf
      obtain ⟨⟨_, _, h1⟩, ⟨_, _, h2⟩⟩ := hf
      obtain ⟨n1, e1, _, w1⟩ := DataW.trod_int Tryd.underlying3 h1
      obtain ⟨n2, e2, _, w2⟩ := DataW.trod_string Tryd.underlying9 h2
      simp at e1 e2
      subst e1 e2
      exact ⟨⟨n1, n2⟩, rfl, w2, w1⟩) h
theorem own : ownKnob Tryd.prog.godebug = none := by kernel_rfl
theorem laidOut : laidOutB Tryd.prog = true := by kernel_rfl
/-- The wrap, with what the row lists and the world's shape both kept. -/
theorem returns_listed {H : Type} {enc : TypeId × Value → H} {a : Assume} {C : Checked} {os : Os} {f : FuncId} {fn : Func} {s : ChangeSpec} {conds : List PathCond} {apart fresh handsOn again : Bool} {X : World → Array Value → Prop}
    (hX : ∀ (w w' : World) (args : Array Value), w.heap = w'.heap → X w args → X w' args)
    (own : ownKnob C.prog.godebug = none) (started : os.Started) (noInit : C.prog.inits.idxOf? f = none) (hfn : C.prog.funcs[f]? = some fn)
    (witness : ∃ (w : World) (tape : Tape) (i : Input), w.os = os ∧ (w.forCall tape i).Shaped C.prog ∧ i.vars = [] ∧ Input.okWide C.prog (w.forCall tape i) .any w.heap.size f i ∧
      ((s.pre enc C.prog fn conds apart (w.forCall tape i).memory i.args ∧ X (w.forCall tape i).memory i.args) ∧ sizedMet enc C.prog fn (OpenSpec.ofChange s) apart (w.forCall tape i).memory i.args) ∧ a.holds C.prog (lone (Frame.enter C.prog f i.args .normal) [] (w.forCall tape i)))
    (contract : ∀ (W : World) (base : Nat) (args : Array Value) (ds gs : List (DataW H)) (before : List MemPlace),
      (∀ (j : Nat) t v, fn.params[j]? = some t → args[j]? = some v → Value.okWide C.prog W .any base t v) →
      DataW.Whole enc C.prog fn.params.toList s.vars apart W args.toList ds gs before → X W args → W.ShapedOpen C.prog →
      Calls C.prog f args W fun e W' => ∃ v, e = .returned v ∧ s.post enc C.prog fn apart fresh handsOn again W args v W') :
    ReturnsInHanded a C os f .any (fun w args => (s.pre enc C.prog fn conds apart w args ∧ X w args) ∧ sizedMet enc C.prog fn (OpenSpec.ofChange s) apart w args) (s.post enc C.prog fn apart fresh handsOn again) := by
  refine returnsInHanded_of_calls own started noInit witness ?_
  intro w tape i _ hsh _ hok hpre _
  obtain ⟨_, _, _, g, hg, _, _, _, _, hval⟩ := hok
  obtain rfl := Option.some.inj (hg.symm.trans hfn)
  obtain ⟨⟨⟨ds, gs, before, hw, _⟩, hx⟩, _⟩ := hpre
  refine (contract (w.forCall tape i) w.heap.size i.args ds gs before hval (DataW.Whole.of_heap (w' := w.forCall tape i) (by rfl) hw) (hX _ _ _ (by rfl) hx) hsh).mono fun e W' h => ?_
  obtain ⟨v, he, hp⟩ := h
  subst he
  exact ChangeSpec.post_blind hp
def secList : List (String × DataW Unit) := [("math/bits.deBruijn32tab", Rows.laid_math_bits_deBruijn32tab), ("math/bits.deBruijn64tab", Rows.laid_math_bits_deBruijn64tab), ("internal/strconv.uint64pow10", Rows.laid_internal_strconv_uint64pow10)]
theorem sec_plain {W : World} (h : laidMetH Tryd.prog secList W) : laidMet Tryd.prog secList W := by
  rw [MakeChecks.laidMetH_plain _ _ _ (by kernel_rfl)] at h; exact h
set_option maxRecDepth 100000 in
theorem sec_door (os : Os) (args : Array Value) : laidMetH Tryd.prog secList ((World.doorLaid Tryd.prog 400 os).forCall (fun _ _ => 0) ⟨#[], args, []⟩).memory :=
  laidMetH_of_parts3 (fuel := 8) (laidMet_of_run' 8 (by kernel_rfl) (by kernel_rfl)) (by kernel_rfl) (by kernel_rfl)
set_option maxRecDepth 100000 in
theorem SectionNumber_lifted (os : Os) (started : os.Started) (H : Type) (enc : TypeId × Value → H) :
    ReturnsInHanded {} Tryd.checked os 3 .any (fun w args => (Rows.fnExactSectionNumberSpec.pre enc Tryd.prog Tryd.f3 [] false w args ∧ laidMetH Tryd.prog secList w) ∧ sizedMet enc Tryd.prog Tryd.f3 (OpenSpec.ofChange Rows.fnExactSectionNumberSpec) false w args)
      (Rows.fnExactSectionNumberSpec.post enc Tryd.prog Tryd.f3 false true false false) := by
  refine returns_listed (C := Tryd.checked) (X := fun w _ => laidMetH Tryd.prog secList w) (fun _ _ _ hh h => h.of_heap hh) own started (by kernel_rfl) Tryd.func3
    (ChangeSpec.witness_shaped (enc := enc) (C := Tryd.checked) (os := os) (X := fun w _ => laidMetH Tryd.prog secList w) false (World.doorLaid Tryd.prog 400 os) #[.slice none 0 0, .int .i64 0] 8 rfl (World.shaped_of_RefB (by kernel_rfl) (by kernel_rfl)) (by kernel_rfl) (by kernel_rfl) (by kernel_rfl) (sec_door os _)) ?_
  intro W base args ds gs before hval0 hW hL hsh
  have hval : ∀ (j : Nat) t v, Tryd.f3.params[j]? = some t → args[j]? = some v → Value.okWide Tryd.prog W .any base t v := hval0
  have hW' := hW
  obtain ⟨p, q, hA, -⟩ := hW
  replace hA : DataW.TrodAll enc Tryd.prog W 0 (fun _ => true) true Tryd.f3.params.toList args.toList ds p := hA
  rw [Tryd.params3] at hA hval
  obtain ⟨v0, v1, d0, d1, p0, p1, rfl, rfl, rfl, h0, h1⟩ := trodAll_two hA
  obtain ⟨A0, len0, cap0, rfl⟩ := okWide_slice Tryd.underlying22 (hval 0 22 v0 rfl rfl)
  obtain ⟨xs, rfl, hlc, hcm, hx, hok⟩ := open_Sec h0
  obtain ⟨n, rfl, rfl, rfl, wfn⟩ := open_int Tryd.underlying3 (hval 1 3 v1 rfl rfl) h1
  exact My.law_step laidOut Tryd.underlying4 (by kernel_rfl) (by kernel_rfl) rfl (fun H ds hd => by match ds, hd with | [_, _], _ => rfl) hW' (law_SectionNumber A0 cap0 xs n W (Nat.le_trans hlc hcm) hx (fun s hs => (hok s hs).1))
theorem SectionNumber_holds : Rows.FnExactSectionNumberSaid :=
  OpenClaim.holds_of_wide 3 Tryd.f3 rfl rfl rfl rfl rfl rfl rfl ⟨rfl, rfl, rfl, rfl, rfl⟩ rfl rfl rfl rfl rfl (by kernel_rfl) Tryd.func3 (by kernel_rfl)
    (of_decide_eq_true (by kernel_rfl)) (by unfold Func.isWrapper; first | (rw [if_pos (by decide +kernel)]; kernel_rfl) | (rw [if_neg (by decide +kernel)]; exact ⟨rfl, rfl⟩))
    (fun os started H enc _ => SectionNumber_lifted os started H enc)
theorem SectionNumber_card : Rows.FnExactSectionNumberCardSaid :=
  Claim7.holds_tied_plain_at .later [] [.data, .data, .data] true (true, "7885c0e7f988dea91dd33c38de1857e3f8b231ffa7ca83e7d16e97ebe6261d8c") false
    SectionNumber_holds (fun _ h => by cases h) (by kernel_rfl) (fun _ h => by cases h) fnExactSectionNumber_row_tie rfl ⟨rfl, rfl⟩ (by kernel_rfl) rfl
    (fun f fn hf hfn => by
      obtain rfl : f = 3 := Option.some.inj ((show Tryd.prog.funcNamed "loop.example/g00909/laws.FnExactSectionNumber" = some 3 by kernel_rfl).symm.trans hf) |>.symm
      obtain rfl : fn = Tryd.f3 := (Option.some.inj (Tryd.func3.symm.trans hfn)).symm
      exact ⟨by kernel_rfl, fun j t ht => by
        rw [Tryd.params3] at ht
        have hm : t ∈ [22, 3] := by simpa using Array.mem_of_getElem? ht
        have hall : ([22, 3].all fun u => !Tryd.prog.wantsStandIn u) = true := by kernel_rfl
        exact (show Tryd.prog.wantsStandIn t = false by simpa using List.all_eq_true.1 hall t hm)⟩)
    (by kernel_rfl)
end Go.Proofs.YteeelkiapccdoaaDoor

