/-
  FnExactParseAgenda: the law's walk, the row over the laid variables, and its tied card. Conditions: none beyond the row's own.
-/
import Derived.Test.YtfpjelpbeicdoaaDoorAgPar3
import Derived.Test.YtfpjelpbeicdoaaDoorLaw
import Derived.Test.YtfpjelpbeicdoaaDoorRows
import Derived.Test.YtfpjelpbeicdoaaDoorCards
import Derived.Test.YtfpjelpbeicdoaaDoorTie
import Derived.ProofKit
import Derived.LaidMore
import Derived.OpenShut
import Derived.Stop.Joined
import Derived.Stop.LaidErr
import Derived.HandedShaped
import Derived.SevenTiedAt
import Derived.Lib.LaidTab
import Derived.OpenVars
import Derived.Lay
import Derived.LaidOnce
namespace Go.My
open Go.RowKit
/-- An array of strings that reads as texts holds them, cell for cell. -/
theorem strs_of_tab {H : Type} {enc : TypeId × Value → H} {P : Program} {w : World} {base : Nat} {sp : Nat → Bool} {held : Bool} {fuel : Nat} {t e : TypeId} {n : Nat} {cs : List Value} {ls : List (List UInt8)} {p : List MemPlace}
    (ht : P.underlying t = some (.array n e)) (he : P.underlying e = some .string) (hce : P.cellsOf e = 1) (hct : P.cellsOf t = n)
    (h : DataW.trod enc P w base sp held fuel t cs = some (.agg (ls.map fun l => .lit (.string l)), p)) : ∀ (i : Nat) (l : List UInt8), ls[i]? = some l → ∃ s : ByteArray, cs[i]? = some (.string s) ∧ s.data.toList = l := by
  intro i l hl
  cases fuel with
  | zero => simp [DataW.trod] at h
  | succ fuel =>
    simp only [DataW.trod, ht, hce, hct, Nat.mul_one] at h
    split at h
    · obtain ⟨xs, hm, hx⟩ := Option.map_eq_some_iff.1 h
      have hxs : xs.map (·.1) = ls.map fun l => (DataW.lit (.string l) : DataW H) := by
        have := congrArg Prod.fst hx
        simpa using this
      have hxl : xs.length = n := by simpa using Lib.mapM_length hm
      have hzl : ls.length = n := by
        have := congrArg List.length hxs
        simp at this
        omega
      have hi : i < n := by have := (List.getElem?_eq_some_iff.1 hl).1; omega
      obtain ⟨b, hb, hf⟩ := Lib.mapM_at hm i i (by simp [hi])
      obtain ⟨s, hc, rfl, _⟩ := DataW.trod_string he hf
      refine ⟨s, ?_, ?_⟩
      · have := congrArg (·[0]?) hc
        simpa [List.getElem?_take, List.getElem?_drop] using this
      · have h2 : (xs.map (·.1))[i]? = some (DataW.lit (.string s.data.toList) : DataW H) := by simp [hb]
        rw [hxs] at h2
        simp only [List.getElem?_map, hl, Option.map_some, Option.some.injEq, DataW.lit.injEq, Lit.string.injEq] at h2
        exact h2.symm
    · cases h
end Go.My
namespace Go.My
open Go.ChangeShapes Go.WideShapes Go.ChangeAt Go.RowKit
/-- The condition on a law's specification that names variables: it says true, and that arguments and variables read as they did. -/
def SaysTrueV (s : ChangeSpec) (n m : Nat) : Prop := ∀ (H : Type) (ds gs : List (DataW H)), ds.length = n → gs.length = m → s.fn H (ds ++ gs) = { results := [.lit (.bool true)], args := ds, vars := gs }
theorem trodVars_length {H : Type} {enc : TypeId × Value → H} {P : Program} {W : World} {sp : Nat → Bool} : ∀ {ns : List String} {gs : List (DataW H)} {ps : List MemPlace}, DataW.TrodVars enc P W sp ns gs ps → gs.length = ns.length
  | [], [], _, _ => rfl
  | [], _ :: _, _, h => h.elim
  | _ :: _, [], _, h => h.elim
  | _ :: ns, _ :: gs, _, h => by
    obtain ⟨g, t, cs, fuel, p, q, _, _, _, _, hs, _⟩ := h
    simp [trodVars_length hs]
theorem law_step_vars {H : Type} {enc : TypeId × Value → H} {P : Program} {fn : Func} {s : ChangeSpec} {T : TypeId} (hl : laidOutB P = true) (hT : P.underlying T = some .bool) (hres : fn.resultTypes = #[T])
    (hpar : (fn.params.toList.all fun t => P.readableRec t && decide (t < P.types.size)) = true) (hvars : varsRowed P s.vars = true) (hsays : SaysTrueV s fn.params.toList.length s.vars.length)
    {f : FuncId} {W : World} {args : Array Value} {ds gs : List (DataW H)} {before : List MemPlace} (hW : DataW.Whole enc P fn.params.toList s.vars false W args.toList ds gs before)
    (walk : Calls P f args W fun e w' => e = .returned (.bool true) ∧ Below W.heap.size W w') :
    Calls P f args W fun e W' => ∃ v, e = .returned v ∧ s.post enc P fn false true false false W args v W' := by
  refine walk.mono fun e W' ⟨he, hb⟩ => ⟨_, he, ?_⟩
  have hW0 := hW
  obtain ⟨p, q, hA, hV, rfl, hfz, hnd⟩ := hW
  have e0 : s.fn H (ds ++ gs) = { results := [.lit (.bool true)], args := ds, vars := gs } := hsays H ds gs (trodAll_length hA) (trodVars_length hV)
  have hlt : ∀ x ∈ p, x.block < W.heap.size := fun x hx => hA.lt x hx
  refine ⟨ds, gs, p ++ q, [], p, q, hW0, ?_, ?_, ?_, hb.frame _, fun h => by cases h⟩
  · rw [e0, hres]
    exact trodAll_mk1 (shut_bool hT true)
  · rw [e0]
    exact trodAll_below hl hb hpar hA hlt
  · rw [e0]
    exact Below.trodVars hl hb hvars hV
end Go.My
namespace Go.My
open Go.RowKit
open Classical in
/-- What ParseAgenda answers. -/
noncomputable def parsesR (s : ByteArray) : List Itm × Bool := if h : ∃ p : List Itm × Bool, IsParseG lineA goodItm s p.1 p.2 then h.choose else ([], false)
theorem parsesR_of {s : ByteArray} {L : List Itm} {b : Bool} (h : IsParseG lineA goodItm s L b) : parsesR s = (L, b) := by
  have h0 : ∃ p : List Itm × Bool, IsParseG lineA goodItm s p.1 p.2 := ⟨(L, b), h⟩
  have e : parsesR s = h0.choose := dif_pos h0
  obtain ⟨h1, h2⟩ := parseA_unique h0.choose_spec h
  rw [e]; exact Prod.ext h1 h2
theorem parsesR_len (s : ByteArray) : (parsesR s).1.length ≤ 2097152 := by
  unfold parsesR
  split
  · rename_i h
    have := (parseA_len h.choose_spec).1
    omega
  · exact Nat.zero_le _
end Go.My
namespace Go.Proofs.YtfpjelpbeicdoaaDoor
open Go.ChangeMaps (open_string shut_string)
open Go.ChangeShapes Go.WideShapes Go.ChangeAt Go.WideMaps Go.WideElems Go.RowKit Go.My
theorem implParseAgenda_d (s : ByteArray) (w : World) (_ : s.size ≤ maxLen) (hs : s.size ≤ 1048576) (hd : AgDoor w) :
    Calls Tryd.prog 11 #[.string s] w fun e w' => ∃ A' c', e = .returned (.tuple #[.slice A' (parsesR s).1.length c', .bool (parsesR s).2]) ∧ w'.ownsRow w.heap.size 39 4 (.slice A' (parsesR s).1.length c') (parsesR s).1.length (itmCells (parsesR s).1) ∧ Below w.heap.size w w' :=
  (implParseAgenda_any s w hs hd).mono fun e w' h => by
    obtain ⟨L, b, A', c', he, ho, hp, hb⟩ := h
    rw [parsesR_of hp]
    exact ⟨A', c', he, ho, hb⟩
theorem specParseAgenda_d (s : ByteArray) (w : World) (_ : s.size ≤ maxLen) (hs : s.size ≤ 1048576) :
    Calls Tryd.prog 10 #[.string s] w fun e w' => ∃ A' c', e = .returned (.tuple #[.slice A' (parsesR s).1.length c', .bool (parsesR s).2]) ∧ w'.ownsRow w.heap.size 39 4 (.slice A' (parsesR s).1.length c') (parsesR s).1.length (itmCells (parsesR s).1) ∧ Below w.heap.size w w' :=
  (specParseAgenda_any s w hs).mono fun e w' h => by
    obtain ⟨L, b, A', c', he, ho, hp, hb⟩ := h
    rw [parsesR_of hp]
    exact ⟨A', c', he, ho, hb⟩
set_option maxHeartbeats 2000000 in
set_option maxRecDepth 100000 in
theorem law_ParseAgenda (s : ByteArray) (w : World) (hzs : s.size ≤ maxLen) (hdoor : AgDoor w) :
    Calls Tryd.prog 4 #[.string s] w fun e w' => e = .returned (.bool true) ∧ Below w.heap.size w w' := by
  have hms : s.size ≤ 9223372036854775807 := by have := hzs; unfold maxLen at this; omega
  by_cases hqs : s.size ≤ 1048576
  rotate_left
  · have hqsI : (1048576 : Int) < ((s.size : Nat) : Int) := by omega
    go_enter Tryd.func4, Tryd.ntmps4
    go_wp2_with fail
    all_goals
      go_ret
      exact ⟨rfl, Below.refl _ _⟩
  have hb := Below.refl w.heap.size w
  obtain ⟨r, hr⟩ : ∃ r, r = (parsesR s) := ⟨_, rfl⟩
  have Hs : Hid (∀ (w1 : World), Calls Tryd.prog 10 #[.string s] w1 fun e w' => ∃ A0 c0, e = .returned (.tuple #[.slice A0 r.1.length c0, .bool r.2]) ∧ w'.ownsRow w1.heap.size 39 4 (.slice A0 r.1.length c0) r.1.length (itmCells r.1) ∧ Below w1.heap.size w1 w') := by
    subst hr; exact fun w1   => specParseAgenda_d s w1 hzs hqs
  have Hi : Hid (∀ (w1 : World), AgDoor w1 → Calls Tryd.prog 11 #[.string s] w1 fun e w' => ∃ A0 c0, e = .returned (.tuple #[.slice A0 r.1.length c0, .bool r.2]) ∧ w'.ownsRow w1.heap.size 39 4 (.slice A0 r.1.length c0) r.1.length (itmCells r.1) ∧ Below w1.heap.size w1 w') := by
    subst hr; exact fun w1   hq1 => implParseAgenda_d s w1 hzs hqs hq1
  have hB0 : r.1.length ≤ 2097152 := by subst hr; exact parsesR_len s
  clear hr
  go_enter Tryd.func4, Tryd.ntmps4
  have hdoorW := hdoor
  go_wp2_with fail
  refine (Hs.out _  ).mono ?_
  rintro e w2 ⟨AW0, cW0, rfl, hoW0, hb2⟩
  replace hoW0 := own_base hoW0 hb.size
  replace hb := btr hb hb2
  clear hb2
  go_wp2_with fail
  refine (Hi.out _   (hdoorW.below hb)).mono ?_
  rintro e w3 ⟨AG0, cG0, rfl, hoG0, hb2⟩
  have hap_W0_G0 := apart_new hoW0 hoG0; have hap_G0_W0 := apart_symm hap_W0_G0
  replace hoG0 := own_base hoG0 hb.size
  replace hb := btr hb hb2
  replace hoW0 := own_below hoW0 hb2
  clear hb2
  go_wp2_with fail
  refine (eqAgendaItemS_same AG0 AW0 cG0 cW0 r.1 _ (by have := hB0; unfold maxLen; omega) (own_rd hoG0) (own_rd hoW0)).mono ?_
  rintro e w4 ⟨rfl, hb2⟩
  replace hb := btr hb hb2
  replace hoW0 := own_below hoW0 hb2
  replace hoG0 := own_below hoG0 hb2
  clear hb2
  go_wp2_with fail
  refine (markAgendaItemS_any AG0 cG0 _ _ _ _ _ (by omega) (by omega) (by omega) hoG0).mono ?_
  rintro e w5 ⟨rfl, hoG0', hg⟩
  replace hb := mark_below hb hoG0 hg
  replace hoW0 := own_mark hoW0 hg hap_W0_G0
  clear hg hoG0
  have hoG0 := hoG0'; clear hoG0'
  go_wp2_with fail
  refine (heldAgendaItemS_any AG0 cG0 _ _ _ (by omega) (by omega) (by omega) (own_rd hoG0)).mono ?_
  rintro e w6 ⟨rfl, hb2⟩
  replace hb := btr hb hb2
  replace hoW0 := own_below hoW0 hb2
  replace hoG0 := own_below hoG0 hb2
  clear hb2
  go_wp2_with fail
  refine (Hi.out _   (hdoorW.below hb)).mono ?_
  rintro e w7 ⟨AK0, cK0, rfl, hoK0, hb2⟩
  have hap_W0_K0 := apart_new hoW0 hoK0; have hap_K0_W0 := apart_symm hap_W0_K0
  have hap_G0_K0 := apart_new hoG0 hoK0; have hap_K0_G0 := apart_symm hap_G0_K0
  replace hoK0 := own_base hoK0 hb.size
  replace hb := btr hb hb2
  replace hoW0 := own_below hoW0 hb2
  replace hoG0 := own_below hoG0 hb2
  clear hb2
  go_wp2_with fail
  refine (eqAgendaItemS_same AK0 AW0 cK0 cW0 r.1 _ (by have := hB0; unfold maxLen; omega) (own_rd hoK0) (own_rd hoW0)).mono ?_
  rintro e w8 ⟨rfl, hb2⟩
  replace hb := btr hb hb2
  replace hoW0 := own_below hoW0 hb2
  replace hoG0 := own_below hoG0 hb2
  replace hoK0 := own_below hoK0 hb2
  clear hb2
  go_wp2_with fail
  refine (heldAgendaItemS_any AG0 cG0 _ _ _ (by omega) (by omega) (by omega) (own_rd hoG0)).mono ?_
  rintro e w9 ⟨rfl, hb2⟩
  replace hb := btr hb hb2
  replace hoW0 := own_below hoW0 hb2
  replace hoG0 := own_below hoG0 hb2
  replace hoK0 := own_below hoK0 hb2
  clear hb2
  go_wp2_with fail
  go_ret
  exact ⟨rfl, hb⟩
theorem own : ownKnob Tryd.prog.godebug = none := by kernel_rfl
theorem laidOut : laidOutB Tryd.prog = true := by kernel_rfl
/-- The wrap, with what the row lists and the world's shape both kept. -/
theorem returns_listed {H : Type} {enc : TypeId × Value → H} {a : Assume} {C : Checked} {os : Os} {f : FuncId} {fn : Func} {s : ChangeSpec} {conds : List PathCond} {apart fresh handsOn again : Bool} {X : World → Array Value → Prop}
    (hX : ∀ (w w' : World) (args : Array Value), w.heap = w'.heap → X w args → X w' args)
    (own : ownKnob C.prog.godebug = none) (started : os.Started) (noInit : C.prog.inits.idxOf? f = none) (hfn : C.prog.funcs[f]? = some fn)
    (witness : ∃ (w : World) (tape : Tape) (i : Input), w.os = os ∧ (w.forCall tape i).Shaped C.prog ∧ i.vars = [] ∧ Input.okWide C.prog (w.forCall tape i) .any w.heap.size f i ∧
      ((s.pre enc C.prog fn conds apart (w.forCall tape i).memory i.args ∧ X (w.forCall tape i).memory i.args) ∧ sizedMet enc C.prog fn (OpenSpec.ofChange s) apart (w.forCall tape i).memory i.args) ∧ a.holds C.prog (lone (Frame.enter C.prog f i.args .normal) [] (w.forCall tape i)))
    (contract : ∀ (W : World) (base : Nat) (args : Array Value) (ds gs : List (DataW H)) (before : List MemPlace),
      (∀ (j : Nat) t v, fn.params[j]? = some t → args[j]? = some v → Value.okWide C.prog W .any base t v) →
      DataW.Whole enc C.prog fn.params.toList s.vars apart W args.toList ds gs before → X W args → W.ShapedOpen C.prog →
      Calls C.prog f args W fun e W' => ∃ v, e = .returned v ∧ s.post enc C.prog fn apart fresh handsOn again W args v W') :
    ReturnsInHanded a C os f .any (fun w args => (s.pre enc C.prog fn conds apart w args ∧ X w args) ∧ sizedMet enc C.prog fn (OpenSpec.ofChange s) apart w args) (s.post enc C.prog fn apart fresh handsOn again) := by
  refine returnsInHanded_of_calls own started noInit witness ?_
  intro w tape i _ hsh _ hok hpre _
  obtain ⟨_, _, _, g, hg, _, _, _, _, hval⟩ := hok
  obtain rfl := Option.some.inj (hg.symm.trans hfn)
  obtain ⟨⟨⟨ds, gs, before, hw, _⟩, hx⟩, _⟩ := hpre
  refine (contract (w.forCall tape i) w.heap.size i.args ds gs before hval (DataW.Whole.of_heap (w' := w.forCall tape i) (by rfl) hw) (hX _ _ _ (by rfl) hx) hsh).mono fun e W' h => ?_
  obtain ⟨v, he, hp⟩ := h
  subst he
  exact ChangeSpec.post_blind hp
def apsList : List (String × DataW Unit) := [("math/bits.deBruijn32tab", Rows.laid_math_bits_deBruijn32tab), ("math/bits.deBruijn64tab", Rows.laid_math_bits_deBruijn64tab), ("internal/strconv.uint64pow10", Rows.laid_internal_strconv_uint64pow10), ("unicode/utf8.acceptRanges", Rows.laid_unicode_utf8_acceptRanges), ("strconv.ErrRange", Rows.laid_strconv_ErrRange), ("strconv.ErrSyntax", Rows.laid_strconv_ErrSyntax), ("unicode/utf8.first", Rows.laid_unicode_utf8_first)]
theorem aps_plain {W : World} (h : laidMetH Tryd.prog apsList W) : laidMet Tryd.prog apsList W := by
  rw [MakeChecks.laidMetH_plain _ _ _ (by kernel_rfl)] at h; exact h
set_option maxRecDepth 100000 in
theorem aps_door (os : Os) (args : Array Value) : laidMetH Tryd.prog apsList ((World.laidAll Tryd.prog os apsList).forCall (fun _ _ => 0) ⟨#[], args, []⟩).memory := by
  rw [MakeChecks.laidMetH_plain _ _ _ (by kernel_rfl)]; exact laidMet_laidAll _ (by kernel_rfl) (by kernel_rfl)
set_option maxRecDepth 100000 in
theorem aps_tab {W : World} (h : laidMetH Tryd.prog apsList W) : Lib.TabIs Tryd.prog W "internal/strconv.uint64pow10" .u64 Lib.pow10Tab := by
  obtain ⟨ps, ⟨g0, t0, cs0, f0, p0, q0, hg0, ht0, hv0, hd0, ⟨g1, t1, cs1, f1, p1, q1, hg1, ht1, hv1, hd1, ⟨g2, t2, cs2, f2, p2, q2, hg2, ht2, hv2, hd2, ⟨g3, t3, cs3, f3, p3, q3, hg3, ht3, hv3, hd3, ⟨g4, t4, cs4, f4, p4, q4, hg4, ht4, hv4, hd4, ⟨g5, t5, cs5, f5, p5, q5, hg5, ht5, hv5, hd5, ⟨g6, t6, cs6, f6, p6, q6, hg6, ht6, hv6, hd6, _, _⟩, _⟩, _⟩, _⟩, _⟩, _⟩, _⟩, _, _⟩ := aps_plain h
  unfold Lib.TabIs
  have e1 : g2 = 3 := Option.some.inj (hg2.symm.trans (by kernel_rfl))
  subst e1
  have e2 : t2 = 92 := Option.some.inj (ht2.symm.trans (by kernel_rfl))
  subst e2
  rw [hv2, ← Lib.cells_of_tab (zs := Lib.pow10Tab) Tryd.underlying92 Tryd.underlying78 (by kernel_rfl) (by kernel_rfl) hd2]
set_option maxRecDepth 100000 in
theorem aps_syn {W : World} (h : laidMetH Tryd.prog apsList W) : SynIs W := by
  have h0 := aps_plain h
  have h1 := (((((h0.tail).tail).tail).tail).tail)
  obtain ⟨a, s, hv, -, -, -⟩ := laid_sentinel h1 (g := 1) (ti := 57) (tp := 104) (by kernel_rfl) (by kernel_rfl) Tryd.underlying57 (fun u hu => typeName_ptr_named (nm := "errors.errorString") (by rw [show "*" ++ "errors.errorString" = "*errors.errorString" by decide]; kernel_rfl) (by kernel_rfl) (by decide) u (by rw [show "*" ++ "errors.errorString" = "*errors.errorString" by decide]; exact hu)) Tryd.underlying104 Tryd.underlying106 rfl rfl Tryd.underlying9 (by kernel_rfl) (by kernel_rfl)
  exact ⟨_, _, hv⟩
theorem aps_met {W : World} (hsh : W.ShapedOpen Tryd.prog) (h : laidMetH Tryd.prog apsList W) : AgDoor W := ⟨Tryd.laysM146.s1_3 W hsh, aps_syn h, aps_tab h⟩
set_option maxRecDepth 100000 in
theorem ParseAgenda_lifted (os : Os) (started : os.Started) (H : Type) (enc : TypeId × Value → H) :
    ReturnsInHanded {} Tryd.checked os 4 .any (fun w args => (Rows.fnExactParseAgendaSpec.pre enc Tryd.prog Tryd.f4 [] false w args ∧ laidMetH Tryd.prog apsList w) ∧ sizedMet enc Tryd.prog Tryd.f4 (OpenSpec.ofChange Rows.fnExactParseAgendaSpec) false w args)
      (Rows.fnExactParseAgendaSpec.post enc Tryd.prog Tryd.f4 false true false false) := by
  refine returns_listed (C := Tryd.checked) (X := fun w _ => laidMetH Tryd.prog apsList w) (fun _ _ _ hh h => h.of_heap hh) own started (by kernel_rfl) Tryd.func4
    (ChangeSpec.witness_shaped (enc := enc) (C := Tryd.checked) (os := os) (X := fun w _ => laidMetH Tryd.prog apsList w) false (World.laidAll Tryd.prog os apsList) #[.string ⟨#[]⟩] 8 (World.laidAll_os _ _ _) (World.shaped_of_ZipB (by kernel_rfl) (by kernel_rfl)) (by kernel_rfl) (by kernel_rfl) (by kernel_rfl) (aps_door os _)) ?_
  intro W base args ds gs before hval0 hW hL hsh
  have hval : ∀ (j : Nat) t v, Tryd.f4.params[j]? = some t → args[j]? = some v → Value.okWide Tryd.prog W .any base t v := hval0
  have hW' := hW
  obtain ⟨p, q, hA, -⟩ := hW
  replace hA : DataW.TrodAll enc Tryd.prog W 0 (fun _ => true) true Tryd.f4.params.toList args.toList ds p := hA
  rw [Tryd.params4] at hA hval
  obtain ⟨v0, d0, rfl, rfl, h0⟩ := trodAll_one hA
  obtain ⟨s0, rfl, rfl, rfl, hs0⟩ := open_string Tryd.underlying9 (hval 0 9 v0 rfl rfl) h0
  exact My.law_step laidOut Tryd.underlying4 (by kernel_rfl) (by kernel_rfl) rfl (fun H ds hd => by match ds, hd with | [_], _ => rfl) hW' (law_ParseAgenda s0 W hs0 (aps_met hsh hL))
theorem ParseAgenda_holds : Rows.FnExactParseAgendaSaid :=
  OpenClaim.holds_of_wide 4 Tryd.f4 rfl rfl rfl rfl rfl rfl rfl ⟨rfl, rfl, rfl, rfl, rfl⟩ rfl rfl rfl rfl rfl (by kernel_rfl) Tryd.func4 (by kernel_rfl)
    (of_decide_eq_true (by kernel_rfl)) (by unfold Func.isWrapper; first | (rw [if_pos (by decide +kernel)]; kernel_rfl) | (rw [if_neg (by decide +kernel)]; exact ⟨rfl, rfl⟩))
    (fun os started H enc _ => ParseAgenda_lifted os started H enc)
theorem ParseAgenda_card : Rows.FnExactParseAgendaCardSaid :=
  Claim7.holds_tied_plain_at .later [] [.data, .data, .data, .data, .sentinel, .sentinel, .pinned] true (true, "f576661e4ca461d426da7b740a4a74808b18cd8374b55a2741975120bd13de8f") true
    ParseAgenda_holds (fun _ h => by cases h) (by kernel_rfl) (fun _ h => by cases h) fnExactParseAgenda_row_tie rfl ⟨rfl, rfl⟩ (by kernel_rfl) rfl
    (fun f fn hf hfn => by
      obtain rfl : f = 4 := Option.some.inj ((show Tryd.prog.funcNamed "loop.example/g00909/laws.FnExactParseAgenda" = some 4 by kernel_rfl).symm.trans hf) |>.symm
      obtain rfl : fn = Tryd.f4 := (Option.some.inj (Tryd.func4.symm.trans hfn)).symm
      exact ⟨by kernel_rfl, fun j t ht => by
        rw [Tryd.params4] at ht
        have hm : t ∈ [9] := by simpa using Array.mem_of_getElem? ht
        have hall : ([9].all fun u => !Tryd.prog.wantsStandIn u) = true := by kernel_rfl
        exact (show Tryd.prog.wantsStandIn t = false by simpa using List.all_eq_true.1 hall t hm)⟩)
    (by kernel_rfl)
end Go.Proofs.YtfpjelpbeicdoaaDoor

