/-
  FnExactIsValidRule, FnExactIsValidRules return true for every input and leave their arguments as they were. Conditions: none.
-/
import Derived.Test.YtfcpdiplmbagjaaRul
import Derived.Test.YtfcpdiplmbagjaaLaw
namespace Go.Proofs.Ytfcpdiplmbagjaa
open Go.RowKit Go.My Go.ChangeShapes Go.WideShapes Go.ChangeAt
open Go.ChangeMaps (open_string shut_string)

theorem own : ownKnob Try.prog.godebug = none := by kernel_rfl
theorem laidOut : laidOutB Try.prog = true := by kernel_rfl

theorem cell_below {w w' : World} {p : Addr} {v : Value} (h : w.cell? p = some v) (hb : Below w.heap.size w w') : w'.cell? p = some v := (hb.cell (World.block_lt_of_cell? w _ h)).trans h
theorem own_cap {w : World} {B : Nat} {e : TypeId} {size n c : Nat} {A : Option Addr} {cells : List Value} (h : w.ownsRow B e size (.slice A n c) n cells) : n ≤ c := by
  obtain ⟨A0, c0, e0, hnc⟩ := own_form h
  simp only [Value.slice.injEq, true_and] at e0
  obtain ⟨rfl, rfl⟩ := e0
  exact hnc

theorem open_Rul1 {H : Type} {enc : TypeId × Value → H} {w : World} {n : Nat} {cs : List Value} {x : DataW H × List MemPlace} (hx : DataW.trod enc Try.prog w 0 (fun _ => true) true n 23 cs = some x) : ∃ s : Rul, cs = s.cells ∧ s.name.size ≤ maxLen := by
  obtain ⟨hl, hf⟩ := trod_fields Try.underlying23 hx
  have cbool : Try.prog.cellsOf 4 = 1 := by kernel_rfl
  have cint : Try.prog.cellsOf 3 = 1 := by kernel_rfl
  have cstr : Try.prog.cellsOf 9 = 1 := by kernel_rfl
  rw [show Try.prog.cellsOf 23 = 7 by kernel_rfl] at hl
  match cs, hl with
  | [a0, a1, a2, a3, a4, a5, a6], _ =>
    simp only [List.mem_cons, List.not_mem_nil, or_false, forall_eq_or_imp, forall_eq, cbool, cint, cstr] at hf
    obtain ⟨⟨_, _, h0⟩, ⟨_, _, h1⟩, ⟨_, _, h2⟩, ⟨_, _, h3⟩, ⟨_, _, h4⟩, ⟨_, _, h5⟩, ⟨_, _, h6⟩⟩ := hf
    obtain ⟨n0, e0, _, w0⟩ := DataW.trod_int Try.underlying3 h0
    obtain ⟨n1, e1, _, w1⟩ := DataW.trod_string Try.underlying9 h1
    obtain ⟨n2, e2, _, w2⟩ := DataW.trod_int Try.underlying3 h2
    obtain ⟨n3, e3, _⟩ := DataW.trod_bool Try.underlying4 h3
    obtain ⟨n4, e4, _⟩ := DataW.trod_bool Try.underlying4 h4
    obtain ⟨n5, e5, _⟩ := DataW.trod_bool Try.underlying4 h5
    obtain ⟨n6, e6, _, w6⟩ := DataW.trod_int Try.underlying3 h6
    simp at e0 e1 e2 e3 e4 e5 e6
    subst e0 e1 e2 e3 e4 e5 e6
    exact ⟨⟨n0, n1, n2, n3, n4, n5, n6⟩, rfl, w1⟩
theorem open_Rul {H : Type} {enc : TypeId × Value → H} {w : World} {A : Option Addr} {len cap : Nat} {d : DataW H} {ps : List MemPlace} (h : DataW.Trod enc Try.prog w 0 (fun _ => true) true 29 (.slice A len cap) d ps) :
    ∃ xs : List Rul, xs.length = len ∧ len ≤ cap ∧ cap ≤ maxLen ∧ Rd w A (rulCells xs) ∧ ∀ s ∈ xs, s.name.size ≤ maxLen :=
  open_list Rul.cells (fun s => s.name.size ≤ maxLen) 7 (fun _ => rfl) (by decide) Try.underlying29 (by kernel_rfl) (fun n cs x hx => open_Rul1 hx) h
theorem open_Rulv {H : Type} {enc : TypeId × Value → H} {w : World} {base : Nat} {v : Value} {d : DataW H} {ps : List MemPlace} (hv : Value.okWide Try.prog w .any base 23 v) (h : DataW.Trod enc Try.prog w 0 (fun _ => true) true 23 v d ps) :
    ∃ s : Rul, v = .agg #[.int .i64 s.id, .string s.name, .int .i64 s.rank, .bool s.sec, .bool s.deb, .bool s.am, .int .i64 s.need] ∧ s.name.size ≤ maxLen := by
  obtain ⟨cs, rfl, _⟩ := okWide_struct Try.underlying23 hv
  obtain ⟨fuel, hfu⟩ := h
  obtain ⟨s, e, hs⟩ := open_Rul1 hfu
  refine ⟨s, ?_, hs⟩
  have e2 : cs.toList = s.cells := by simpa [Value.cells] using e
  rw [show cs = s.cells.toArray by rw [← e2]]
  rfl

set_option maxHeartbeats 2000000 in
set_option maxRecDepth 100000 in
theorem law_IsValidRule (s : Rul) (w : World) (hvs : s.name.size ≤ maxLen) :
    Calls Try.prog 3 #[.agg #[.int .i64 s.id, .string s.name, .int .i64 s.rank, .bool s.sec, .bool s.deb, .bool s.am, .int .i64 s.need]] w fun e w' => e = .returned (.bool true) ∧ Below w.heap.size w w' := by
  by_cases hy0 : 0 ≤ szStep (1048576) s.name.size
  rotate_left
  · go_enter Try.func3, Try.ntmps3
    go_wp2_with fail
    have hbw := bnew (Below.refl w.heap.size w) (.cells #[.int .i64 s.id, .string s.name, .int .i64 s.rank, .bool s.sec, .bool s.deb, .bool s.am, .int .i64 s.need] 23)
    have kz0 : (w.alloc (.cells #[.int .i64 s.id, .string s.name, .int .i64 s.rank, .bool s.sec, .bool s.deb, .bool s.am, .int .i64 s.need] 23)).cell? ⟨w.heap.size, 0, none⟩ = some (.int .i64 s.id) := (World.cell?_alloc_at _ _ _ _ rfl).trans rfl
    have kz1 : (w.alloc (.cells #[.int .i64 s.id, .string s.name, .int .i64 s.rank, .bool s.sec, .bool s.deb, .bool s.am, .int .i64 s.need] 23)).cell? ⟨w.heap.size, 1, none⟩ = some (.string s.name) := (World.cell?_alloc_at _ _ _ _ rfl).trans rfl
    have kz2 : (w.alloc (.cells #[.int .i64 s.id, .string s.name, .int .i64 s.rank, .bool s.sec, .bool s.deb, .bool s.am, .int .i64 s.need] 23)).cell? ⟨w.heap.size, 2, none⟩ = some (.int .i64 s.rank) := (World.cell?_alloc_at _ _ _ _ rfl).trans rfl
    have kz3 : (w.alloc (.cells #[.int .i64 s.id, .string s.name, .int .i64 s.rank, .bool s.sec, .bool s.deb, .bool s.am, .int .i64 s.need] 23)).cell? ⟨w.heap.size, 3, none⟩ = some (.bool s.sec) := (World.cell?_alloc_at _ _ _ _ rfl).trans rfl
    have kz4 : (w.alloc (.cells #[.int .i64 s.id, .string s.name, .int .i64 s.rank, .bool s.sec, .bool s.deb, .bool s.am, .int .i64 s.need] 23)).cell? ⟨w.heap.size, 4, none⟩ = some (.bool s.deb) := (World.cell?_alloc_at _ _ _ _ rfl).trans rfl
    have kz5 : (w.alloc (.cells #[.int .i64 s.id, .string s.name, .int .i64 s.rank, .bool s.sec, .bool s.deb, .bool s.am, .int .i64 s.need] 23)).cell? ⟨w.heap.size, 5, none⟩ = some (.bool s.am) := (World.cell?_alloc_at _ _ _ _ rfl).trans rfl
    have kz6 : (w.alloc (.cells #[.int .i64 s.id, .string s.name, .int .i64 s.rank, .bool s.sec, .bool s.deb, .bool s.am, .int .i64 s.need] 23)).cell? ⟨w.heap.size, 6, none⟩ = some (.int .i64 s.need) := (World.cell?_alloc_at _ _ _ _ rfl).trans rfl
    generalize w.alloc (.cells #[.int .i64 s.id, .string s.name, .int .i64 s.rank, .bool s.sec, .bool s.deb, .bool s.am, .int .i64 s.need] 23) = W0 at *
    have kv0 := kz0
    have kv1 := kz1
    have kv2 := kz2
    have kv3 := kz3
    have kv4 := kz4
    have kv5 := kz5
    have kv6 := kz6
    replace kz0 := Lib.hid kz0
    replace kz1 := Lib.hid kz1
    replace kz2 := Lib.hid kz2
    replace kz3 := Lib.hid kz3
    replace kz4 := Lib.hid kz4
    replace kz5 := Lib.hid kz5
    replace kz6 := Lib.hid kz6
    have hb := Below.refl W0.heap.size W0
    go_wp2_with fail
    refine (szRule_any s (1048576) _ (by omega) (by omega) hvs).mono ?_
    rintro e w1 ⟨rfl, hb2⟩
    replace hb := btr hb hb2; clear hb2
    replace kv0 := cell_below kz0.out hb
    replace kv1 := cell_below kz1.out hb
    replace kv2 := cell_below kz2.out hb
    replace kv3 := cell_below kz3.out hb
    replace kv4 := cell_below kz4.out hb
    replace kv5 := cell_below kz5.out hb
    replace kv6 := cell_below kz6.out hb
    go_wp2_with fail
    go_ret
    exact ⟨rfl, btr hbw hb⟩
  have hl0 := szStep_ok hy0
  obtain ⟨r, hr⟩ : ∃ r, r = (rulOk s) := ⟨_, rfl⟩
  have Hs : Hid (∀ (w1 : World), Calls Try.prog 10 #[.agg #[.int .i64 s.id, .string s.name, .int .i64 s.rank, .bool s.sec, .bool s.deb, .bool s.am, .int .i64 s.need]] w1 fun e w' => e = .returned (.bool r) ∧ Below w1.heap.size w1 w') := by
    subst hr; exact fun w1   => specRule_any s w1 hvs
  have Hi : Hid (∀ (w1 : World), Calls Try.prog 12 #[.agg #[.int .i64 s.id, .string s.name, .int .i64 s.rank, .bool s.sec, .bool s.deb, .bool s.am, .int .i64 s.need]] w1 fun e w' => e = .returned (.bool r) ∧ Below w1.heap.size w1 w') := by
    subst hr; exact fun w1   => isRule_any s w1 hvs
  clear hr
  go_enter Try.func3, Try.ntmps3
  go_wp2_with fail
  have hbw := bnew (Below.refl w.heap.size w) (.cells #[.int .i64 s.id, .string s.name, .int .i64 s.rank, .bool s.sec, .bool s.deb, .bool s.am, .int .i64 s.need] 23)
  have kz0 : (w.alloc (.cells #[.int .i64 s.id, .string s.name, .int .i64 s.rank, .bool s.sec, .bool s.deb, .bool s.am, .int .i64 s.need] 23)).cell? ⟨w.heap.size, 0, none⟩ = some (.int .i64 s.id) := (World.cell?_alloc_at _ _ _ _ rfl).trans rfl
  have kz1 : (w.alloc (.cells #[.int .i64 s.id, .string s.name, .int .i64 s.rank, .bool s.sec, .bool s.deb, .bool s.am, .int .i64 s.need] 23)).cell? ⟨w.heap.size, 1, none⟩ = some (.string s.name) := (World.cell?_alloc_at _ _ _ _ rfl).trans rfl
  have kz2 : (w.alloc (.cells #[.int .i64 s.id, .string s.name, .int .i64 s.rank, .bool s.sec, .bool s.deb, .bool s.am, .int .i64 s.need] 23)).cell? ⟨w.heap.size, 2, none⟩ = some (.int .i64 s.rank) := (World.cell?_alloc_at _ _ _ _ rfl).trans rfl
  have kz3 : (w.alloc (.cells #[.int .i64 s.id, .string s.name, .int .i64 s.rank, .bool s.sec, .bool s.deb, .bool s.am, .int .i64 s.need] 23)).cell? ⟨w.heap.size, 3, none⟩ = some (.bool s.sec) := (World.cell?_alloc_at _ _ _ _ rfl).trans rfl
  have kz4 : (w.alloc (.cells #[.int .i64 s.id, .string s.name, .int .i64 s.rank, .bool s.sec, .bool s.deb, .bool s.am, .int .i64 s.need] 23)).cell? ⟨w.heap.size, 4, none⟩ = some (.bool s.deb) := (World.cell?_alloc_at _ _ _ _ rfl).trans rfl
  have kz5 : (w.alloc (.cells #[.int .i64 s.id, .string s.name, .int .i64 s.rank, .bool s.sec, .bool s.deb, .bool s.am, .int .i64 s.need] 23)).cell? ⟨w.heap.size, 5, none⟩ = some (.bool s.am) := (World.cell?_alloc_at _ _ _ _ rfl).trans rfl
  have kz6 : (w.alloc (.cells #[.int .i64 s.id, .string s.name, .int .i64 s.rank, .bool s.sec, .bool s.deb, .bool s.am, .int .i64 s.need] 23)).cell? ⟨w.heap.size, 6, none⟩ = some (.int .i64 s.need) := (World.cell?_alloc_at _ _ _ _ rfl).trans rfl
  generalize w.alloc (.cells #[.int .i64 s.id, .string s.name, .int .i64 s.rank, .bool s.sec, .bool s.deb, .bool s.am, .int .i64 s.need] 23) = W0 at *
  have kv0 := kz0
  have kv1 := kz1
  have kv2 := kz2
  have kv3 := kz3
  have kv4 := kz4
  have kv5 := kz5
  have kv6 := kz6
  replace kz0 := Lib.hid kz0
  replace kz1 := Lib.hid kz1
  replace kz2 := Lib.hid kz2
  replace kz3 := Lib.hid kz3
  replace kz4 := Lib.hid kz4
  replace kz5 := Lib.hid kz5
  replace kz6 := Lib.hid kz6
  have hb := Below.refl W0.heap.size W0
  go_wp2_with fail
  refine (szRule_any s (1048576) _ (by omega) (by omega) hvs).mono ?_
  rintro e w1 ⟨rfl, hb2⟩
  replace hb := btr hb hb2; clear hb2
  replace kv0 := cell_below kz0.out hb
  replace kv1 := cell_below kz1.out hb
  replace kv2 := cell_below kz2.out hb
  replace kv3 := cell_below kz3.out hb
  replace kv4 := cell_below kz4.out hb
  replace kv5 := cell_below kz5.out hb
  replace kv6 := cell_below kz6.out hb
  go_wp2_with fail
  refine (toRule_any s _).mono ?_
  rintro e w2 ⟨rfl, hb2⟩
  replace hb := btr hb hb2
  replace kv0 := cell_below kz0.out hb
  replace kv1 := cell_below kz1.out hb
  replace kv2 := cell_below kz2.out hb
  replace kv3 := cell_below kz3.out hb
  replace kv4 := cell_below kz4.out hb
  replace kv5 := cell_below kz5.out hb
  replace kv6 := cell_below kz6.out hb
  clear hb2
  go_wp2_with fail
  refine (Hs.out _  ).mono ?_
  rintro e w3 ⟨rfl, hb2⟩
  replace hb := btr hb hb2
  replace kv0 := cell_below kz0.out hb
  replace kv1 := cell_below kz1.out hb
  replace kv2 := cell_below kz2.out hb
  replace kv3 := cell_below kz3.out hb
  replace kv4 := cell_below kz4.out hb
  replace kv5 := cell_below kz5.out hb
  replace kv6 := cell_below kz6.out hb
  clear hb2
  go_wp2_with fail
  refine (toRule_any s _).mono ?_
  rintro e w4 ⟨rfl, hb2⟩
  replace hb := btr hb hb2
  replace kv0 := cell_below kz0.out hb
  replace kv1 := cell_below kz1.out hb
  replace kv2 := cell_below kz2.out hb
  replace kv3 := cell_below kz3.out hb
  replace kv4 := cell_below kz4.out hb
  replace kv5 := cell_below kz5.out hb
  replace kv6 := cell_below kz6.out hb
  clear hb2
  go_wp2_with fail
  refine (Hi.out _  ).mono ?_
  rintro e w5 ⟨rfl, hb2⟩
  replace hb := btr hb hb2
  replace kv0 := cell_below kz0.out hb
  replace kv1 := cell_below kz1.out hb
  replace kv2 := cell_below kz2.out hb
  replace kv3 := cell_below kz3.out hb
  replace kv4 := cell_below kz4.out hb
  replace kv5 := cell_below kz5.out hb
  replace kv6 := cell_below kz6.out hb
  clear hb2
  go_wp2_with fail
  go_ret
  exact ⟨rfl, btr hbw hb⟩

set_option maxRecDepth 100000 in
theorem law_IsValidRule_lifted (os : Os) (started : os.Started) (H : Type) (enc : TypeId × Value → H) :
    ReturnsInHanded {} Try.checked os 3 .any (Rows.fnExactIsValidRuleSpec.pre6 enc Try.prog Try.f3 Rows.fnExactIsValidRuleRow.domain false) (Rows.fnExactIsValidRuleSpec.post enc Try.prog Try.f3 false true false false) := by
  refine returnsInHanded_of_change (C := Try.checked) own started (by kernel_rfl) Try.func3
    (ChangeSpec.witness6 (enc := enc) (C := Try.checked) false ⟨#[], #[.agg #[.int .i64 0, .string ⟨#[]⟩, .int .i64 0, .bool false, .bool false, .bool false, .int .i64 0]], []⟩ 8 (by kernel_rfl) (by kernel_rfl) (by kernel_rfl) (by kernel_rfl)) ?_
  intro W base args ds gs before hval0 hW _ _
  have hval : ∀ (j : Nat) t v, Try.f3.params[j]? = some t → args[j]? = some v → Value.okWide Try.prog W .any base t v := hval0
  have hW' := hW
  obtain ⟨p, q, hA, -⟩ := hW
  replace hA : DataW.TrodAll enc Try.prog W 0 (fun _ => true) true Try.f3.params.toList args.toList ds p := hA
  rw [Try.params3] at hA hval
  obtain ⟨v0, d0, rfl, rfl, h0⟩ := trodAll_one hA
  obtain ⟨s, rfl, hvs⟩ := open_Rulv (hval 0 23 v0 rfl rfl) h0
  exact My.law_step laidOut Try.underlying4 (by kernel_rfl) (by kernel_rfl) rfl (fun H ds hd => by match ds, hd with | [_], _ => rfl) hW' (law_IsValidRule s W hvs)
theorem law_IsValidRule_holds : Rows.FnExactIsValidRuleSaid :=
  OpenClaim.holds_of_wide 3 Try.f3 rfl rfl rfl rfl rfl rfl rfl ⟨rfl, rfl, rfl, rfl, rfl⟩ rfl rfl rfl rfl rfl (by kernel_rfl) Try.func3 (by kernel_rfl)
    (of_decide_eq_true (by kernel_rfl)) (by unfold Func.isWrapper; first | (rw [if_pos (by decide +kernel)]; kernel_rfl) | (rw [if_neg (by decide +kernel)]; exact ⟨rfl, rfl⟩))
    (fun os started H enc _ => law_IsValidRule_lifted os started H enc)

set_option maxHeartbeats 2000000 in
set_option maxRecDepth 100000 in
theorem law_IsValidRules (Axs : Option Addr) (cxs : Nat) (xs : List Rul) (w : World) (hnxs : xs.length ≤ maxLen) (hxxs : Rd w Axs (rulCells xs)) (hsxs : ∀ s ∈ xs, s.name.size ≤ maxLen) :
    Calls Try.prog 4 #[.slice Axs xs.length cxs] w fun e w' => e = .returned (.bool true) ∧ Below w.heap.size w w' := by
  have hb := Below.refl w.heap.size w
  by_cases hy0 : 0 ≤ rulSz (1048576) xs
  rotate_left
  · go_enter Try.func4, Try.ntmps4
    go_wp2_with fail
    refine (szRuleS_any Axs cxs xs (1048576) _ (by omega) (by omega) hnxs (hxxs.below hb) hsxs).mono ?_
    rintro e w1 ⟨rfl, hb2⟩
    replace hb := btr hb hb2; clear hb2
    go_wp2_with fail
    go_ret
    exact ⟨rfl, hb⟩
  obtain ⟨hl0, znxs, zsxs⟩ := rulSz_ok hy0
  have hkxs : xs.length ≤ 1048576 := by omega
  obtain ⟨r, hr⟩ : ∃ r, r = (goodRul xs) := ⟨_, rfl⟩
  have Hs : Hid (∀ (w1 : World) (Axs1 : Option Addr) (cxs1 : Nat), xs.length ≤ cxs1 → Rd w1 Axs1 (rulCells xs) → Calls Try.prog 14 #[.slice Axs1 xs.length cxs1] w1 fun e w' => e = .returned (.bool r) ∧ Below w1.heap.size w1 w') := by
    subst hr; exact fun w1 Axs1 cxs1 hkxs1 hxs1 => specRules_any Axs1 cxs1 xs w1 hnxs hkxs1 hxs1 hsxs
  have Hi : Hid (∀ (w1 : World) (Axs1 : Option Addr) (cxs1 : Nat), xs.length ≤ cxs1 → Rd w1 Axs1 (rulCells xs) → Calls Try.prog 16 #[.slice Axs1 xs.length cxs1] w1 fun e w' => e = .returned (.bool r) ∧ Below w1.heap.size w1 w') := by
    subst hr; exact fun w1 Axs1 cxs1 hkxs1 hxs1 => isRules_any Axs1 cxs1 xs w1 hnxs hkxs1 hxs1 hsxs
  clear hr
  have Hsmxs := Lib.hid hsxs; clear hsxs
  clear zsxs
  go_enter Try.func4, Try.ntmps4
  go_wp2_with fail
  refine (szRuleS_any Axs cxs xs (1048576) _ (by omega) (by omega) hnxs (hxxs.below hb) Hsmxs.out).mono ?_
  rintro e w1 ⟨rfl, hb2⟩
  replace hb := btr hb hb2; clear hb2
  go_wp2_with fail
  refine (toRuleS_any Axs cxs xs _ hkxs (hxxs.below hb)).mono ?_
  rintro e w2 ⟨Axss, cxss, rfl, hoxss, hb2⟩
  replace hoxss := own_base hoxss hb.size
  replace hb := btr hb hb2
  clear hb2
  go_wp2_with fail
  refine (Hs.out _ _ _ (own_cap hoxss) (own_rd hoxss)).mono ?_
  rintro e w3 ⟨rfl, hb2⟩
  replace hb := btr hb hb2
  replace hoxss := own_below hoxss hb2
  clear hb2
  clear hoxss
  go_wp2_with fail
  refine (toRuleS_any Axs cxs xs _ hkxs (hxxs.below hb)).mono ?_
  rintro e w4 ⟨Axsx, cxsx, rfl, hoxsx, hb2⟩
  replace hoxsx := own_base hoxsx hb.size
  replace hb := btr hb hb2
  clear hb2
  go_wp2_with fail
  refine (Hi.out _ _ _ (own_cap hoxsx) (own_rd hoxsx)).mono ?_
  rintro e w5 ⟨rfl, hb2⟩
  replace hb := btr hb hb2
  replace hoxsx := own_below hoxsx hb2
  clear hb2
  go_wp2_with fail
  refine (toRuleS_any Axs cxs xs _ hkxs (hxxs.below hb)).mono ?_
  rintro e w6 ⟨Axst, cxst, rfl, hoxst, hb2⟩
  have hap_xsx_xst := apart_new hoxsx hoxst; have hap_xst_xsx := apart_symm hap_xsx_xst
  replace hoxst := own_base hoxst hb.size
  replace hb := btr hb hb2
  replace hoxsx := own_below hoxsx hb2
  clear hb2
  go_wp2_with fail
  refine (eqRuleS_same Axsx Axst cxsx cxst xs _ hnxs (own_rd hoxsx) (own_rd hoxst)).mono ?_
  rintro e w7 ⟨rfl, hb2⟩
  replace hb := btr hb hb2
  replace hoxsx := own_below hoxsx hb2
  replace hoxst := own_below hoxst hb2
  clear hb2
  clear hoxst
  clear hap_xsx_xst hap_xst_xsx
  go_wp2_with fail
  go_ret
  exact ⟨rfl, hb⟩

set_option maxRecDepth 100000 in
theorem law_IsValidRules_lifted (os : Os) (started : os.Started) (H : Type) (enc : TypeId × Value → H) :
    ReturnsInHanded {} Try.checked os 4 .any (Rows.fnExactIsValidRulesSpec.pre6 enc Try.prog Try.f4 Rows.fnExactIsValidRulesRow.domain false) (Rows.fnExactIsValidRulesSpec.post enc Try.prog Try.f4 false true false false) := by
  refine returnsInHanded_of_change (C := Try.checked) own started (by kernel_rfl) Try.func4
    (ChangeSpec.witness6 (enc := enc) (C := Try.checked) false ⟨#[], #[.slice none 0 0], []⟩ 8 (by kernel_rfl) (by kernel_rfl) (by kernel_rfl) (by kernel_rfl)) ?_
  intro W base args ds gs before hval0 hW _ _
  have hval : ∀ (j : Nat) t v, Try.f4.params[j]? = some t → args[j]? = some v → Value.okWide Try.prog W .any base t v := hval0
  have hW' := hW
  obtain ⟨p, q, hA, -⟩ := hW
  replace hA : DataW.TrodAll enc Try.prog W 0 (fun _ => true) true Try.f4.params.toList args.toList ds p := hA
  rw [Try.params4] at hA hval
  obtain ⟨v0, d0, rfl, rfl, h0⟩ := trodAll_one hA
  obtain ⟨Axs, lenxs, capxs, rfl⟩ := okWide_slice Try.underlying29 (hval 0 29 v0 rfl rfl)
  obtain ⟨xs, rfl, hlcxs, hcmxs, hxxs, hokxs⟩ := open_Rul h0
  exact My.law_step laidOut Try.underlying4 (by kernel_rfl) (by kernel_rfl) rfl (fun H ds hd => by match ds, hd with | [_], _ => rfl) hW' (law_IsValidRules Axs capxs xs W (Nat.le_trans hlcxs hcmxs) hxxs (fun s hs => hokxs s hs))
theorem law_IsValidRules_holds : Rows.FnExactIsValidRulesSaid :=
  OpenClaim.holds_of_wide 4 Try.f4 rfl rfl rfl rfl rfl rfl rfl ⟨rfl, rfl, rfl, rfl, rfl⟩ rfl rfl rfl rfl rfl (by kernel_rfl) Try.func4 (by kernel_rfl)
    (of_decide_eq_true (by kernel_rfl)) (by unfold Func.isWrapper; first | (rw [if_pos (by decide +kernel)]; kernel_rfl) | (rw [if_neg (by decide +kernel)]; exact ⟨rfl, rfl⟩))
    (fun os started H enc _ => law_IsValidRules_lifted os started H enc)

end Go.Proofs.Ytfcpdiplmbagjaa
