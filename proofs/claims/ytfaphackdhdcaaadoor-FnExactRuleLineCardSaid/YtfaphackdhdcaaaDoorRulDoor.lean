/-
  FnExactRuleLine, FnExactRulesText: the laws' walks, the rows over the laid tables, and their tied cards. Conditions: none beyond the rows' own.
-/
import Derived.Test.YtfaphackdhdcaaaDoorRulTxt
import Derived.Test.YtfaphackdhdcaaaDoorLaw
import Derived.Test.YtfaphackdhdcaaaDoorRows
import Derived.Test.YtfaphackdhdcaaaDoorCards
import Derived.Test.YtfaphackdhdcaaaDoorTie
import Derived.ProofKit
import Derived.LaidMore
import Derived.OpenShut
import Derived.Stop.Joined
import Derived.Stop.LaidErr
import Derived.HandedShaped
import Derived.SevenTiedAt
import Derived.Lib.LaidTab
import Derived.OpenVars
namespace Go.My
open Go.RowKit
/-- An array of strings that reads as texts holds them, cell for cell. -/
theorem strs_of_tab {H : Type} {enc : TypeId × Value → H} {P : Program} {w : World} {base : Nat} {sp : Nat → Bool} {held : Bool} {fuel : Nat} {t e : TypeId} {n : Nat} {cs : List Value} {ls : List (List UInt8)} {p : List MemPlace}
    (ht : P.underlying t = some (.array n e)) (he : P.underlying e = some .string) (hce : P.cellsOf e = 1) (hct : P.cellsOf t = n)
    (h : DataW.trod enc P w base sp held fuel t cs = some (.agg (ls.map fun l => .lit (.string l)), p)) : ∀ (i : Nat) (l : List UInt8), ls[i]? = some l → ∃ s : ByteArray, cs[i]? = some (.string s) ∧ s.data.toList = l := by
  intro i l hl
  cases fuel with
  | zero => simp [DataW.trod] at h
  | succ fuel =>
    simp only [DataW.trod, ht, hce, hct, Nat.mul_one] at h
    split at h
    · obtain ⟨xs, hm, hx⟩ := Option.map_eq_some_iff.1 h
      have hxs : xs.map (·.1) = ls.map fun l => (DataW.lit (.string l) : DataW H) := by
        have := congrArg Prod.fst hx
        simpa using this
      have hxl : xs.length = n := by simpa using Lib.mapM_length hm
      have hzl : ls.length = n := by
        have := congrArg List.length hxs
        simp at this
        omega
      have hi : i < n := by have := (List.getElem?_eq_some_iff.1 hl).1; omega
      obtain ⟨b, hb, hf⟩ := Lib.mapM_at hm i i (by simp [hi])
      obtain ⟨s, hc, rfl, _⟩ := DataW.trod_string he hf
      refine ⟨s, ?_, ?_⟩
      · have := congrArg (·[0]?) hc
        simpa [List.getElem?_take, List.getElem?_drop] using this
      · have h2 : (xs.map (·.1))[i]? = some (DataW.lit (.string s.data.toList) : DataW H) := by simp [hb]
        rw [hxs] at h2
        simp only [List.getElem?_map, hl, Option.map_some, Option.some.injEq, DataW.lit.injEq, Lit.string.injEq] at h2
        exact h2.symm
    · cases h
end Go.My
namespace Go.My
open Go.ChangeShapes Go.WideShapes Go.ChangeAt Go.RowKit
/-- The condition on a law's specification that names variables: it says true, and that arguments and variables read as they did. -/
def SaysTrueV (s : ChangeSpec) (n m : Nat) : Prop := ∀ (H : Type) (ds gs : List (DataW H)), ds.length = n → gs.length = m → s.fn H (ds ++ gs) = { results := [.lit (.bool true)], args := ds, vars := gs }
theorem trodVars_length {H : Type} {enc : TypeId × Value → H} {P : Program} {W : World} {sp : Nat → Bool} : ∀ {ns : List String} {gs : List (DataW H)} {ps : List MemPlace}, DataW.TrodVars enc P W sp ns gs ps → gs.length = ns.length
  | [], [], _, _ => rfl
  | [], _ :: _, _, h => h.elim
  | _ :: _, [], _, h => h.elim
  | _ :: ns, _ :: gs, _, h => by
    obtain ⟨g, t, cs, fuel, p, q, _, _, _, _, hs, _⟩ := h
    simp [trodVars_length hs]
theorem law_step_vars {H : Type} {enc : TypeId × Value → H} {P : Program} {fn : Func} {s : ChangeSpec} {T : TypeId} (hl : laidOutB P = true) (hT : P.underlying T = some .bool) (hres : fn.resultTypes = #[T])
    (hpar : (fn.params.toList.all fun t => P.readableRec t && decide (t < P.types.size)) = true) (hvars : varsRowed P s.vars = true) (hsays : SaysTrueV s fn.params.toList.length s.vars.length)
    {f : FuncId} {W : World} {args : Array Value} {ds gs : List (DataW H)} {before : List MemPlace} (hW : DataW.Whole enc P fn.params.toList s.vars false W args.toList ds gs before)
    (walk : Calls P f args W fun e w' => e = .returned (.bool true) ∧ Below W.heap.size W w') :
    Calls P f args W fun e W' => ∃ v, e = .returned v ∧ s.post enc P fn false true false false W args v W' := by
  refine walk.mono fun e W' ⟨he, hb⟩ => ⟨_, he, ?_⟩
  have hW0 := hW
  obtain ⟨p, q, hA, hV, rfl, hfz, hnd⟩ := hW
  have e0 : s.fn H (ds ++ gs) = { results := [.lit (.bool true)], args := ds, vars := gs } := hsays H ds gs (trodAll_length hA) (trodVars_length hV)
  have hlt : ∀ x ∈ p, x.block < W.heap.size := fun x hx => hA.lt x hx
  refine ⟨ds, gs, p ++ q, [], p, q, hW0, ?_, ?_, ?_, hb.frame _, fun h => by cases h⟩
  · rw [e0, hres]
    exact trodAll_mk1 (shut_bool hT true)
  · rw [e0]
    exact trodAll_below hl hb hpar hA hlt
  · rw [e0]
    exact Below.trodVars hl hb hvars hV
end Go.My
namespace Go.Proofs.YtfaphackdhdcaaaDoor
open Go.ChangeMaps (open_string shut_string)
open Go.ChangeShapes Go.WideShapes Go.ChangeAt Go.WideMaps Go.WideElems Go.RowKit Go.My
theorem cell_below {w w' : World} {p : Addr} {v : Value} (h : w.cell? p = some v) (hb : Below w.heap.size w w') : w'.cell? p = some v := (hb.cell (World.block_lt_of_cell? w _ h)).trans h
theorem own_cap {w : World} {B : Nat} {e : TypeId} {size n c : Nat} {A : Option Addr} {cells : List Value} (h : w.ownsRow B e size (.slice A n c) n cells) : n ≤ c := by
  obtain ⟨A0, c0, e0, hnc⟩ := own_form h
  simp only [Value.slice.injEq, true_and] at e0
  obtain ⟨rfl, rfl⟩ := e0
  exact hnc
def RulDoor (w : World) : Prop := NeedAt w 0
theorem RulDoor.below {w w' : World} (h : RulDoor w) (hb : Below w.heap.size w w') : RulDoor w' := NeedAt.below h hb
set_option maxRecDepth 100000 in
theorem open_Rul1 {H : Type} {enc : TypeId × Value → H} {w : World} {n : Nat} {cs : List Value} {x : DataW H × List MemPlace} (hx : DataW.trod enc Tryd.prog w 0 (fun _ => true) true n 23 cs = some x) : ∃ s : Rul, cs = s.cells ∧ s.name.size ≤ maxLen := by
  obtain ⟨hl, hf⟩ := trod_fields Tryd.underlying23 hx
  have cbool : Tryd.prog.cellsOf 4 = 1 := by kernel_rfl
  have cint : Tryd.prog.cellsOf 3 = 1 := by kernel_rfl
  have cstr : Tryd.prog.cellsOf 9 = 1 := by kernel_rfl
  rw [show Tryd.prog.cellsOf 23 = 7 by kernel_rfl] at hl
  match cs, hl with
  | [a0, a1, a2, a3, a4, a5, a6], _ =>
    simp only [List.mem_cons, List.not_mem_nil, or_false, forall_eq_or_imp, forall_eq, cbool, cint, cstr] at hf
    obtain ⟨⟨_, _, h0⟩, ⟨_, _, h1⟩, ⟨_, _, h2⟩, ⟨_, _, h3⟩, ⟨_, _, h4⟩, ⟨_, _, h5⟩, ⟨_, _, h6⟩⟩ := hf
    obtain ⟨n0, e0, _, w0⟩ := DataW.trod_int Tryd.underlying3 h0
    obtain ⟨n1, e1, _, w1⟩ := DataW.trod_string Tryd.underlying9 h1
    obtain ⟨n2, e2, _, w2⟩ := DataW.trod_int Tryd.underlying3 h2
    obtain ⟨n3, e3, _⟩ := DataW.trod_bool Tryd.underlying4 h3
    obtain ⟨n4, e4, _⟩ := DataW.trod_bool Tryd.underlying4 h4
    obtain ⟨n5, e5, _⟩ := DataW.trod_bool Tryd.underlying4 h5
    obtain ⟨n6, e6, _, w6⟩ := DataW.trod_int Tryd.underlying3 h6
    simp at e0 e1 e2 e3 e4 e5 e6
    subst e0 e1 e2 e3 e4 e5 e6
    exact ⟨⟨n0, n1, n2, n3, n4, n5, n6⟩, rfl, w1⟩
theorem open_Rul {H : Type} {enc : TypeId × Value → H} {w : World} {A : Option Addr} {len cap : Nat} {d : DataW H} {ps : List MemPlace} (h : DataW.Trod enc Tryd.prog w 0 (fun _ => true) true 30 (.slice A len cap) d ps) :
    ∃ xs : List Rul, xs.length = len ∧ len ≤ cap ∧ cap ≤ maxLen ∧ Rd w A (rulCells xs) ∧ ∀ s ∈ xs, s.name.size ≤ maxLen :=
  open_list Rul.cells (fun s => s.name.size ≤ maxLen) 7 (fun _ => rfl) (by decide) Tryd.underlying30 (by kernel_rfl) (fun n cs x hx => open_Rul1 hx) h
set_option maxRecDepth 100000 in
theorem open_Rulv {H : Type} {enc : TypeId × Value → H} {w : World} {base : Nat} {v : Value} {d : DataW H} {ps : List MemPlace} (hv : Value.okWide Tryd.prog w .any base 23 v) (h : DataW.Trod enc Tryd.prog w 0 (fun _ => true) true 23 v d ps) :
    ∃ s : Rul, v = .agg #[.int .i64 s.id, .string s.name, .int .i64 s.rank, .bool s.sec, .bool s.deb, .bool s.am, .int .i64 s.need] ∧ s.name.size ≤ maxLen := by
  obtain ⟨cs, rfl, _⟩ := okWide_struct Tryd.underlying23 hv
  obtain ⟨fuel, hfu⟩ := h
  obtain ⟨s, e, hs⟩ := open_Rul1 hfu
  refine ⟨s, ?_, hs⟩
  have e2 : cs.toList = s.cells := by simpa [Value.cells] using e
  rw [show cs = s.cells.toArray by rw [← e2]]
  rfl
set_option maxHeartbeats 2000000 in
set_option maxRecDepth 100000 in
theorem law_RuleLine (s : Rul) (w : World) (hvs : s.name.size ≤ maxLen) (hdoor : RulDoor w) :
    Calls Tryd.prog 3 #[.agg #[.int .i64 s.id, .string s.name, .int .i64 s.rank, .bool s.sec, .bool s.deb, .bool s.am, .int .i64 s.need]] w fun e w' => e = .returned (.bool true) ∧ Below w.heap.size w w' := by
  by_cases hy0 : 0 ≤ szStep (1048576) s.name.size
  rotate_left
  · go_enter Tryd.func3, Tryd.ntmps3
    go_wp2_with fail
    have hbw := bnew (Below.refl w.heap.size w) (.cells #[.int .i64 s.id, .string s.name, .int .i64 s.rank, .bool s.sec, .bool s.deb, .bool s.am, .int .i64 s.need] 23)
    have kz0 : (w.alloc (.cells #[.int .i64 s.id, .string s.name, .int .i64 s.rank, .bool s.sec, .bool s.deb, .bool s.am, .int .i64 s.need] 23)).cell? ⟨w.heap.size, 0, none⟩ = some (.int .i64 s.id) := (World.cell?_alloc_at _ _ _ _ rfl).trans rfl
    have kz1 : (w.alloc (.cells #[.int .i64 s.id, .string s.name, .int .i64 s.rank, .bool s.sec, .bool s.deb, .bool s.am, .int .i64 s.need] 23)).cell? ⟨w.heap.size, 1, none⟩ = some (.string s.name) := (World.cell?_alloc_at _ _ _ _ rfl).trans rfl
    have kz2 : (w.alloc (.cells #[.int .i64 s.id, .string s.name, .int .i64 s.rank, .bool s.sec, .bool s.deb, .bool s.am, .int .i64 s.need] 23)).cell? ⟨w.heap.size, 2, none⟩ = some (.int .i64 s.rank) := (World.cell?_alloc_at _ _ _ _ rfl).trans rfl
    have kz3 : (w.alloc (.cells #[.int .i64 s.id, .string s.name, .int .i64 s.rank, .bool s.sec, .bool s.deb, .bool s.am, .int .i64 s.need] 23)).cell? ⟨w.heap.size, 3, none⟩ = some (.bool s.sec) := (World.cell?_alloc_at _ _ _ _ rfl).trans rfl
    have kz4 : (w.alloc (.cells #[.int .i64 s.id, .string s.name, .int .i64 s.rank, .bool s.sec, .bool s.deb, .bool s.am, .int .i64 s.need] 23)).cell? ⟨w.heap.size, 4, none⟩ = some (.bool s.deb) := (World.cell?_alloc_at _ _ _ _ rfl).trans rfl
    have kz5 : (w.alloc (.cells #[.int .i64 s.id, .string s.name, .int .i64 s.rank, .bool s.sec, .bool s.deb, .bool s.am, .int .i64 s.need] 23)).cell? ⟨w.heap.size, 5, none⟩ = some (.bool s.am) := (World.cell?_alloc_at _ _ _ _ rfl).trans rfl
    have kz6 : (w.alloc (.cells #[.int .i64 s.id, .string s.name, .int .i64 s.rank, .bool s.sec, .bool s.deb, .bool s.am, .int .i64 s.need] 23)).cell? ⟨w.heap.size, 6, none⟩ = some (.int .i64 s.need) := (World.cell?_alloc_at _ _ _ _ rfl).trans rfl
    generalize w.alloc (.cells #[.int .i64 s.id, .string s.name, .int .i64 s.rank, .bool s.sec, .bool s.deb, .bool s.am, .int .i64 s.need] 23) = W0 at *
    have kv0 := kz0
    have kv1 := kz1
    have kv2 := kz2
    have kv3 := kz3
    have kv4 := kz4
    have kv5 := kz5
    have kv6 := kz6
    replace kz0 := Lib.hid kz0
    replace kz1 := Lib.hid kz1
    replace kz2 := Lib.hid kz2
    replace kz3 := Lib.hid kz3
    replace kz4 := Lib.hid kz4
    replace kz5 := Lib.hid kz5
    replace kz6 := Lib.hid kz6
    have hb := Below.refl W0.heap.size W0
    go_wp2_with fail
    refine (szRule_any s (1048576) _ (by omega) (by omega) hvs).mono ?_
    rintro e w1 ⟨rfl, hb2⟩
    replace hb := btr hb hb2; clear hb2
    replace kv0 := cell_below kz0.out hb
    replace kv1 := cell_below kz1.out hb
    replace kv2 := cell_below kz2.out hb
    replace kv3 := cell_below kz3.out hb
    replace kv4 := cell_below kz4.out hb
    replace kv5 := cell_below kz5.out hb
    replace kv6 := cell_below kz6.out hb
    go_wp2_with fail
    go_ret
    exact ⟨rfl, btr hbw hb⟩
  have hl0 := szStep_ok hy0
  obtain ⟨r, hr⟩ : ∃ r, r = (lineR s) := ⟨_, rfl⟩
  have Hs : Hid (∀ (w1 : World), Calls Tryd.prog 9 #[.agg #[.int .i64 s.id, .string s.name, .int .i64 s.rank, .bool s.sec, .bool s.deb, .bool s.am, .int .i64 s.need]] w1 fun e w' => e = .returned (.tuple #[.string r.1, .bool r.2]) ∧ Below w1.heap.size w1 w') := by
    subst hr; exact fun w1   => specLine_any s w1 hvs
  have Hi : Hid (∀ (w1 : World), RulDoor w1 → Calls Tryd.prog 11 #[.agg #[.int .i64 s.id, .string s.name, .int .i64 s.rank, .bool s.sec, .bool s.deb, .bool s.am, .int .i64 s.need]] w1 fun e w' => e = .returned (.tuple #[.string r.1, .bool r.2]) ∧ Below w1.heap.size w1 w') := by
    subst hr; exact fun w1   hq1 => implLine_any s w1 hvs hq1
  clear hr
  go_enter Tryd.func3, Tryd.ntmps3
  go_wp2_with fail
  have hbw := bnew (Below.refl w.heap.size w) (.cells #[.int .i64 s.id, .string s.name, .int .i64 s.rank, .bool s.sec, .bool s.deb, .bool s.am, .int .i64 s.need] 23)
  have kz0 : (w.alloc (.cells #[.int .i64 s.id, .string s.name, .int .i64 s.rank, .bool s.sec, .bool s.deb, .bool s.am, .int .i64 s.need] 23)).cell? ⟨w.heap.size, 0, none⟩ = some (.int .i64 s.id) := (World.cell?_alloc_at _ _ _ _ rfl).trans rfl
  have kz1 : (w.alloc (.cells #[.int .i64 s.id, .string s.name, .int .i64 s.rank, .bool s.sec, .bool s.deb, .bool s.am, .int .i64 s.need] 23)).cell? ⟨w.heap.size, 1, none⟩ = some (.string s.name) := (World.cell?_alloc_at _ _ _ _ rfl).trans rfl
  have kz2 : (w.alloc (.cells #[.int .i64 s.id, .string s.name, .int .i64 s.rank, .bool s.sec, .bool s.deb, .bool s.am, .int .i64 s.need] 23)).cell? ⟨w.heap.size, 2, none⟩ = some (.int .i64 s.rank) := (World.cell?_alloc_at _ _ _ _ rfl).trans rfl
  have kz3 : (w.alloc (.cells #[.int .i64 s.id, .string s.name, .int .i64 s.rank, .bool s.sec, .bool s.deb, .bool s.am, .int .i64 s.need] 23)).cell? ⟨w.heap.size, 3, none⟩ = some (.bool s.sec) := (World.cell?_alloc_at _ _ _ _ rfl).trans rfl
  have kz4 : (w.alloc (.cells #[.int .i64 s.id, .string s.name, .int .i64 s.rank, .bool s.sec, .bool s.deb, .bool s.am, .int .i64 s.need] 23)).cell? ⟨w.heap.size, 4, none⟩ = some (.bool s.deb) := (World.cell?_alloc_at _ _ _ _ rfl).trans rfl
  have kz5 : (w.alloc (.cells #[.int .i64 s.id, .string s.name, .int .i64 s.rank, .bool s.sec, .bool s.deb, .bool s.am, .int .i64 s.need] 23)).cell? ⟨w.heap.size, 5, none⟩ = some (.bool s.am) := (World.cell?_alloc_at _ _ _ _ rfl).trans rfl
  have kz6 : (w.alloc (.cells #[.int .i64 s.id, .string s.name, .int .i64 s.rank, .bool s.sec, .bool s.deb, .bool s.am, .int .i64 s.need] 23)).cell? ⟨w.heap.size, 6, none⟩ = some (.int .i64 s.need) := (World.cell?_alloc_at _ _ _ _ rfl).trans rfl
  generalize w.alloc (.cells #[.int .i64 s.id, .string s.name, .int .i64 s.rank, .bool s.sec, .bool s.deb, .bool s.am, .int .i64 s.need] 23) = W0 at *
  have kv0 := kz0
  have kv1 := kz1
  have kv2 := kz2
  have kv3 := kz3
  have kv4 := kz4
  have kv5 := kz5
  have kv6 := kz6
  replace kz0 := Lib.hid kz0
  replace kz1 := Lib.hid kz1
  replace kz2 := Lib.hid kz2
  replace kz3 := Lib.hid kz3
  replace kz4 := Lib.hid kz4
  replace kz5 := Lib.hid kz5
  replace kz6 := Lib.hid kz6
  have hb := Below.refl W0.heap.size W0
  have hdoorW := hdoor.below hbw
  go_wp2_with fail
  refine (szRule_any s (1048576) _ (by omega) (by omega) hvs).mono ?_
  rintro e w1 ⟨rfl, hb2⟩
  replace hb := btr hb hb2; clear hb2
  replace kv0 := cell_below kz0.out hb
  replace kv1 := cell_below kz1.out hb
  replace kv2 := cell_below kz2.out hb
  replace kv3 := cell_below kz3.out hb
  replace kv4 := cell_below kz4.out hb
  replace kv5 := cell_below kz5.out hb
  replace kv6 := cell_below kz6.out hb
  go_wp2_with fail
  refine (toRule_any s _).mono ?_
  rintro e w2 ⟨rfl, hb2⟩
  replace hb := btr hb hb2
  replace kv0 := cell_below kz0.out hb
  replace kv1 := cell_below kz1.out hb
  replace kv2 := cell_below kz2.out hb
  replace kv3 := cell_below kz3.out hb
  replace kv4 := cell_below kz4.out hb
  replace kv5 := cell_below kz5.out hb
  replace kv6 := cell_below kz6.out hb
  clear hb2
  go_wp2_with fail
  refine (Hs.out _  ).mono ?_
  rintro e w3 ⟨rfl, hb2⟩
  replace hb := btr hb hb2
  replace kv0 := cell_below kz0.out hb
  replace kv1 := cell_below kz1.out hb
  replace kv2 := cell_below kz2.out hb
  replace kv3 := cell_below kz3.out hb
  replace kv4 := cell_below kz4.out hb
  replace kv5 := cell_below kz5.out hb
  replace kv6 := cell_below kz6.out hb
  clear hb2
  go_wp2_with fail
  refine (toRule_any s _).mono ?_
  rintro e w4 ⟨rfl, hb2⟩
  replace hb := btr hb hb2
  replace kv0 := cell_below kz0.out hb
  replace kv1 := cell_below kz1.out hb
  replace kv2 := cell_below kz2.out hb
  replace kv3 := cell_below kz3.out hb
  replace kv4 := cell_below kz4.out hb
  replace kv5 := cell_below kz5.out hb
  replace kv6 := cell_below kz6.out hb
  clear hb2
  go_wp2_with fail
  refine (Hi.out _   (hdoorW.below hb)).mono ?_
  rintro e w5 ⟨rfl, hb2⟩
  replace hb := btr hb hb2
  replace kv0 := cell_below kz0.out hb
  replace kv1 := cell_below kz1.out hb
  replace kv2 := cell_below kz2.out hb
  replace kv3 := cell_below kz3.out hb
  replace kv4 := cell_below kz4.out hb
  replace kv5 := cell_below kz5.out hb
  replace kv6 := cell_below kz6.out hb
  clear hb2
  go_wp2_with fail
  go_ret
  exact ⟨rfl, btr hbw hb⟩
set_option maxHeartbeats 2000000 in
set_option maxRecDepth 100000 in
theorem law_RulesText (Axs : Option Addr) (cxs : Nat) (xs : List Rul) (w : World) (hnxs : xs.length ≤ maxLen) (hxxs : Rd w Axs (rulCells xs)) (hsxs : ∀ s ∈ xs, s.name.size ≤ maxLen) (hdoor : RulDoor w) :
    Calls Tryd.prog 4 #[.slice Axs xs.length cxs] w fun e w' => e = .returned (.bool true) ∧ Below w.heap.size w w' := by
  have hb := Below.refl w.heap.size w
  by_cases hy0 : 0 ≤ rulSz (1048576) xs
  rotate_left
  · go_enter Tryd.func4, Tryd.ntmps4
    go_wp2_with fail
    refine (szRuleS_any Axs cxs xs (1048576) _ (by omega) (by omega) hnxs (hxxs.below hb) hsxs).mono ?_
    rintro e w1 ⟨rfl, hb2⟩
    replace hb := btr hb hb2; clear hb2
    go_wp2_with fail
    go_ret
    exact ⟨rfl, hb⟩
  obtain ⟨hl0, znxs, zsxs⟩ := rulSz_ok hy0
  have hkxs : xs.length ≤ 1048576 := by omega
  obtain ⟨r, hr⟩ : ∃ r, r = (textR xs) := ⟨_, rfl⟩
  have Hs : Hid (∀ (w1 : World) (Axs1 : Option Addr) (cxs1 : Nat), xs.length ≤ cxs1 → Rd w1 Axs1 (rulCells xs) → Calls Tryd.prog 13 #[.slice Axs1 xs.length cxs1] w1 fun e w' => e = .returned (.tuple #[.string r.1, .bool r.2]) ∧ Below w1.heap.size w1 w') := by
    subst hr; exact fun w1 Axs1 cxs1 hkxs1 hxs1 => specText_any Axs1 cxs1 xs w1 hnxs hkxs1 hxs1 hsxs
  have Hi : Hid (∀ (w1 : World) (Axs1 : Option Addr) (cxs1 : Nat), xs.length ≤ cxs1 → Rd w1 Axs1 (rulCells xs) → RulDoor w1 → Calls Tryd.prog 15 #[.slice Axs1 xs.length cxs1] w1 fun e w' => e = .returned (.tuple #[.string r.1, .bool r.2]) ∧ Below w1.heap.size w1 w') := by
    subst hr; exact fun w1 Axs1 cxs1 hkxs1 hxs1 hq1 => implText_any Axs1 cxs1 xs w1 hnxs hkxs1 hxs1 hsxs hq1
  clear hr
  have Hsmxs := Lib.hid hsxs; clear hsxs
  clear zsxs
  go_enter Tryd.func4, Tryd.ntmps4
  have hdoorW := hdoor
  go_wp2_with fail
  refine (szRuleS_any Axs cxs xs (1048576) _ (by omega) (by omega) hnxs (hxxs.below hb) Hsmxs.out).mono ?_
  rintro e w1 ⟨rfl, hb2⟩
  replace hb := btr hb hb2; clear hb2
  go_wp2_with fail
  refine (toRuleS_any Axs cxs xs _ hkxs (hxxs.below hb)).mono ?_
  rintro e w2 ⟨Axss, cxss, rfl, hoxss, hb2⟩
  replace hoxss := own_base hoxss hb.size
  replace hb := btr hb hb2
  clear hb2
  go_wp2_with fail
  refine (Hs.out _ _ _ (own_cap hoxss) (own_rd hoxss)).mono ?_
  rintro e w3 ⟨rfl, hb2⟩
  replace hb := btr hb hb2
  replace hoxss := own_below hoxss hb2
  clear hb2
  clear hoxss
  go_wp2_with fail
  refine (toRuleS_any Axs cxs xs _ hkxs (hxxs.below hb)).mono ?_
  rintro e w4 ⟨Axsx, cxsx, rfl, hoxsx, hb2⟩
  replace hoxsx := own_base hoxsx hb.size
  replace hb := btr hb hb2
  clear hb2
  go_wp2_with fail
  refine (Hi.out _ _ _ (own_cap hoxsx) (own_rd hoxsx) (hdoorW.below hb)).mono ?_
  rintro e w5 ⟨rfl, hb2⟩
  replace hb := btr hb hb2
  replace hoxsx := own_below hoxsx hb2
  clear hb2
  go_wp2_with fail
  refine (toRuleS_any Axs cxs xs _ hkxs (hxxs.below hb)).mono ?_
  rintro e w6 ⟨Axst, cxst, rfl, hoxst, hb2⟩
  have hap_xsx_xst := apart_new hoxsx hoxst; have hap_xst_xsx := apart_symm hap_xsx_xst
  replace hoxst := own_base hoxst hb.size
  replace hb := btr hb hb2
  replace hoxsx := own_below hoxsx hb2
  clear hb2
  go_wp2_with fail
  refine (eqRuleS_same Axsx Axst cxsx cxst xs _ hnxs (own_rd hoxsx) (own_rd hoxst)).mono ?_
  rintro e w7 ⟨rfl, hb2⟩
  replace hb := btr hb hb2
  replace hoxsx := own_below hoxsx hb2
  replace hoxst := own_below hoxst hb2
  clear hb2
  clear hoxst
  clear hap_xsx_xst hap_xst_xsx
  go_wp2_with fail
  go_ret
  exact ⟨rfl, hb⟩
theorem own : ownKnob Tryd.prog.godebug = none := by kernel_rfl
theorem laidOut : laidOutB Tryd.prog = true := by kernel_rfl
/-- The wrap, with what the row lists and the world's shape both kept. -/
theorem returns_listed {H : Type} {enc : TypeId × Value → H} {a : Assume} {C : Checked} {os : Os} {f : FuncId} {fn : Func} {s : ChangeSpec} {conds : List PathCond} {apart fresh handsOn again : Bool} {X : World → Array Value → Prop}
    (hX : ∀ (w w' : World) (args : Array Value), w.heap = w'.heap → X w args → X w' args)
    (own : ownKnob C.prog.godebug = none) (started : os.Started) (noInit : C.prog.inits.idxOf? f = none) (hfn : C.prog.funcs[f]? = some fn)
    (witness : ∃ (w : World) (tape : Tape) (i : Input), w.os = os ∧ (w.forCall tape i).Shaped C.prog ∧ i.vars = [] ∧ Input.okWide C.prog (w.forCall tape i) .any w.heap.size f i ∧
      ((s.pre enc C.prog fn conds apart (w.forCall tape i).memory i.args ∧ X (w.forCall tape i).memory i.args) ∧ sizedMet enc C.prog fn (OpenSpec.ofChange s) apart (w.forCall tape i).memory i.args) ∧ a.holds C.prog (lone (Frame.enter C.prog f i.args .normal) [] (w.forCall tape i)))
    (contract : ∀ (W : World) (base : Nat) (args : Array Value) (ds gs : List (DataW H)) (before : List MemPlace),
      (∀ (j : Nat) t v, fn.params[j]? = some t → args[j]? = some v → Value.okWide C.prog W .any base t v) →
      DataW.Whole enc C.prog fn.params.toList s.vars apart W args.toList ds gs before → X W args → W.ShapedOpen C.prog →
      Calls C.prog f args W fun e W' => ∃ v, e = .returned v ∧ s.post enc C.prog fn apart fresh handsOn again W args v W') :
    ReturnsInHanded a C os f .any (fun w args => (s.pre enc C.prog fn conds apart w args ∧ X w args) ∧ sizedMet enc C.prog fn (OpenSpec.ofChange s) apart w args) (s.post enc C.prog fn apart fresh handsOn again) := by
  refine returnsInHanded_of_calls own started noInit witness ?_
  intro w tape i _ hsh _ hok hpre _
  obtain ⟨_, _, _, g, hg, _, _, _, _, hval⟩ := hok
  obtain rfl := Option.some.inj (hg.symm.trans hfn)
  obtain ⟨⟨⟨ds, gs, before, hw, _⟩, hx⟩, _⟩ := hpre
  refine (contract (w.forCall tape i) w.heap.size i.args ds gs before hval (DataW.Whole.of_heap (w' := w.forCall tape i) (by rfl) hw) (hX _ _ _ (by rfl) hx) hsh).mono fun e W' h => ?_
  obtain ⟨v, he, hp⟩ := h
  subst he
  exact ChangeSpec.post_blind hp
def linList : List (String × DataW Unit) := [("math/bits.deBruijn32tab", Rows.laid_math_bits_deBruijn32tab), ("math/bits.deBruijn64tab", Rows.laid_math_bits_deBruijn64tab), ("internal/strconv.uint64pow10", Rows.laid_internal_strconv_uint64pow10), ("loop.example/g00909/impl.needWords", Rows.laid_loop_example_g00909_impl_needWords)]
theorem lin_plain {W : World} (h : laidMetH Tryd.prog linList W) : laidMet Tryd.prog linList W := by
  rw [MakeChecks.laidMetH_plain _ _ _ (by kernel_rfl)] at h; exact h
set_option maxRecDepth 100000 in
theorem lin_door (os : Os) (args : Array Value) : laidMetH Tryd.prog linList ((World.doorLaid Tryd.prog 400 os).forCall (fun _ _ => 0) ⟨#[], args, []⟩).memory :=
  laidMetH_of_parts3 (fuel := 8) (laidMet_of_run' 8 (by kernel_rfl) (by kernel_rfl)) (by kernel_rfl) (by kernel_rfl)
set_option maxRecDepth 100000 in
theorem lin_strs {W : World} (h : laidMetH Tryd.prog linList W) : ∀ (i : Nat) (l : List UInt8), ([[], [109, 97, 106, 111, 114, 105, 116, 121], [116, 119, 111, 45, 116, 104, 105, 114, 100, 115], [97, 108, 108]] : List (List UInt8))[i]? = some l → ∃ s : ByteArray, W.cell? ⟨0, i, none⟩ = some (.string s) ∧ s.data.toList = l := by
  obtain ⟨ps, ⟨g0, t0, cs0, f0, p0, q0, hg0, ht0, hv0, hd0, ⟨g1, t1, cs1, f1, p1, q1, hg1, ht1, hv1, hd1, ⟨g2, t2, cs2, f2, p2, q2, hg2, ht2, hv2, hd2, ⟨g3, t3, cs3, f3, p3, q3, hg3, ht3, hv3, hd3, _, _⟩, _⟩, _⟩, _⟩, _, _⟩ := lin_plain h
  have e1 : g3 = 0 := Option.some.inj (hg3.symm.trans (by kernel_rfl))
  subst e1
  have e2 : t3 = 59 := Option.some.inj (ht3.symm.trans (by kernel_rfl))
  subst e2
  intro i l hl
  obtain ⟨s, h1, h2⟩ := strs_of_tab (ls := [[], [109, 97, 106, 111, 114, 105, 116, 121], [116, 119, 111, 45, 116, 104, 105, 114, 100, 115], [97, 108, 108]]) Tryd.underlying59 Tryd.underlying9 (by kernel_rfl) (by kernel_rfl) hd3 i l hl
  exact ⟨s, by rw [World.var?_cell (P := Tryd.prog) (by kernel_rfl) hv3 i]; simpa using h1, h2⟩
theorem lin_met {W : World} (h : laidMetH Tryd.prog linList W) : RulDoor W := by
  intro k hk
  obtain ⟨s, h1, h2⟩ := lin_strs h k (needW k).data.toList (by match k, hk with | 0, _ => rfl | 1, _ => rfl | 2, _ => rfl | 3, _ => rfl)
  rw [h1, ba_ext h2]
set_option maxRecDepth 100000 in
theorem RuleLine_lifted (os : Os) (started : os.Started) (H : Type) (enc : TypeId × Value → H) :
    ReturnsInHanded {} Tryd.checked os 3 .any (fun w args => (Rows.fnExactRuleLineSpec.pre enc Tryd.prog Tryd.f3 [] false w args ∧ laidMetH Tryd.prog linList w) ∧ sizedMet enc Tryd.prog Tryd.f3 (OpenSpec.ofChange Rows.fnExactRuleLineSpec) false w args)
      (Rows.fnExactRuleLineSpec.post enc Tryd.prog Tryd.f3 false true false false) := by
  refine returns_listed (C := Tryd.checked) (X := fun w _ => laidMetH Tryd.prog linList w) (fun _ _ _ hh h => h.of_heap hh) own started (by kernel_rfl) Tryd.func3
    (ChangeSpec.witness_shaped (enc := enc) (C := Tryd.checked) (os := os) (X := fun w _ => laidMetH Tryd.prog linList w) false (World.doorLaid Tryd.prog 400 os) #[.agg #[.int .i64 0, .string ⟨#[]⟩, .int .i64 0, .bool false, .bool false, .bool false, .int .i64 0]] 8 rfl (World.shaped_of_RefB (by kernel_rfl) (by kernel_rfl)) (by kernel_rfl) (by kernel_rfl) (by kernel_rfl) (lin_door os _)) ?_
  intro W base args ds gs before hval0 hW hL hsh
  have hval : ∀ (j : Nat) t v, Tryd.f3.params[j]? = some t → args[j]? = some v → Value.okWide Tryd.prog W .any base t v := hval0
  have hW' := hW
  obtain ⟨p, q, hA, -⟩ := hW
  replace hA : DataW.TrodAll enc Tryd.prog W 0 (fun _ => true) true Tryd.f3.params.toList args.toList ds p := hA
  rw [Tryd.params3] at hA hval
  obtain ⟨v0, d0, rfl, rfl, h0⟩ := trodAll_one hA
  obtain ⟨s, rfl, hvs⟩ := open_Rulv (hval 0 23 v0 rfl rfl) h0
  exact My.law_step_vars laidOut Tryd.underlying4 (by kernel_rfl) (by kernel_rfl) (by kernel_rfl) (fun H ds gs hd hg => by match ds, hd, gs, hg with | [_], _, [_], _ => rfl) hW' (law_RuleLine s W hvs (lin_met hL))
theorem RuleLine_holds : Rows.FnExactRuleLineSaid :=
  OpenClaim.holds_of_wide 3 Tryd.f3 rfl rfl rfl rfl rfl rfl rfl ⟨rfl, rfl, rfl, rfl, rfl⟩ rfl rfl rfl rfl rfl (by kernel_rfl) Tryd.func3 (by kernel_rfl)
    (of_decide_eq_true (by kernel_rfl)) (by unfold Func.isWrapper; first | (rw [if_pos (by decide +kernel)]; kernel_rfl) | (rw [if_neg (by decide +kernel)]; exact ⟨rfl, rfl⟩))
    (fun os started H enc _ => RuleLine_lifted os started H enc)
theorem RuleLine_card : Rows.FnExactRuleLineCardSaid :=
  Claim7.holds_tied_plain_at .later [] [.data, .data, .data, .widerDeep] true (true, "7405e5b9004a61d15711dc88bc58e1db06fdfb470b8421830b06204959870b35") true
    RuleLine_holds (fun _ h => by cases h) (by kernel_rfl) (fun _ h => by cases h) fnExactRuleLine_row_tie rfl ⟨rfl, rfl⟩ (by kernel_rfl) rfl
    (fun f fn hf hfn => by
      obtain rfl : f = 3 := Option.some.inj ((show Tryd.prog.funcNamed "loop.example/g00909/laws.FnExactRuleLine" = some 3 by kernel_rfl).symm.trans hf) |>.symm
      obtain rfl : fn = Tryd.f3 := (Option.some.inj (Tryd.func3.symm.trans hfn)).symm
      exact ⟨by kernel_rfl, fun j t ht => by
        rw [Tryd.params3] at ht
        have hm : t ∈ [23] := by simpa using Array.mem_of_getElem? ht
        have hall : ([23].all fun u => !Tryd.prog.wantsStandIn u) = true := by kernel_rfl
        exact (show Tryd.prog.wantsStandIn t = false by simpa using List.all_eq_true.1 hall t hm)⟩)
    (by kernel_rfl)
set_option maxRecDepth 100000 in
theorem RulesText_lifted (os : Os) (started : os.Started) (H : Type) (enc : TypeId × Value → H) :
    ReturnsInHanded {} Tryd.checked os 4 .any (fun w args => (Rows.fnExactRulesTextSpec.pre enc Tryd.prog Tryd.f4 [] false w args ∧ laidMetH Tryd.prog linList w) ∧ sizedMet enc Tryd.prog Tryd.f4 (OpenSpec.ofChange Rows.fnExactRulesTextSpec) false w args)
      (Rows.fnExactRulesTextSpec.post enc Tryd.prog Tryd.f4 false true false false) := by
  refine returns_listed (C := Tryd.checked) (X := fun w _ => laidMetH Tryd.prog linList w) (fun _ _ _ hh h => h.of_heap hh) own started (by kernel_rfl) Tryd.func4
    (ChangeSpec.witness_shaped (enc := enc) (C := Tryd.checked) (os := os) (X := fun w _ => laidMetH Tryd.prog linList w) false (World.doorLaid Tryd.prog 400 os) #[.slice none 0 0] 8 rfl (World.shaped_of_RefB (by kernel_rfl) (by kernel_rfl)) (by kernel_rfl) (by kernel_rfl) (by kernel_rfl) (lin_door os _)) ?_
  intro W base args ds gs before hval0 hW hL hsh
  have hval : ∀ (j : Nat) t v, Tryd.f4.params[j]? = some t → args[j]? = some v → Value.okWide Tryd.prog W .any base t v := hval0
  have hW' := hW
  obtain ⟨p, q, hA, -⟩ := hW
  replace hA : DataW.TrodAll enc Tryd.prog W 0 (fun _ => true) true Tryd.f4.params.toList args.toList ds p := hA
  rw [Tryd.params4] at hA hval
  obtain ⟨v0, d0, rfl, rfl, h0⟩ := trodAll_one hA
  obtain ⟨A0, len0, cap0, rfl⟩ := okWide_slice Tryd.underlying30 (hval 0 30 v0 rfl rfl)
  obtain ⟨xs, rfl, hlc, hcm, hx, hok⟩ := open_Rul h0
  exact My.law_step_vars laidOut Tryd.underlying4 (by kernel_rfl) (by kernel_rfl) (by kernel_rfl) (fun H ds gs hd hg => by match ds, hd, gs, hg with | [_], _, [_], _ => rfl) hW' (law_RulesText A0 cap0 xs W (Nat.le_trans hlc hcm) hx (fun s hs => hok s hs) (lin_met hL))
theorem RulesText_holds : Rows.FnExactRulesTextSaid :=
  OpenClaim.holds_of_wide 4 Tryd.f4 rfl rfl rfl rfl rfl rfl rfl ⟨rfl, rfl, rfl, rfl, rfl⟩ rfl rfl rfl rfl rfl (by kernel_rfl) Tryd.func4 (by kernel_rfl)
    (of_decide_eq_true (by kernel_rfl)) (by unfold Func.isWrapper; first | (rw [if_pos (by decide +kernel)]; kernel_rfl) | (rw [if_neg (by decide +kernel)]; exact ⟨rfl, rfl⟩))
    (fun os started H enc _ => RulesText_lifted os started H enc)
theorem RulesText_card : Rows.FnExactRulesTextCardSaid :=
  Claim7.holds_tied_plain_at .later [] [.data, .data, .data, .widerDeep] true (true, "7405e5b9004a61d15711dc88bc58e1db06fdfb470b8421830b06204959870b35") true
    RulesText_holds (fun _ h => by cases h) (by kernel_rfl) (fun _ h => by cases h) fnExactRulesText_row_tie rfl ⟨rfl, rfl⟩ (by kernel_rfl) rfl
    (fun f fn hf hfn => by
      obtain rfl : f = 4 := Option.some.inj ((show Tryd.prog.funcNamed "loop.example/g00909/laws.FnExactRulesText" = some 4 by kernel_rfl).symm.trans hf) |>.symm
      obtain rfl : fn = Tryd.f4 := (Option.some.inj (Tryd.func4.symm.trans hfn)).symm
      exact ⟨by kernel_rfl, fun j t ht => by
        rw [Tryd.params4] at ht
        have hm : t ∈ [30] := by simpa using Array.mem_of_getElem? ht
        have hall : ([30].all fun u => !Tryd.prog.wantsStandIn u) = true := by kernel_rfl
        exact (show Tryd.prog.wantsStandIn t = false by simpa using List.all_eq_true.1 hall t hm)⟩)
    (by kernel_rfl)
end Go.Proofs.YtfaphackdhdcaaaDoor

