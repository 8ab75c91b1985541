/-
  FnRules returns true for every input: the walk, the row over the laid variables, and its tied card. Conditions: none beyond the row's own.
-/
import Derived.Test.YtfaphackdhdcaaaDoorFnRuD
import Derived.Test.YtfaphackdhdcaaaDoorLaw
import Derived.Test.YtfaphackdhdcaaaDoorRows
import Derived.Test.YtfaphackdhdcaaaDoorCards
import Derived.Test.YtfaphackdhdcaaaDoorTie
import Derived.ProofKit
import Derived.LaidMore
import Derived.OpenShut
import Derived.Stop.Joined
import Derived.Stop.LaidErr
import Derived.HandedShaped
import Derived.SevenTiedAt
import Derived.Lib.LaidTab
import Derived.OpenVars
import Derived.Lay
import Derived.LaidOnce
namespace Go.My
open Go.RowKit
/-- An array of strings that reads as texts holds them, cell for cell. -/
theorem strs_of_tab {H : Type} {enc : TypeId × Value → H} {P : Program} {w : World} {base : Nat} {sp : Nat → Bool} {held : Bool} {fuel : Nat} {t e : TypeId} {n : Nat} {cs : List Value} {ls : List (List UInt8)} {p : List MemPlace}
    (ht : P.underlying t = some (.array n e)) (he : P.underlying e = some .string) (hce : P.cellsOf e = 1) (hct : P.cellsOf t = n)
    (h : DataW.trod enc P w base sp held fuel t cs = some (.agg (ls.map fun l => .lit (.string l)), p)) : ∀ (i : Nat) (l : List UInt8), ls[i]? = some l → ∃ s : ByteArray, cs[i]? = some (.string s) ∧ s.data.toList = l := by
  intro i l hl
  cases fuel with
  | zero => simp [DataW.trod] at h
  | succ fuel =>
    simp only [DataW.trod, ht, hce, hct, Nat.mul_one] at h
    split at h
    · obtain ⟨xs, hm, hx⟩ := Option.map_eq_some_iff.1 h
      have hxs : xs.map (·.1) = ls.map fun l => (DataW.lit (.string l) : DataW H) := by
        have := congrArg Prod.fst hx
        simpa using this
      have hxl : xs.length = n := by simpa using Lib.mapM_length hm
      have hzl : ls.length = n := by
        have := congrArg List.length hxs
        simp at this
        omega
      have hi : i < n := by have := (List.getElem?_eq_some_iff.1 hl).1; omega
      obtain ⟨b, hb, hf⟩ := Lib.mapM_at hm i i (by simp [hi])
      obtain ⟨s, hc, rfl, _⟩ := DataW.trod_string he hf
      refine ⟨s, ?_, ?_⟩
      · have := congrArg (·[0]?) hc
        simpa [List.getElem?_take, List.getElem?_drop] using this
      · have h2 : (xs.map (·.1))[i]? = some (DataW.lit (.string s.data.toList) : DataW H) := by simp [hb]
        rw [hxs] at h2
        simp only [List.getElem?_map, hl, Option.map_some, Option.some.injEq, DataW.lit.injEq, Lit.string.injEq] at h2
        exact h2.symm
    · cases h
end Go.My
namespace Go.My
open Go.ChangeShapes Go.WideShapes Go.ChangeAt Go.RowKit
/-- The condition on a law's specification that names variables: it says true, and that arguments and variables read as they did. -/
def SaysTrueV (s : ChangeSpec) (n m : Nat) : Prop := ∀ (H : Type) (ds gs : List (DataW H)), ds.length = n → gs.length = m → s.fn H (ds ++ gs) = { results := [.lit (.bool true)], args := ds, vars := gs }
theorem trodVars_length {H : Type} {enc : TypeId × Value → H} {P : Program} {W : World} {sp : Nat → Bool} : ∀ {ns : List String} {gs : List (DataW H)} {ps : List MemPlace}, DataW.TrodVars enc P W sp ns gs ps → gs.length = ns.length
  | [], [], _, _ => rfl
  | [], _ :: _, _, h => h.elim
  | _ :: _, [], _, h => h.elim
  | _ :: ns, _ :: gs, _, h => by
    obtain ⟨g, t, cs, fuel, p, q, _, _, _, _, hs, _⟩ := h
    simp [trodVars_length hs]
theorem law_step_vars {H : Type} {enc : TypeId × Value → H} {P : Program} {fn : Func} {s : ChangeSpec} {T : TypeId} (hl : laidOutB P = true) (hT : P.underlying T = some .bool) (hres : fn.resultTypes = #[T])
    (hpar : (fn.params.toList.all fun t => P.readableRec t && decide (t < P.types.size)) = true) (hvars : varsRowed P s.vars = true) (hsays : SaysTrueV s fn.params.toList.length s.vars.length)
    {f : FuncId} {W : World} {args : Array Value} {ds gs : List (DataW H)} {before : List MemPlace} (hW : DataW.Whole enc P fn.params.toList s.vars false W args.toList ds gs before)
    (walk : Calls P f args W fun e w' => e = .returned (.bool true) ∧ Below W.heap.size W w') :
    Calls P f args W fun e W' => ∃ v, e = .returned v ∧ s.post enc P fn false true false false W args v W' := by
  refine walk.mono fun e W' ⟨he, hb⟩ => ⟨_, he, ?_⟩
  have hW0 := hW
  obtain ⟨p, q, hA, hV, rfl, hfz, hnd⟩ := hW
  have e0 : s.fn H (ds ++ gs) = { results := [.lit (.bool true)], args := ds, vars := gs } := hsays H ds gs (trodAll_length hA) (trodVars_length hV)
  have hlt : ∀ x ∈ p, x.block < W.heap.size := fun x hx => hA.lt x hx
  refine ⟨ds, gs, p ++ q, [], p, q, hW0, ?_, ?_, ?_, hb.frame _, fun h => by cases h⟩
  · rw [e0, hres]
    exact trodAll_mk1 (shut_bool hT true)
  · rw [e0]
    exact trodAll_below hl hb hpar hA hlt
  · rw [e0]
    exact Below.trodVars hl hb hvars hV
end Go.My
namespace Go.My
open Go.RowKit
def codeCells (xs : List Int) : List Value := xs.map (Value.int .u8)
theorem rdCode_of {w : World} {A : Option Addr} {xs : List Int} (h : Rd w A (codeCells xs)) (hb : ∀ x ∈ xs, 0 ≤ x ∧ x < 256) : RdCode w A xs.length := by
  rcases h with h | ⟨b, off, rfl, hc⟩
  · left; cases xs with | nil => rfl | cons x xs => simp [codeCells] at h
  · refine .inr ⟨b, off, rfl, fun j hj => ⟨xs[j], (hb _ (List.getElem_mem hj)).1, (hb _ (List.getElem_mem hj)).2, ?_⟩⟩
    have := hc j (by simpa [codeCells] using hj)
    rw [this]; simp [codeCells]
theorem lineR_yes {r : Rul} (h : rulOk r = true) : lineR r = (lineB r, true) := if_pos h
theorem lineR_no {r : Rul} (h : rulOk r = false) : lineR r = (⟨#[]⟩, false) := if_neg (by rw [h]; decide)
end Go.My
namespace Go.Proofs.YtfaphackdhdcaaaDoor
open Go.ChangeMaps (open_string shut_string)
open Go.ChangeShapes Go.WideShapes Go.ChangeAt Go.WideMaps Go.WideElems Go.RowKit Go.My
theorem codeCells_flat (xs : List Int) : xs.flatMap (fun x => [Value.int .u8 x]) = codeCells xs := by
  induction xs with
  | nil => rfl
  | cons x r ih => simp [codeCells] at ih ⊢; exact ih
theorem open_Code {H : Type} {enc : TypeId × Value → H} {w : World} {A : Option Addr} {len cap : Nat} {d : DataW H} {ps : List MemPlace} (h : DataW.Trod enc Tryd.prog w 0 (fun _ => true) true 44 (.slice A len cap) d ps) :
    ∃ xs : List Int, xs.length = len ∧ len ≤ cap ∧ cap ≤ maxLen ∧ Rd w A (codeCells xs) ∧ ∀ b ∈ xs, 0 ≤ b ∧ b < 256 := by
  obtain ⟨xs, h1, h2, h3, h4, h5⟩ := open_list (fun x : Int => [Value.int .u8 x]) (fun b => 0 ≤ b ∧ b < 256) 1 (fun _ => rfl) (by decide) Tryd.underlying44 (by kernel_rfl) (fun n cs x hx => by
    obtain ⟨n1, e1, _, w1⟩ := DataW.trod_int Tryd.underlying5 hx
    refine ⟨n1, e1, ?_⟩
    simp [Lit.wf, IntKind.min, IntKind.max, IntKind.signed, IntKind.bits] at w1
    omega) h
  exact ⟨xs, h1, h2, h3, by rw [← codeCells_flat]; exact h4, h5⟩
theorem big_any (A : Option Addr) (n c : Nat) (w : World) : Calls Tryd.prog 24 #[.slice A n c] w fun e w' => e = .returned (.bool (decide ((65536 : Int) < n))) ∧ w = w' := by
  go_enter Tryd.func24, Tryd.ntmps24
  go_wp2
  go_ret
  exact ⟨rfl, rfl⟩
set_option maxHeartbeats 8000000 in
set_option maxRecDepth 100000 in
theorem law_FnRules (A : Option Addr) (c : Nat) (code : List Int) (w : World) (hn : code.length ≤ maxLen) (hx : Rd w A (codeCells code)) (hok : ∀ b ∈ code, 0 ≤ b ∧ b < 256) (hdoor : ParDoor w) :
    Calls Tryd.prog 7 #[.slice A code.length c] w fun e w' => e = .returned (.bool true) ∧ Below w.heap.size w w' := by
  have HR := Lib.hid (rdCode_of hx hok)
  clear hx hok
  by_cases hbig : 65536 < code.length
  · have hbI : decide ((65536 : Int) < (code.length : Int)) = true := by simp; omega
    go_enter Tryd.func7, Tryd.ntmps7
    go_wp2_with (go_at_call 24; refine (big_any A _ c w).mono ?_; rintro e w1 ⟨rfl, rfl⟩)
    go_ret
    exact ⟨rfl, Below.refl _ _⟩
  have hbI : decide ((65536 : Int) < (code.length : Int)) = false := by simp; omega
  generalize code.length = n at *
  go_enter Tryd.func7, Tryd.ntmps7
  go_wp2_with (go_at_call 24; refine (big_any A n c w).mono ?_; rintro e w0 ⟨rfl, rfl⟩)
  refine (drawRule_any A n c w hn HR.out).mono ?_
  rintro e w1 ⟨m, rfl, hm, hb1⟩
  have BM : Blk (w1.alloc (.cells #[.int .i64 m.id, .string m.name, .int .i64 m.rank, .bool m.sec, .bool m.deb, .bool m.am, .int .i64 m.need] 27)) w1.heap.size 27 [.int .i64 m.id, .string m.name, .int .i64 m.rank, .bool m.sec, .bool m.deb, .bool m.am, .int .i64 m.need] := blk_made #[.int .i64 m.id, .string m.name, .int .i64 m.rank, .bool m.sec, .bool m.deb, .bool m.am, .int .i64 m.need] rfl
  have p0 := blk_cell BM (j := 0) rfl
  have p1 := blk_cell BM (j := 1) rfl
  have p2 := blk_cell BM (j := 2) rfl
  have p3 := blk_cell BM (j := 3) rfl
  have p4 := blk_cell BM (j := 4) rfl
  have p5 := blk_cell BM (j := 5) rfl
  have p6 := blk_cell BM (j := 6) rfl
  have hbM := btr hb1 (bnew (Below.refl w1.heap.size w1) (.cells #[.int .i64 m.id, .string m.name, .int .i64 m.rank, .bool m.sec, .bool m.deb, .bool m.am, .int .i64 m.need] 27))
  have hqm : m.name.size ≤ maxLen := by unfold maxLen; omega
  go_wp2_with fail
  generalize hW1 : w1.alloc (.cells #[.int .i64 m.id, .string m.name, .int .i64 m.rank, .bool m.sec, .bool m.deb, .bool m.am, .int .i64 m.need] 27) = W1 at *
  clear hW1
  generalize w1.heap.size = bm at *
  refine (implLine_any m W1 hqm (hdoor.below hbM).1).mono ?_
  rintro e w2 ⟨rfl, hb12⟩
  have hb2 := btr hbM hb12
  replace BM := BM.below hb12
  cases hr : rulOk m with
  | false =>
    rw [lineR_no hr]
    have HL : Hid (∀ w1, Calls Tryd.prog 9 #[.agg #[.int .i64 m.id, .string m.name, .int .i64 m.rank, .bool m.sec, .bool m.deb, .bool m.am, .int .i64 m.need]] w1 fun e w' => e = .returned (.tuple #[.string ⟨#[]⟩, .bool false]) ∧ Below w1.heap.size w1 w') := fun w1 => by have := specLine_any m w1 hqm; rwa [lineR_no hr] at this
    have HV : Hid (∀ w1, Calls Tryd.prog 26 #[.agg #[.int .i64 m.id, .string m.name, .int .i64 m.rank, .bool m.sec, .bool m.deb, .bool m.am, .int .i64 m.need]] w1 fun e w' => e = .returned (.bool false) ∧ Below w1.heap.size w1 w') := fun w1 => by have := isRule_any m w1 hqm; rwa [hr] at this
    go_wp2_with fail
    refine (implParseRule_d ⟨#[]⟩ w2 (by first | decide | (unfold maxLen; omega)) (by first | decide | omega) (hdoor.below hb2)).mono ?_
    rintro e w3 ⟨rfl, hb23⟩
    have hb3 := btr hb2 hb23
    replace BM := BM.below hb23
    generalize parseR ⟨#[]⟩ = R at *
    obtain ⟨p, f⟩ := R
    have BP : Blk (w3.alloc (.cells #[.int .i64 p.id, .string p.name, .int .i64 p.rank, .bool p.sec, .bool p.deb, .bool p.am, .int .i64 p.need] 27)) w3.heap.size 27 [.int .i64 p.id, .string p.name, .int .i64 p.rank, .bool p.sec, .bool p.deb, .bool p.am, .int .i64 p.need] := blk_made #[.int .i64 p.id, .string p.name, .int .i64 p.rank, .bool p.sec, .bool p.deb, .bool p.am, .int .i64 p.need] rfl
    have hbP := bnew (Below.refl w3.heap.size w3) (.cells #[.int .i64 p.id, .string p.name, .int .i64 p.rank, .bool p.sec, .bool p.deb, .bool p.am, .int .i64 p.need] 27)
    replace BM := BM.below hbP
    have hb4 := btr hb3 hbP
    clear p0 p1 p2 p3 p4 p5 p6
    have p0 := blk_cell BM (j := 0) rfl
    have p1 := blk_cell BM (j := 1) rfl
    have p2 := blk_cell BM (j := 2) rfl
    have p3 := blk_cell BM (j := 3) rfl
    have p4 := blk_cell BM (j := 4) rfl
    have p5 := blk_cell BM (j := 5) rfl
    have p6 := blk_cell BM (j := 6) rfl
    have q0 := blk_cell BP (j := 0) rfl
    have q1 := blk_cell BP (j := 1) rfl
    have q2 := blk_cell BP (j := 2) rfl
    have q3 := blk_cell BP (j := 3) rfl
    have q4 := blk_cell BP (j := 4) rfl
    have q5 := blk_cell BP (j := 5) rfl
    have q6 := blk_cell BP (j := 6) rfl
    go_wp2_with fail
    generalize hW3 : w3.alloc (.cells #[.int .i64 p.id, .string p.name, .int .i64 p.rank, .bool p.sec, .bool p.deb, .bool p.am, .int .i64 p.need] 27) = W3 at *
    clear hW3
    generalize w3.heap.size = bp at *
    refine (HL.out W3).mono ?_
    rintro e w5 ⟨rfl, hb45⟩
    have hb5 := btr hb4 hb45
    replace BM := BM.below hb45
    replace BP := BP.below hb45
    clear p0 q0 p1 q1 p2 q2 p3 q3 p4 q4 p5 q5 p6 q6
    have p0 := blk_cell BM (j := 0) rfl
    have p1 := blk_cell BM (j := 1) rfl
    have p2 := blk_cell BM (j := 2) rfl
    have p3 := blk_cell BM (j := 3) rfl
    have p4 := blk_cell BM (j := 4) rfl
    have p5 := blk_cell BM (j := 5) rfl
    have p6 := blk_cell BM (j := 6) rfl
    have q0 := blk_cell BP (j := 0) rfl
    have q1 := blk_cell BP (j := 1) rfl
    have q2 := blk_cell BP (j := 2) rfl
    have q3 := blk_cell BP (j := 3) rfl
    have q4 := blk_cell BP (j := 4) rfl
    have q5 := blk_cell BP (j := 5) rfl
    have q6 := blk_cell BP (j := 6) rfl
    go_wp2_with (go_at_call 26; refine (HV.out _).mono ?_; rintro e w6 ⟨rfl, hb56⟩; have hb6 := btr hb5 hb56; replace BM := BM.below hb56; replace BP := BP.below hb56; clear p0 q0 p1 q1 p2 q2 p3 q3 p4 q4 p5 q5 p6 q6; have p0 := blk_cell BM (j := 0) rfl; have q0 := blk_cell BP (j := 0) rfl; have p1 := blk_cell BM (j := 1) rfl; have q1 := blk_cell BP (j := 1) rfl; have p2 := blk_cell BM (j := 2) rfl; have q2 := blk_cell BP (j := 2) rfl; have p3 := blk_cell BM (j := 3) rfl; have q3 := blk_cell BP (j := 3) rfl; have p4 := blk_cell BM (j := 4) rfl; have q4 := blk_cell BP (j := 4) rfl; have p5 := blk_cell BM (j := 5) rfl; have q5 := blk_cell BP (j := 5) rfl; have p6 := blk_cell BM (j := 6) rfl; have q6 := blk_cell BP (j := 6) rfl)
    clear BM BP HL HV p0 q0 p1 q1 p2 q2 p3 q3 p4 q4 p5 q5 p6 q6
    refine (drawParse_any A n c w6 hn (HR.out.below hb6)).mono ?_
    rintro e w7 ⟨t, rfl, ht, hb67⟩
    have hb7 := btr hb6 hb67
    go_wp2_with fail
    refine (implParseRule_d t w7 (by unfold maxLen; omega) (by omega) (hdoor.below hb7)).mono ?_
    rintro e w8 ⟨rfl, hb78⟩
    have hb8 := btr hb7 hb78
    have HPT := Lib.hid (parseR_is t)
    have HPN := parseR_name t
    have HSP : Hid (∀ w1, Calls Tryd.prog 17 #[.string t] w1 fun e w' => e = .returned (.tuple #[.agg #[.int .i64 (parseR t).1.id, .string (parseR t).1.name, .int .i64 (parseR t).1.rank, .bool (parseR t).1.sec, .bool (parseR t).1.deb, .bool (parseR t).1.am, .int .i64 (parseR t).1.need], .bool (parseR t).2]) ∧ Below w1.heap.size w1 w') := fun w1 => specParseRule_d t w1 (by unfold maxLen; omega) (by omega)
    generalize parseR t = R at *
    obtain ⟨pr, f2⟩ := R
    simp only at HPT HPN HSP
    have HLP : Hid (f2 = true → lineR pr = (t, true)) := fun hf => by
      rcases HPT.out with ⟨_, h1, h2⟩ | ⟨h1, _⟩
      · rw [lineR_yes h1, h2]
      · rw [hf] at h1; cases h1
    have hqp : pr.name.size ≤ maxLen := by unfold maxLen; omega
    clear HPT HPN
    have BP : Blk (w8.alloc (.cells #[.int .i64 pr.id, .string pr.name, .int .i64 pr.rank, .bool pr.sec, .bool pr.deb, .bool pr.am, .int .i64 pr.need] 27)) w8.heap.size 27 [.int .i64 pr.id, .string pr.name, .int .i64 pr.rank, .bool pr.sec, .bool pr.deb, .bool pr.am, .int .i64 pr.need] := blk_made #[.int .i64 pr.id, .string pr.name, .int .i64 pr.rank, .bool pr.sec, .bool pr.deb, .bool pr.am, .int .i64 pr.need] rfl
    have hbP2 := bnew (Below.refl w8.heap.size w8) (.cells #[.int .i64 pr.id, .string pr.name, .int .i64 pr.rank, .bool pr.sec, .bool pr.deb, .bool pr.am, .int .i64 pr.need] 27)
    have hb9 := btr hb8 hbP2
    have q0 := blk_cell BP (j := 0) rfl
    have q1 := blk_cell BP (j := 1) rfl
    have q2 := blk_cell BP (j := 2) rfl
    have q3 := blk_cell BP (j := 3) rfl
    have q4 := blk_cell BP (j := 4) rfl
    have q5 := blk_cell BP (j := 5) rfl
    have q6 := blk_cell BP (j := 6) rfl
    go_wp2_with fail
    generalize hW8 : w8.alloc (.cells #[.int .i64 pr.id, .string pr.name, .int .i64 pr.rank, .bool pr.sec, .bool pr.deb, .bool pr.am, .int .i64 pr.need] 27) = W8 at *
    clear hW8
    generalize w8.heap.size = bp2 at *
    refine (implLine_any pr W8 hqp (hdoor.below hb9).1).mono ?_
    rintro e w10 ⟨rfl, hb910⟩
    have hb10 := btr hb9 hb910
    replace BP := BP.below hb910
    generalize lineR pr = R2 at *
    obtain ⟨u2, told2⟩ := R2
    go_wp2_with fail
    refine (HSP.out w10).mono ?_
    rintro e w11 ⟨rfl, hb1011⟩
    have hb11 := btr hb10 hb1011
    replace BP := BP.below hb1011
    have BQ : Blk (w11.alloc (.cells #[.int .i64 pr.id, .string pr.name, .int .i64 pr.rank, .bool pr.sec, .bool pr.deb, .bool pr.am, .int .i64 pr.need] 27)) w11.heap.size 27 [.int .i64 pr.id, .string pr.name, .int .i64 pr.rank, .bool pr.sec, .bool pr.deb, .bool pr.am, .int .i64 pr.need] := blk_made #[.int .i64 pr.id, .string pr.name, .int .i64 pr.rank, .bool pr.sec, .bool pr.deb, .bool pr.am, .int .i64 pr.need] rfl
    have hbP3 := bnew (Below.refl w11.heap.size w11) (.cells #[.int .i64 pr.id, .string pr.name, .int .i64 pr.rank, .bool pr.sec, .bool pr.deb, .bool pr.am, .int .i64 pr.need] 27)
    have hb12' := btr hb11 hbP3
    replace BP := BP.below hbP3
    clear q0 q1 q2 q3 q4 q5 q6
    have q0 := blk_cell BP (j := 0) rfl
    have q1 := blk_cell BP (j := 1) rfl
    have q2 := blk_cell BP (j := 2) rfl
    have q3 := blk_cell BP (j := 3) rfl
    have q4 := blk_cell BP (j := 4) rfl
    have q5 := blk_cell BP (j := 5) rfl
    have q6 := blk_cell BP (j := 6) rfl
    have p0 := blk_cell BQ (j := 0) rfl
    have p1 := blk_cell BQ (j := 1) rfl
    have p2 := blk_cell BQ (j := 2) rfl
    have p3 := blk_cell BQ (j := 3) rfl
    have p4 := blk_cell BQ (j := 4) rfl
    have p5 := blk_cell BQ (j := 5) rfl
    have p6 := blk_cell BQ (j := 6) rfl
    clear HSP
    cases f2 with
    | false =>
      clear HLP
      go_wp2_with fail
      generalize hW11 : w11.alloc (.cells #[.int .i64 pr.id, .string pr.name, .int .i64 pr.rank, .bool pr.sec, .bool pr.deb, .bool pr.am, .int .i64 pr.need] 27) = W11 at *
      clear hW11
      refine (drawRules_any A n c W11 hn (HR.out.below hb12')).mono ?_
      rintro e v1 ⟨A1, c1, xs, rfl, hl, hs, ho, hbv⟩
      have hbA := btr hb12' hbv
      have hle := own_le ho
      have hsz : ∀ s ∈ xs, s.name.size ≤ maxLen := fun s h => by have := hs s h; unfold maxLen; omega
      have HST : Hid (∀ v, Rd v A1 (rulCells xs) → Calls Tryd.prog 13 #[.slice A1 xs.length c1] v fun e w' => e = .returned (.tuple #[.string (textR xs).1, .bool (textR xs).2]) ∧ Below v.heap.size v w') := fun v h => specText_any A1 c1 xs v (by unfold maxLen; omega) hle h hsz
      have HIV : Hid (∀ v, Rd v A1 (rulCells xs) → Calls Tryd.prog 29 #[.slice A1 xs.length c1] v fun e w' => e = .returned (.bool (goodRul xs)) ∧ Below v.heap.size v w') := fun v h => isRules_any A1 c1 xs v (by unfold maxLen; omega) hle h hsz
      go_wp2_with fail
      refine (implText_any A1 c1 xs v1 (by unfold maxLen; omega) hle (own_rd ho) hsz (hdoor.below hbA).1).mono ?_
      rintro e v2 ⟨rfl, hbv2⟩
      have hbB := btr hbA hbv2
      replace ho := own_below ho hbv2
      clear hsz
      cases hg : goodRul xs with
      | false =>
        have HTX : textR xs = (⟨#[]⟩, false) := if_neg (by rw [hg]; decide)
        rw [HTX] at HST ⊢
        rw [hg] at HIV
        clear HTX hg hs
        go_wp2_with fail
        refine (implParseRules_any ⟨#[]⟩ v2 (by decide) (hdoor.below hbB)).mono ?_
        rintro e v3 ⟨L3, b3, A3, c3, rfl, ho3, -, hbv3⟩
        have hbC := btr hbB hbv3
        replace ho := own_below ho hbv3
        go_wp2_with fail
        refine (HST.out v3 (own_rd ho)).mono ?_
        rintro e v4 ⟨rfl, hbv4⟩
        have hbD := btr hbC hbv4
        replace ho := own_below ho hbv4
        replace ho3 := own_below ho3 hbv4
        have hRx := own_rd ho
        go_wp2_with (go_at_call 29; refine (HIV.out _ hRx).mono ?_; rintro e v5 ⟨rfl, hbv5⟩)
        have hbE := btr hbD hbv5
        refine (drawParses_any A n c v5 hn (HR.out.below hbE)).mono ?_
        rintro e y1 ⟨x, rfl, hx, hby⟩
        have hz1 := btr hbE hby
        go_wp2_with fail
        refine (implParseRules_any x y1 (by omega) (hdoor.below hz1)).mono ?_
        rintro e y2 ⟨L, b, A6, c6, rfl, ho6, hp6, hby2⟩
        have hz2 := btr hz1 hby2
        have HS2 : Hid (∀ v, Calls Tryd.prog 20 #[.string x] v fun e w' => ∃ A' c', e = .returned (.tuple #[.slice A' L.length c', .bool b]) ∧ w'.ownsRow v.heap.size 27 7 (.slice A' L.length c') L.length (rulCells L) ∧ Below v.heap.size v w') := fun v => (specParseRules_any x v (by omega)).mono fun e w' h => by
          obtain ⟨L2, b2, A', c', he, ho9, hp, hb9⟩ := h
          obtain ⟨rfl, rfl⟩ := hp.unique hp6
          exact ⟨A', c', he, ho9, hb9⟩
        have hL8 : L.length ≤ 1000 := by
          rcases hp6 with ⟨_, h1, _⟩ | ⟨_, h1, _⟩
          · have := (good_ok h1).2; omega
          · rw [h1]; exact Nat.zero_le _
        clear hp6
        go_wp2_with fail
        refine (HS2.out y2).mono ?_
        rintro e y3 ⟨A7, c7, rfl, ho7, hby3⟩
        have hz3 := btr hz2 hby3
        replace ho6 := own_below ho6 hby3
        have HVR := Lib.hid (vRules_same A6 A7 c6 c7 L y3 hL8 (own_rd ho6) (own_rd ho7))
        go_wp2_with (go_at_call 30; refine HVR.out.mono ?_; rintro e y4 ⟨rfl, hby4⟩)
        go_ret
        exact ⟨rfl, btr hz3 hby4⟩
      | true =>
        have HTX : textR xs = (⟨(textL xs).toArray⟩, true) := if_pos hg
        have hTs : (⟨(textL xs).toArray⟩ : ByteArray).size ≤ 648 := by
          have h1 := textL_len (good_ok hg).1
          have h2 := (good_ok hg).2
          show (textL xs).toArray.size ≤ _; simp; omega
        rw [HTX] at HST ⊢
        rw [hg] at HIV
        have HPS : Hid (∀ v, Below w.heap.size w v → Calls Tryd.prog 21 #[.string ⟨(textL xs).toArray⟩] v fun e w' => ∃ A' c', e = .returned (.tuple #[.slice A' xs.length c', .bool true]) ∧ w'.ownsRow v.heap.size 27 7 (.slice A' xs.length c') xs.length (rulCells xs) ∧ Below v.heap.size v w') := fun v hb => (implParseRules_any _ v (by omega) (hdoor.below hb)).mono fun e w' h => by
          obtain ⟨L2, b2, A', c', he, ho9, hp, hb9⟩ := h
          obtain ⟨rfl, rfl⟩ := hp.unique (.inl ⟨rfl, hg, rfl⟩)
          exact ⟨A', c', he, ho9, hb9⟩
        generalize (⟨(textL xs).toArray⟩ : ByteArray) = T at *
        clear HTX hTs hg hs
        go_wp2_with fail
        refine (HPS.out v2 hbB).mono ?_
        rintro e v3 ⟨A3, c3, rfl, ho3, hbv3⟩
        have hbC := btr hbB hbv3
        replace ho := own_below ho hbv3
        go_wp2_with fail
        refine (HST.out v3 (own_rd ho)).mono ?_
        rintro e v4 ⟨rfl, hbv4⟩
        have hbD := btr hbC hbv4
        replace ho := own_below ho hbv4
        replace ho3 := own_below ho3 hbv4
        have hRx := own_rd ho
        have HVX : Hid (∀ v, Below v4.heap.size v4 v → Calls Tryd.prog 30 #[.slice A3 xs.length c3, .slice A1 xs.length c1] v fun e w' => e = .returned (.bool true) ∧ Below v.heap.size v w') := fun v hb => vRules_same A3 A1 c3 c1 xs v (by omega) ((own_rd ho3).below hb) (hRx.below hb)
        go_wp2_with (first | (go_at_call 29; refine (HIV.out _ hRx).mono ?_; rintro e v5 ⟨rfl, hbv5⟩) | (go_at_call 30; refine (HVX.out _ hbv5).mono ?_; rintro e v6 ⟨rfl, hbv6⟩))
        have hbE := btr (btr hbD hbv5) hbv6
        refine (drawParses_any A n c v6 hn (HR.out.below hbE)).mono ?_
        rintro e y1 ⟨x, rfl, hx, hby⟩
        have hz1 := btr hbE hby
        go_wp2_with fail
        refine (implParseRules_any x y1 (by omega) (hdoor.below hz1)).mono ?_
        rintro e y2 ⟨L, b, A6, c6, rfl, ho6, hp6, hby2⟩
        have hz2 := btr hz1 hby2
        have HS2 : Hid (∀ v, Calls Tryd.prog 20 #[.string x] v fun e w' => ∃ A' c', e = .returned (.tuple #[.slice A' L.length c', .bool b]) ∧ w'.ownsRow v.heap.size 27 7 (.slice A' L.length c') L.length (rulCells L) ∧ Below v.heap.size v w') := fun v => (specParseRules_any x v (by omega)).mono fun e w' h => by
          obtain ⟨L2, b2, A', c', he, ho9, hp, hb9⟩ := h
          obtain ⟨rfl, rfl⟩ := hp.unique hp6
          exact ⟨A', c', he, ho9, hb9⟩
        have hL8 : L.length ≤ 1000 := by
          rcases hp6 with ⟨_, h1, _⟩ | ⟨_, h1, _⟩
          · have := (good_ok h1).2; omega
          · rw [h1]; exact Nat.zero_le _
        clear hp6
        go_wp2_with fail
        refine (HS2.out y2).mono ?_
        rintro e y3 ⟨A7, c7, rfl, ho7, hby3⟩
        have hz3 := btr hz2 hby3
        replace ho6 := own_below ho6 hby3
        have HVR := Lib.hid (vRules_same A6 A7 c6 c7 L y3 hL8 (own_rd ho6) (own_rd ho7))
        go_wp2_with (go_at_call 30; refine HVR.out.mono ?_; rintro e y4 ⟨rfl, hby4⟩)
        go_ret
        exact ⟨rfl, btr hz3 hby4⟩
    | true =>
      have hE := HLP.out rfl
      cases hE
      clear HLP
      go_wp2_with fail
      generalize hW11 : w11.alloc (.cells #[.int .i64 pr.id, .string pr.name, .int .i64 pr.rank, .bool pr.sec, .bool pr.deb, .bool pr.am, .int .i64 pr.need] 27) = W11 at *
      clear hW11
      refine (drawRules_any A n c W11 hn (HR.out.below hb12')).mono ?_
      rintro e v1 ⟨A1, c1, xs, rfl, hl, hs, ho, hbv⟩
      have hbA := btr hb12' hbv
      have hle := own_le ho
      have hsz : ∀ s ∈ xs, s.name.size ≤ maxLen := fun s h => by have := hs s h; unfold maxLen; omega
      have HST : Hid (∀ v, Rd v A1 (rulCells xs) → Calls Tryd.prog 13 #[.slice A1 xs.length c1] v fun e w' => e = .returned (.tuple #[.string (textR xs).1, .bool (textR xs).2]) ∧ Below v.heap.size v w') := fun v h => specText_any A1 c1 xs v (by unfold maxLen; omega) hle h hsz
      have HIV : Hid (∀ v, Rd v A1 (rulCells xs) → Calls Tryd.prog 29 #[.slice A1 xs.length c1] v fun e w' => e = .returned (.bool (goodRul xs)) ∧ Below v.heap.size v w') := fun v h => isRules_any A1 c1 xs v (by unfold maxLen; omega) hle h hsz
      go_wp2_with fail
      refine (implText_any A1 c1 xs v1 (by unfold maxLen; omega) hle (own_rd ho) hsz (hdoor.below hbA).1).mono ?_
      rintro e v2 ⟨rfl, hbv2⟩
      have hbB := btr hbA hbv2
      replace ho := own_below ho hbv2
      clear hsz
      cases hg : goodRul xs with
      | false =>
        have HTX : textR xs = (⟨#[]⟩, false) := if_neg (by rw [hg]; decide)
        rw [HTX] at HST ⊢
        rw [hg] at HIV
        clear HTX hg hs
        go_wp2_with fail
        refine (implParseRules_any ⟨#[]⟩ v2 (by decide) (hdoor.below hbB)).mono ?_
        rintro e v3 ⟨L3, b3, A3, c3, rfl, ho3, -, hbv3⟩
        have hbC := btr hbB hbv3
        replace ho := own_below ho hbv3
        go_wp2_with fail
        refine (HST.out v3 (own_rd ho)).mono ?_
        rintro e v4 ⟨rfl, hbv4⟩
        have hbD := btr hbC hbv4
        replace ho := own_below ho hbv4
        replace ho3 := own_below ho3 hbv4
        have hRx := own_rd ho
        go_wp2_with (go_at_call 29; refine (HIV.out _ hRx).mono ?_; rintro e v5 ⟨rfl, hbv5⟩)
        have hbE := btr hbD hbv5
        refine (drawParses_any A n c v5 hn (HR.out.below hbE)).mono ?_
        rintro e y1 ⟨x, rfl, hx, hby⟩
        have hz1 := btr hbE hby
        go_wp2_with fail
        refine (implParseRules_any x y1 (by omega) (hdoor.below hz1)).mono ?_
        rintro e y2 ⟨L, b, A6, c6, rfl, ho6, hp6, hby2⟩
        have hz2 := btr hz1 hby2
        have HS2 : Hid (∀ v, Calls Tryd.prog 20 #[.string x] v fun e w' => ∃ A' c', e = .returned (.tuple #[.slice A' L.length c', .bool b]) ∧ w'.ownsRow v.heap.size 27 7 (.slice A' L.length c') L.length (rulCells L) ∧ Below v.heap.size v w') := fun v => (specParseRules_any x v (by omega)).mono fun e w' h => by
          obtain ⟨L2, b2, A', c', he, ho9, hp, hb9⟩ := h
          obtain ⟨rfl, rfl⟩ := hp.unique hp6
          exact ⟨A', c', he, ho9, hb9⟩
        have hL8 : L.length ≤ 1000 := by
          rcases hp6 with ⟨_, h1, _⟩ | ⟨_, h1, _⟩
          · have := (good_ok h1).2; omega
          · rw [h1]; exact Nat.zero_le _
        clear hp6
        go_wp2_with fail
        refine (HS2.out y2).mono ?_
        rintro e y3 ⟨A7, c7, rfl, ho7, hby3⟩
        have hz3 := btr hz2 hby3
        replace ho6 := own_below ho6 hby3
        have HVR := Lib.hid (vRules_same A6 A7 c6 c7 L y3 hL8 (own_rd ho6) (own_rd ho7))
        go_wp2_with (go_at_call 30; refine HVR.out.mono ?_; rintro e y4 ⟨rfl, hby4⟩)
        go_ret
        exact ⟨rfl, btr hz3 hby4⟩
      | true =>
        have HTX : textR xs = (⟨(textL xs).toArray⟩, true) := if_pos hg
        have hTs : (⟨(textL xs).toArray⟩ : ByteArray).size ≤ 648 := by
          have h1 := textL_len (good_ok hg).1
          have h2 := (good_ok hg).2
          show (textL xs).toArray.size ≤ _; simp; omega
        rw [HTX] at HST ⊢
        rw [hg] at HIV
        have HPS : Hid (∀ v, Below w.heap.size w v → Calls Tryd.prog 21 #[.string ⟨(textL xs).toArray⟩] v fun e w' => ∃ A' c', e = .returned (.tuple #[.slice A' xs.length c', .bool true]) ∧ w'.ownsRow v.heap.size 27 7 (.slice A' xs.length c') xs.length (rulCells xs) ∧ Below v.heap.size v w') := fun v hb => (implParseRules_any _ v (by omega) (hdoor.below hb)).mono fun e w' h => by
          obtain ⟨L2, b2, A', c', he, ho9, hp, hb9⟩ := h
          obtain ⟨rfl, rfl⟩ := hp.unique (.inl ⟨rfl, hg, rfl⟩)
          exact ⟨A', c', he, ho9, hb9⟩
        generalize (⟨(textL xs).toArray⟩ : ByteArray) = T at *
        clear HTX hTs hg hs
        go_wp2_with fail
        refine (HPS.out v2 hbB).mono ?_
        rintro e v3 ⟨A3, c3, rfl, ho3, hbv3⟩
        have hbC := btr hbB hbv3
        replace ho := own_below ho hbv3
        go_wp2_with fail
        refine (HST.out v3 (own_rd ho)).mono ?_
        rintro e v4 ⟨rfl, hbv4⟩
        have hbD := btr hbC hbv4
        replace ho := own_below ho hbv4
        replace ho3 := own_below ho3 hbv4
        have hRx := own_rd ho
        have HVX : Hid (∀ v, Below v4.heap.size v4 v → Calls Tryd.prog 30 #[.slice A3 xs.length c3, .slice A1 xs.length c1] v fun e w' => e = .returned (.bool true) ∧ Below v.heap.size v w') := fun v hb => vRules_same A3 A1 c3 c1 xs v (by omega) ((own_rd ho3).below hb) (hRx.below hb)
        go_wp2_with (first | (go_at_call 29; refine (HIV.out _ hRx).mono ?_; rintro e v5 ⟨rfl, hbv5⟩) | (go_at_call 30; refine (HVX.out _ hbv5).mono ?_; rintro e v6 ⟨rfl, hbv6⟩))
        have hbE := btr (btr hbD hbv5) hbv6
        refine (drawParses_any A n c v6 hn (HR.out.below hbE)).mono ?_
        rintro e y1 ⟨x, rfl, hx, hby⟩
        have hz1 := btr hbE hby
        go_wp2_with fail
        refine (implParseRules_any x y1 (by omega) (hdoor.below hz1)).mono ?_
        rintro e y2 ⟨L, b, A6, c6, rfl, ho6, hp6, hby2⟩
        have hz2 := btr hz1 hby2
        have HS2 : Hid (∀ v, Calls Tryd.prog 20 #[.string x] v fun e w' => ∃ A' c', e = .returned (.tuple #[.slice A' L.length c', .bool b]) ∧ w'.ownsRow v.heap.size 27 7 (.slice A' L.length c') L.length (rulCells L) ∧ Below v.heap.size v w') := fun v => (specParseRules_any x v (by omega)).mono fun e w' h => by
          obtain ⟨L2, b2, A', c', he, ho9, hp, hb9⟩ := h
          obtain ⟨rfl, rfl⟩ := hp.unique hp6
          exact ⟨A', c', he, ho9, hb9⟩
        have hL8 : L.length ≤ 1000 := by
          rcases hp6 with ⟨_, h1, _⟩ | ⟨_, h1, _⟩
          · have := (good_ok h1).2; omega
          · rw [h1]; exact Nat.zero_le _
        clear hp6
        go_wp2_with fail
        refine (HS2.out y2).mono ?_
        rintro e y3 ⟨A7, c7, rfl, ho7, hby3⟩
        have hz3 := btr hz2 hby3
        replace ho6 := own_below ho6 hby3
        have HVR := Lib.hid (vRules_same A6 A7 c6 c7 L y3 hL8 (own_rd ho6) (own_rd ho7))
        go_wp2_with (go_at_call 30; refine HVR.out.mono ?_; rintro e y4 ⟨rfl, hby4⟩)
        go_ret
        exact ⟨rfl, btr hz3 hby4⟩
  | true =>
    rw [lineR_yes hr]
    have HL : Hid (∀ w1, Calls Tryd.prog 9 #[.agg #[.int .i64 m.id, .string m.name, .int .i64 m.rank, .bool m.sec, .bool m.deb, .bool m.am, .int .i64 m.need]] w1 fun e w' => e = .returned (.tuple #[.string (lineB m), .bool true]) ∧ Below w1.heap.size w1 w') := fun w1 => by have := specLine_any m w1 hqm; rwa [lineR_yes hr] at this
    have HV : Hid (∀ w1, Calls Tryd.prog 26 #[.agg #[.int .i64 m.id, .string m.name, .int .i64 m.rank, .bool m.sec, .bool m.deb, .bool m.am, .int .i64 m.need]] w1 fun e w' => e = .returned (.bool true) ∧ Below w1.heap.size w1 w') := fun w1 => by have := isRule_any m w1 hqm; rwa [hr] at this
    have hsl := line_size hr
    have HPR : Hid (parseR (lineB m) = (m, true)) := parseR_of (.inl ⟨rfl, hr, rfl⟩)
    go_wp2_with fail
    refine (implParseRule_d (lineB m) w2 (by first | decide | (unfold maxLen; omega)) (by first | decide | omega) (hdoor.below hb2)).mono ?_
    rintro e w3 ⟨rfl, hb23⟩
    have hb3 := btr hb2 hb23
    replace BM := BM.below hb23
    rw [HPR.out]
    generalize lineB m = S at *
    clear HPR hsl
    have BP : Blk (w3.alloc (.cells #[.int .i64 m.id, .string m.name, .int .i64 m.rank, .bool m.sec, .bool m.deb, .bool m.am, .int .i64 m.need] 27)) w3.heap.size 27 [.int .i64 m.id, .string m.name, .int .i64 m.rank, .bool m.sec, .bool m.deb, .bool m.am, .int .i64 m.need] := blk_made #[.int .i64 m.id, .string m.name, .int .i64 m.rank, .bool m.sec, .bool m.deb, .bool m.am, .int .i64 m.need] rfl
    have hbP := bnew (Below.refl w3.heap.size w3) (.cells #[.int .i64 m.id, .string m.name, .int .i64 m.rank, .bool m.sec, .bool m.deb, .bool m.am, .int .i64 m.need] 27)
    replace BM := BM.below hbP
    have hb4 := btr hb3 hbP
    clear p0 p1 p2 p3 p4 p5 p6
    have p0 := blk_cell BM (j := 0) rfl
    have p1 := blk_cell BM (j := 1) rfl
    have p2 := blk_cell BM (j := 2) rfl
    have p3 := blk_cell BM (j := 3) rfl
    have p4 := blk_cell BM (j := 4) rfl
    have p5 := blk_cell BM (j := 5) rfl
    have p6 := blk_cell BM (j := 6) rfl
    have q0 := blk_cell BP (j := 0) rfl
    have q1 := blk_cell BP (j := 1) rfl
    have q2 := blk_cell BP (j := 2) rfl
    have q3 := blk_cell BP (j := 3) rfl
    have q4 := blk_cell BP (j := 4) rfl
    have q5 := blk_cell BP (j := 5) rfl
    have q6 := blk_cell BP (j := 6) rfl
    go_wp2_with fail
    generalize hW3 : w3.alloc (.cells #[.int .i64 m.id, .string m.name, .int .i64 m.rank, .bool m.sec, .bool m.deb, .bool m.am, .int .i64 m.need] 27) = W3 at *
    clear hW3
    generalize w3.heap.size = bp at *
    refine (HL.out W3).mono ?_
    rintro e w5 ⟨rfl, hb45⟩
    have hb5 := btr hb4 hb45
    replace BM := BM.below hb45
    replace BP := BP.below hb45
    clear p0 q0 p1 q1 p2 q2 p3 q3 p4 q4 p5 q5 p6 q6
    have p0 := blk_cell BM (j := 0) rfl
    have p1 := blk_cell BM (j := 1) rfl
    have p2 := blk_cell BM (j := 2) rfl
    have p3 := blk_cell BM (j := 3) rfl
    have p4 := blk_cell BM (j := 4) rfl
    have p5 := blk_cell BM (j := 5) rfl
    have p6 := blk_cell BM (j := 6) rfl
    have q0 := blk_cell BP (j := 0) rfl
    have q1 := blk_cell BP (j := 1) rfl
    have q2 := blk_cell BP (j := 2) rfl
    have q3 := blk_cell BP (j := 3) rfl
    have q4 := blk_cell BP (j := 4) rfl
    have q5 := blk_cell BP (j := 5) rfl
    have q6 := blk_cell BP (j := 6) rfl
    go_wp2_with (go_at_call 26; refine (HV.out _).mono ?_; rintro e w6 ⟨rfl, hb56⟩; have hb6 := btr hb5 hb56; replace BM := BM.below hb56; replace BP := BP.below hb56; clear p0 q0 p1 q1 p2 q2 p3 q3 p4 q4 p5 q5 p6 q6; have p0 := blk_cell BM (j := 0) rfl; have q0 := blk_cell BP (j := 0) rfl; have p1 := blk_cell BM (j := 1) rfl; have q1 := blk_cell BP (j := 1) rfl; have p2 := blk_cell BM (j := 2) rfl; have q2 := blk_cell BP (j := 2) rfl; have p3 := blk_cell BM (j := 3) rfl; have q3 := blk_cell BP (j := 3) rfl; have p4 := blk_cell BM (j := 4) rfl; have q4 := blk_cell BP (j := 4) rfl; have p5 := blk_cell BM (j := 5) rfl; have q5 := blk_cell BP (j := 5) rfl; have p6 := blk_cell BM (j := 6) rfl; have q6 := blk_cell BP (j := 6) rfl)
    clear BM BP HL HV p0 q0 p1 q1 p2 q2 p3 q3 p4 q4 p5 q5 p6 q6
    refine (drawParse_any A n c w6 hn (HR.out.below hb6)).mono ?_
    rintro e w7 ⟨t, rfl, ht, hb67⟩
    have hb7 := btr hb6 hb67
    go_wp2_with fail
    refine (implParseRule_d t w7 (by unfold maxLen; omega) (by omega) (hdoor.below hb7)).mono ?_
    rintro e w8 ⟨rfl, hb78⟩
    have hb8 := btr hb7 hb78
    have HPT := Lib.hid (parseR_is t)
    have HPN := parseR_name t
    have HSP : Hid (∀ w1, Calls Tryd.prog 17 #[.string t] w1 fun e w' => e = .returned (.tuple #[.agg #[.int .i64 (parseR t).1.id, .string (parseR t).1.name, .int .i64 (parseR t).1.rank, .bool (parseR t).1.sec, .bool (parseR t).1.deb, .bool (parseR t).1.am, .int .i64 (parseR t).1.need], .bool (parseR t).2]) ∧ Below w1.heap.size w1 w') := fun w1 => specParseRule_d t w1 (by unfold maxLen; omega) (by omega)
    generalize parseR t = R at *
    obtain ⟨pr, f2⟩ := R
    simp only at HPT HPN HSP
    have HLP : Hid (f2 = true → lineR pr = (t, true)) := fun hf => by
      rcases HPT.out with ⟨_, h1, h2⟩ | ⟨h1, _⟩
      · rw [lineR_yes h1, h2]
      · rw [hf] at h1; cases h1
    have hqp : pr.name.size ≤ maxLen := by unfold maxLen; omega
    clear HPT HPN
    have BP : Blk (w8.alloc (.cells #[.int .i64 pr.id, .string pr.name, .int .i64 pr.rank, .bool pr.sec, .bool pr.deb, .bool pr.am, .int .i64 pr.need] 27)) w8.heap.size 27 [.int .i64 pr.id, .string pr.name, .int .i64 pr.rank, .bool pr.sec, .bool pr.deb, .bool pr.am, .int .i64 pr.need] := blk_made #[.int .i64 pr.id, .string pr.name, .int .i64 pr.rank, .bool pr.sec, .bool pr.deb, .bool pr.am, .int .i64 pr.need] rfl
    have hbP2 := bnew (Below.refl w8.heap.size w8) (.cells #[.int .i64 pr.id, .string pr.name, .int .i64 pr.rank, .bool pr.sec, .bool pr.deb, .bool pr.am, .int .i64 pr.need] 27)
    have hb9 := btr hb8 hbP2
    have q0 := blk_cell BP (j := 0) rfl
    have q1 := blk_cell BP (j := 1) rfl
    have q2 := blk_cell BP (j := 2) rfl
    have q3 := blk_cell BP (j := 3) rfl
    have q4 := blk_cell BP (j := 4) rfl
    have q5 := blk_cell BP (j := 5) rfl
    have q6 := blk_cell BP (j := 6) rfl
    go_wp2_with fail
    generalize hW8 : w8.alloc (.cells #[.int .i64 pr.id, .string pr.name, .int .i64 pr.rank, .bool pr.sec, .bool pr.deb, .bool pr.am, .int .i64 pr.need] 27) = W8 at *
    clear hW8
    generalize w8.heap.size = bp2 at *
    refine (implLine_any pr W8 hqp (hdoor.below hb9).1).mono ?_
    rintro e w10 ⟨rfl, hb910⟩
    have hb10 := btr hb9 hb910
    replace BP := BP.below hb910
    generalize lineR pr = R2 at *
    obtain ⟨u2, told2⟩ := R2
    go_wp2_with fail
    refine (HSP.out w10).mono ?_
    rintro e w11 ⟨rfl, hb1011⟩
    have hb11 := btr hb10 hb1011
    replace BP := BP.below hb1011
    have BQ : Blk (w11.alloc (.cells #[.int .i64 pr.id, .string pr.name, .int .i64 pr.rank, .bool pr.sec, .bool pr.deb, .bool pr.am, .int .i64 pr.need] 27)) w11.heap.size 27 [.int .i64 pr.id, .string pr.name, .int .i64 pr.rank, .bool pr.sec, .bool pr.deb, .bool pr.am, .int .i64 pr.need] := blk_made #[.int .i64 pr.id, .string pr.name, .int .i64 pr.rank, .bool pr.sec, .bool pr.deb, .bool pr.am, .int .i64 pr.need] rfl
    have hbP3 := bnew (Below.refl w11.heap.size w11) (.cells #[.int .i64 pr.id, .string pr.name, .int .i64 pr.rank, .bool pr.sec, .bool pr.deb, .bool pr.am, .int .i64 pr.need] 27)
    have hb12' := btr hb11 hbP3
    replace BP := BP.below hbP3
    clear q0 q1 q2 q3 q4 q5 q6
    have q0 := blk_cell BP (j := 0) rfl
    have q1 := blk_cell BP (j := 1) rfl
    have q2 := blk_cell BP (j := 2) rfl
    have q3 := blk_cell BP (j := 3) rfl
    have q4 := blk_cell BP (j := 4) rfl
    have q5 := blk_cell BP (j := 5) rfl
    have q6 := blk_cell BP (j := 6) rfl
    have p0 := blk_cell BQ (j := 0) rfl
    have p1 := blk_cell BQ (j := 1) rfl
    have p2 := blk_cell BQ (j := 2) rfl
    have p3 := blk_cell BQ (j := 3) rfl
    have p4 := blk_cell BQ (j := 4) rfl
    have p5 := blk_cell BQ (j := 5) rfl
    have p6 := blk_cell BQ (j := 6) rfl
    clear HSP
    cases f2 with
    | false =>
      clear HLP
      go_wp2_with fail
      generalize hW11 : w11.alloc (.cells #[.int .i64 pr.id, .string pr.name, .int .i64 pr.rank, .bool pr.sec, .bool pr.deb, .bool pr.am, .int .i64 pr.need] 27) = W11 at *
      clear hW11
      refine (drawRules_any A n c W11 hn (HR.out.below hb12')).mono ?_
      rintro e v1 ⟨A1, c1, xs, rfl, hl, hs, ho, hbv⟩
      have hbA := btr hb12' hbv
      have hle := own_le ho
      have hsz : ∀ s ∈ xs, s.name.size ≤ maxLen := fun s h => by have := hs s h; unfold maxLen; omega
      have HST : Hid (∀ v, Rd v A1 (rulCells xs) → Calls Tryd.prog 13 #[.slice A1 xs.length c1] v fun e w' => e = .returned (.tuple #[.string (textR xs).1, .bool (textR xs).2]) ∧ Below v.heap.size v w') := fun v h => specText_any A1 c1 xs v (by unfold maxLen; omega) hle h hsz
      have HIV : Hid (∀ v, Rd v A1 (rulCells xs) → Calls Tryd.prog 29 #[.slice A1 xs.length c1] v fun e w' => e = .returned (.bool (goodRul xs)) ∧ Below v.heap.size v w') := fun v h => isRules_any A1 c1 xs v (by unfold maxLen; omega) hle h hsz
      go_wp2_with fail
      refine (implText_any A1 c1 xs v1 (by unfold maxLen; omega) hle (own_rd ho) hsz (hdoor.below hbA).1).mono ?_
      rintro e v2 ⟨rfl, hbv2⟩
      have hbB := btr hbA hbv2
      replace ho := own_below ho hbv2
      clear hsz
      cases hg : goodRul xs with
      | false =>
        have HTX : textR xs = (⟨#[]⟩, false) := if_neg (by rw [hg]; decide)
        rw [HTX] at HST ⊢
        rw [hg] at HIV
        clear HTX hg hs
        go_wp2_with fail
        refine (implParseRules_any ⟨#[]⟩ v2 (by decide) (hdoor.below hbB)).mono ?_
        rintro e v3 ⟨L3, b3, A3, c3, rfl, ho3, -, hbv3⟩
        have hbC := btr hbB hbv3
        replace ho := own_below ho hbv3
        go_wp2_with fail
        refine (HST.out v3 (own_rd ho)).mono ?_
        rintro e v4 ⟨rfl, hbv4⟩
        have hbD := btr hbC hbv4
        replace ho := own_below ho hbv4
        replace ho3 := own_below ho3 hbv4
        have hRx := own_rd ho
        go_wp2_with (go_at_call 29; refine (HIV.out _ hRx).mono ?_; rintro e v5 ⟨rfl, hbv5⟩)
        have hbE := btr hbD hbv5
        refine (drawParses_any A n c v5 hn (HR.out.below hbE)).mono ?_
        rintro e y1 ⟨x, rfl, hx, hby⟩
        have hz1 := btr hbE hby
        go_wp2_with fail
        refine (implParseRules_any x y1 (by omega) (hdoor.below hz1)).mono ?_
        rintro e y2 ⟨L, b, A6, c6, rfl, ho6, hp6, hby2⟩
        have hz2 := btr hz1 hby2
        have HS2 : Hid (∀ v, Calls Tryd.prog 20 #[.string x] v fun e w' => ∃ A' c', e = .returned (.tuple #[.slice A' L.length c', .bool b]) ∧ w'.ownsRow v.heap.size 27 7 (.slice A' L.length c') L.length (rulCells L) ∧ Below v.heap.size v w') := fun v => (specParseRules_any x v (by omega)).mono fun e w' h => by
          obtain ⟨L2, b2, A', c', he, ho9, hp, hb9⟩ := h
          obtain ⟨rfl, rfl⟩ := hp.unique hp6
          exact ⟨A', c', he, ho9, hb9⟩
        have hL8 : L.length ≤ 1000 := by
          rcases hp6 with ⟨_, h1, _⟩ | ⟨_, h1, _⟩
          · have := (good_ok h1).2; omega
          · rw [h1]; exact Nat.zero_le _
        clear hp6
        go_wp2_with fail
        refine (HS2.out y2).mono ?_
        rintro e y3 ⟨A7, c7, rfl, ho7, hby3⟩
        have hz3 := btr hz2 hby3
        replace ho6 := own_below ho6 hby3
        have HVR := Lib.hid (vRules_same A6 A7 c6 c7 L y3 hL8 (own_rd ho6) (own_rd ho7))
        go_wp2_with (go_at_call 30; refine HVR.out.mono ?_; rintro e y4 ⟨rfl, hby4⟩)
        go_ret
        exact ⟨rfl, btr hz3 hby4⟩
      | true =>
        have HTX : textR xs = (⟨(textL xs).toArray⟩, true) := if_pos hg
        have hTs : (⟨(textL xs).toArray⟩ : ByteArray).size ≤ 648 := by
          have h1 := textL_len (good_ok hg).1
          have h2 := (good_ok hg).2
          show (textL xs).toArray.size ≤ _; simp; omega
        rw [HTX] at HST ⊢
        rw [hg] at HIV
        have HPS : Hid (∀ v, Below w.heap.size w v → Calls Tryd.prog 21 #[.string ⟨(textL xs).toArray⟩] v fun e w' => ∃ A' c', e = .returned (.tuple #[.slice A' xs.length c', .bool true]) ∧ w'.ownsRow v.heap.size 27 7 (.slice A' xs.length c') xs.length (rulCells xs) ∧ Below v.heap.size v w') := fun v hb => (implParseRules_any _ v (by omega) (hdoor.below hb)).mono fun e w' h => by
          obtain ⟨L2, b2, A', c', he, ho9, hp, hb9⟩ := h
          obtain ⟨rfl, rfl⟩ := hp.unique (.inl ⟨rfl, hg, rfl⟩)
          exact ⟨A', c', he, ho9, hb9⟩
        generalize (⟨(textL xs).toArray⟩ : ByteArray) = T at *
        clear HTX hTs hg hs
        go_wp2_with fail
        refine (HPS.out v2 hbB).mono ?_
        rintro e v3 ⟨A3, c3, rfl, ho3, hbv3⟩
        have hbC := btr hbB hbv3
        replace ho := own_below ho hbv3
        go_wp2_with fail
        refine (HST.out v3 (own_rd ho)).mono ?_
        rintro e v4 ⟨rfl, hbv4⟩
        have hbD := btr hbC hbv4
        replace ho := own_below ho hbv4
        replace ho3 := own_below ho3 hbv4
        have hRx := own_rd ho
        have HVX : Hid (∀ v, Below v4.heap.size v4 v → Calls Tryd.prog 30 #[.slice A3 xs.length c3, .slice A1 xs.length c1] v fun e w' => e = .returned (.bool true) ∧ Below v.heap.size v w') := fun v hb => vRules_same A3 A1 c3 c1 xs v (by omega) ((own_rd ho3).below hb) (hRx.below hb)
        go_wp2_with (first | (go_at_call 29; refine (HIV.out _ hRx).mono ?_; rintro e v5 ⟨rfl, hbv5⟩) | (go_at_call 30; refine (HVX.out _ hbv5).mono ?_; rintro e v6 ⟨rfl, hbv6⟩))
        have hbE := btr (btr hbD hbv5) hbv6
        refine (drawParses_any A n c v6 hn (HR.out.below hbE)).mono ?_
        rintro e y1 ⟨x, rfl, hx, hby⟩
        have hz1 := btr hbE hby
        go_wp2_with fail
        refine (implParseRules_any x y1 (by omega) (hdoor.below hz1)).mono ?_
        rintro e y2 ⟨L, b, A6, c6, rfl, ho6, hp6, hby2⟩
        have hz2 := btr hz1 hby2
        have HS2 : Hid (∀ v, Calls Tryd.prog 20 #[.string x] v fun e w' => ∃ A' c', e = .returned (.tuple #[.slice A' L.length c', .bool b]) ∧ w'.ownsRow v.heap.size 27 7 (.slice A' L.length c') L.length (rulCells L) ∧ Below v.heap.size v w') := fun v => (specParseRules_any x v (by omega)).mono fun e w' h => by
          obtain ⟨L2, b2, A', c', he, ho9, hp, hb9⟩ := h
          obtain ⟨rfl, rfl⟩ := hp.unique hp6
          exact ⟨A', c', he, ho9, hb9⟩
        have hL8 : L.length ≤ 1000 := by
          rcases hp6 with ⟨_, h1, _⟩ | ⟨_, h1, _⟩
          · have := (good_ok h1).2; omega
          · rw [h1]; exact Nat.zero_le _
        clear hp6
        go_wp2_with fail
        refine (HS2.out y2).mono ?_
        rintro e y3 ⟨A7, c7, rfl, ho7, hby3⟩
        have hz3 := btr hz2 hby3
        replace ho6 := own_below ho6 hby3
        have HVR := Lib.hid (vRules_same A6 A7 c6 c7 L y3 hL8 (own_rd ho6) (own_rd ho7))
        go_wp2_with (go_at_call 30; refine HVR.out.mono ?_; rintro e y4 ⟨rfl, hby4⟩)
        go_ret
        exact ⟨rfl, btr hz3 hby4⟩
    | true =>
      have hE := HLP.out rfl
      cases hE
      clear HLP
      go_wp2_with fail
      generalize hW11 : w11.alloc (.cells #[.int .i64 pr.id, .string pr.name, .int .i64 pr.rank, .bool pr.sec, .bool pr.deb, .bool pr.am, .int .i64 pr.need] 27) = W11 at *
      clear hW11
      refine (drawRules_any A n c W11 hn (HR.out.below hb12')).mono ?_
      rintro e v1 ⟨A1, c1, xs, rfl, hl, hs, ho, hbv⟩
      have hbA := btr hb12' hbv
      have hle := own_le ho
      have hsz : ∀ s ∈ xs, s.name.size ≤ maxLen := fun s h => by have := hs s h; unfold maxLen; omega
      have HST : Hid (∀ v, Rd v A1 (rulCells xs) → Calls Tryd.prog 13 #[.slice A1 xs.length c1] v fun e w' => e = .returned (.tuple #[.string (textR xs).1, .bool (textR xs).2]) ∧ Below v.heap.size v w') := fun v h => specText_any A1 c1 xs v (by unfold maxLen; omega) hle h hsz
      have HIV : Hid (∀ v, Rd v A1 (rulCells xs) → Calls Tryd.prog 29 #[.slice A1 xs.length c1] v fun e w' => e = .returned (.bool (goodRul xs)) ∧ Below v.heap.size v w') := fun v h => isRules_any A1 c1 xs v (by unfold maxLen; omega) hle h hsz
      go_wp2_with fail
      refine (implText_any A1 c1 xs v1 (by unfold maxLen; omega) hle (own_rd ho) hsz (hdoor.below hbA).1).mono ?_
      rintro e v2 ⟨rfl, hbv2⟩
      have hbB := btr hbA hbv2
      replace ho := own_below ho hbv2
      clear hsz
      cases hg : goodRul xs with
      | false =>
        have HTX : textR xs = (⟨#[]⟩, false) := if_neg (by rw [hg]; decide)
        rw [HTX] at HST ⊢
        rw [hg] at HIV
        clear HTX hg hs
        go_wp2_with fail
        refine (implParseRules_any ⟨#[]⟩ v2 (by decide) (hdoor.below hbB)).mono ?_
        rintro e v3 ⟨L3, b3, A3, c3, rfl, ho3, -, hbv3⟩
        have hbC := btr hbB hbv3
        replace ho := own_below ho hbv3
        go_wp2_with fail
        refine (HST.out v3 (own_rd ho)).mono ?_
        rintro e v4 ⟨rfl, hbv4⟩
        have hbD := btr hbC hbv4
        replace ho := own_below ho hbv4
        replace ho3 := own_below ho3 hbv4
        have hRx := own_rd ho
        go_wp2_with (go_at_call 29; refine (HIV.out _ hRx).mono ?_; rintro e v5 ⟨rfl, hbv5⟩)
        have hbE := btr hbD hbv5
        refine (drawParses_any A n c v5 hn (HR.out.below hbE)).mono ?_
        rintro e y1 ⟨x, rfl, hx, hby⟩
        have hz1 := btr hbE hby
        go_wp2_with fail
        refine (implParseRules_any x y1 (by omega) (hdoor.below hz1)).mono ?_
        rintro e y2 ⟨L, b, A6, c6, rfl, ho6, hp6, hby2⟩
        have hz2 := btr hz1 hby2
        have HS2 : Hid (∀ v, Calls Tryd.prog 20 #[.string x] v fun e w' => ∃ A' c', e = .returned (.tuple #[.slice A' L.length c', .bool b]) ∧ w'.ownsRow v.heap.size 27 7 (.slice A' L.length c') L.length (rulCells L) ∧ Below v.heap.size v w') := fun v => (specParseRules_any x v (by omega)).mono fun e w' h => by
          obtain ⟨L2, b2, A', c', he, ho9, hp, hb9⟩ := h
          obtain ⟨rfl, rfl⟩ := hp.unique hp6
          exact ⟨A', c', he, ho9, hb9⟩
        have hL8 : L.length ≤ 1000 := by
          rcases hp6 with ⟨_, h1, _⟩ | ⟨_, h1, _⟩
          · have := (good_ok h1).2; omega
          · rw [h1]; exact Nat.zero_le _
        clear hp6
        go_wp2_with fail
        refine (HS2.out y2).mono ?_
        rintro e y3 ⟨A7, c7, rfl, ho7, hby3⟩
        have hz3 := btr hz2 hby3
        replace ho6 := own_below ho6 hby3
        have HVR := Lib.hid (vRules_same A6 A7 c6 c7 L y3 hL8 (own_rd ho6) (own_rd ho7))
        go_wp2_with (go_at_call 30; refine HVR.out.mono ?_; rintro e y4 ⟨rfl, hby4⟩)
        go_ret
        exact ⟨rfl, btr hz3 hby4⟩
      | true =>
        have HTX : textR xs = (⟨(textL xs).toArray⟩, true) := if_pos hg
        have hTs : (⟨(textL xs).toArray⟩ : ByteArray).size ≤ 648 := by
          have h1 := textL_len (good_ok hg).1
          have h2 := (good_ok hg).2
          show (textL xs).toArray.size ≤ _; simp; omega
        rw [HTX] at HST ⊢
        rw [hg] at HIV
        have HPS : Hid (∀ v, Below w.heap.size w v → Calls Tryd.prog 21 #[.string ⟨(textL xs).toArray⟩] v fun e w' => ∃ A' c', e = .returned (.tuple #[.slice A' xs.length c', .bool true]) ∧ w'.ownsRow v.heap.size 27 7 (.slice A' xs.length c') xs.length (rulCells xs) ∧ Below v.heap.size v w') := fun v hb => (implParseRules_any _ v (by omega) (hdoor.below hb)).mono fun e w' h => by
          obtain ⟨L2, b2, A', c', he, ho9, hp, hb9⟩ := h
          obtain ⟨rfl, rfl⟩ := hp.unique (.inl ⟨rfl, hg, rfl⟩)
          exact ⟨A', c', he, ho9, hb9⟩
        generalize (⟨(textL xs).toArray⟩ : ByteArray) = T at *
        clear HTX hTs hg hs
        go_wp2_with fail
        refine (HPS.out v2 hbB).mono ?_
        rintro e v3 ⟨A3, c3, rfl, ho3, hbv3⟩
        have hbC := btr hbB hbv3
        replace ho := own_below ho hbv3
        go_wp2_with fail
        refine (HST.out v3 (own_rd ho)).mono ?_
        rintro e v4 ⟨rfl, hbv4⟩
        have hbD := btr hbC hbv4
        replace ho := own_below ho hbv4
        replace ho3 := own_below ho3 hbv4
        have hRx := own_rd ho
        have HVX : Hid (∀ v, Below v4.heap.size v4 v → Calls Tryd.prog 30 #[.slice A3 xs.length c3, .slice A1 xs.length c1] v fun e w' => e = .returned (.bool true) ∧ Below v.heap.size v w') := fun v hb => vRules_same A3 A1 c3 c1 xs v (by omega) ((own_rd ho3).below hb) (hRx.below hb)
        go_wp2_with (first | (go_at_call 29; refine (HIV.out _ hRx).mono ?_; rintro e v5 ⟨rfl, hbv5⟩) | (go_at_call 30; refine (HVX.out _ hbv5).mono ?_; rintro e v6 ⟨rfl, hbv6⟩))
        have hbE := btr (btr hbD hbv5) hbv6
        refine (drawParses_any A n c v6 hn (HR.out.below hbE)).mono ?_
        rintro e y1 ⟨x, rfl, hx, hby⟩
        have hz1 := btr hbE hby
        go_wp2_with fail
        refine (implParseRules_any x y1 (by omega) (hdoor.below hz1)).mono ?_
        rintro e y2 ⟨L, b, A6, c6, rfl, ho6, hp6, hby2⟩
        have hz2 := btr hz1 hby2
        have HS2 : Hid (∀ v, Calls Tryd.prog 20 #[.string x] v fun e w' => ∃ A' c', e = .returned (.tuple #[.slice A' L.length c', .bool b]) ∧ w'.ownsRow v.heap.size 27 7 (.slice A' L.length c') L.length (rulCells L) ∧ Below v.heap.size v w') := fun v => (specParseRules_any x v (by omega)).mono fun e w' h => by
          obtain ⟨L2, b2, A', c', he, ho9, hp, hb9⟩ := h
          obtain ⟨rfl, rfl⟩ := hp.unique hp6
          exact ⟨A', c', he, ho9, hb9⟩
        have hL8 : L.length ≤ 1000 := by
          rcases hp6 with ⟨_, h1, _⟩ | ⟨_, h1, _⟩
          · have := (good_ok h1).2; omega
          · rw [h1]; exact Nat.zero_le _
        clear hp6
        go_wp2_with fail
        refine (HS2.out y2).mono ?_
        rintro e y3 ⟨A7, c7, rfl, ho7, hby3⟩
        have hz3 := btr hz2 hby3
        replace ho6 := own_below ho6 hby3
        have HVR := Lib.hid (vRules_same A6 A7 c6 c7 L y3 hL8 (own_rd ho6) (own_rd ho7))
        go_wp2_with (go_at_call 30; refine HVR.out.mono ?_; rintro e y4 ⟨rfl, hby4⟩)
        go_ret
        exact ⟨rfl, btr hz3 hby4⟩
theorem own : ownKnob Tryd.prog.godebug = none := by kernel_rfl
theorem laidOut : laidOutB Tryd.prog = true := by kernel_rfl
/-- The wrap, with what the row lists and the world's shape both kept. -/
theorem returns_listed {H : Type} {enc : TypeId × Value → H} {a : Assume} {C : Checked} {os : Os} {f : FuncId} {fn : Func} {s : ChangeSpec} {conds : List PathCond} {apart fresh handsOn again : Bool} {X : World → Array Value → Prop}
    (hX : ∀ (w w' : World) (args : Array Value), w.heap = w'.heap → X w args → X w' args)
    (own : ownKnob C.prog.godebug = none) (started : os.Started) (noInit : C.prog.inits.idxOf? f = none) (hfn : C.prog.funcs[f]? = some fn)
    (witness : ∃ (w : World) (tape : Tape) (i : Input), w.os = os ∧ (w.forCall tape i).Shaped C.prog ∧ i.vars = [] ∧ Input.okWide C.prog (w.forCall tape i) .any w.heap.size f i ∧
      ((s.pre enc C.prog fn conds apart (w.forCall tape i).memory i.args ∧ X (w.forCall tape i).memory i.args) ∧ sizedMet enc C.prog fn (OpenSpec.ofChange s) apart (w.forCall tape i).memory i.args) ∧ a.holds C.prog (lone (Frame.enter C.prog f i.args .normal) [] (w.forCall tape i)))
    (contract : ∀ (W : World) (base : Nat) (args : Array Value) (ds gs : List (DataW H)) (before : List MemPlace),
      (∀ (j : Nat) t v, fn.params[j]? = some t → args[j]? = some v → Value.okWide C.prog W .any base t v) →
      DataW.Whole enc C.prog fn.params.toList s.vars apart W args.toList ds gs before → X W args → W.ShapedOpen C.prog →
      Calls C.prog f args W fun e W' => ∃ v, e = .returned v ∧ s.post enc C.prog fn apart fresh handsOn again W args v W') :
    ReturnsInHanded a C os f .any (fun w args => (s.pre enc C.prog fn conds apart w args ∧ X w args) ∧ sizedMet enc C.prog fn (OpenSpec.ofChange s) apart w args) (s.post enc C.prog fn apart fresh handsOn again) := by
  refine returnsInHanded_of_calls own started noInit witness ?_
  intro w tape i _ hsh _ hok hpre _
  obtain ⟨_, _, _, g, hg, _, _, _, _, hval⟩ := hok
  obtain rfl := Option.some.inj (hg.symm.trans hfn)
  obtain ⟨⟨⟨ds, gs, before, hw, _⟩, hx⟩, _⟩ := hpre
  refine (contract (w.forCall tape i) w.heap.size i.args ds gs before hval (DataW.Whole.of_heap (w' := w.forCall tape i) (by rfl) hw) (hX _ _ _ (by rfl) hx) hsh).mono fun e W' h => ?_
  obtain ⟨v, he, hp⟩ := h
  subst he
  exact ChangeSpec.post_blind hp
def fruList : List (String × DataW Unit) := [("math/bits.deBruijn32tab", Rows.laid_math_bits_deBruijn32tab), ("math/bits.deBruijn64tab", Rows.laid_math_bits_deBruijn64tab), ("internal/strconv.uint64pow10", Rows.laid_internal_strconv_uint64pow10), ("unicode/utf8.acceptRanges", Rows.laid_unicode_utf8_acceptRanges), ("strconv.ErrRange", Rows.laid_strconv_ErrRange), ("strconv.ErrSyntax", Rows.laid_strconv_ErrSyntax), ("loop.example/g00909/impl.needWords", Rows.laid_loop_example_g00909_impl_needWords), ("unicode/utf8.first", Rows.laid_unicode_utf8_first)]
theorem fru_plain {W : World} (h : laidMetH Tryd.prog fruList W) : laidMet Tryd.prog fruList W := by
  rw [MakeChecks.laidMetH_plain _ _ _ (by kernel_rfl)] at h; exact h
set_option maxRecDepth 100000 in
theorem fru_door (os : Os) (args : Array Value) : laidMetH Tryd.prog fruList ((World.laidAll Tryd.prog os fruList).forCall (fun _ _ => 0) ⟨#[], args, []⟩).memory := by
  rw [MakeChecks.laidMetH_plain _ _ _ (by kernel_rfl)]; exact laidMet_laidAll _ (by kernel_rfl) (by kernel_rfl)
set_option maxRecDepth 100000 in
theorem fru_strs {W : World} (h : laidMetH Tryd.prog fruList W) : ∀ (i : Nat) (l : List UInt8), ([[], [109, 97, 106, 111, 114, 105, 116, 121], [116, 119, 111, 45, 116, 104, 105, 114, 100, 115], [97, 108, 108]] : List (List UInt8))[i]? = some l → ∃ s : ByteArray, W.cell? ⟨0, i, none⟩ = some (.string s) ∧ s.data.toList = l := by
  obtain ⟨ps, ⟨g0, t0, cs0, f0, p0, q0, hg0, ht0, hv0, hd0, ⟨g1, t1, cs1, f1, p1, q1, hg1, ht1, hv1, hd1, ⟨g2, t2, cs2, f2, p2, q2, hg2, ht2, hv2, hd2, ⟨g3, t3, cs3, f3, p3, q3, hg3, ht3, hv3, hd3, ⟨g4, t4, cs4, f4, p4, q4, hg4, ht4, hv4, hd4, ⟨g5, t5, cs5, f5, p5, q5, hg5, ht5, hv5, hd5, ⟨g6, t6, cs6, f6, p6, q6, hg6, ht6, hv6, hd6, ⟨g7, t7, cs7, f7, p7, q7, hg7, ht7, hv7, hd7, _, _⟩, _⟩, _⟩, _⟩, _⟩, _⟩, _⟩, _⟩, _, _⟩ := fru_plain h
  have e1 : g6 = 0 := Option.some.inj (hg6.symm.trans (by kernel_rfl))
  subst e1
  have e2 : t6 = 59 := Option.some.inj (ht6.symm.trans (by kernel_rfl))
  subst e2
  intro i l hl
  obtain ⟨s, h1, h2⟩ := strs_of_tab (ls := [[], [109, 97, 106, 111, 114, 105, 116, 121], [116, 119, 111, 45, 116, 104, 105, 114, 100, 115], [97, 108, 108]]) Tryd.underlying59 Tryd.underlying9 (by kernel_rfl) (by kernel_rfl) hd6 i l hl
  exact ⟨s, by rw [World.var?_cell (P := Tryd.prog) (by kernel_rfl) hv6 i]; simpa using h1, h2⟩
set_option maxRecDepth 100000 in
theorem fru_tab {W : World} (h : laidMetH Tryd.prog fruList W) : Lib.TabIs Tryd.prog W "internal/strconv.uint64pow10" .u64 Lib.pow10Tab := by
  obtain ⟨ps, ⟨g0, t0, cs0, f0, p0, q0, hg0, ht0, hv0, hd0, ⟨g1, t1, cs1, f1, p1, q1, hg1, ht1, hv1, hd1, ⟨g2, t2, cs2, f2, p2, q2, hg2, ht2, hv2, hd2, ⟨g3, t3, cs3, f3, p3, q3, hg3, ht3, hv3, hd3, ⟨g4, t4, cs4, f4, p4, q4, hg4, ht4, hv4, hd4, ⟨g5, t5, cs5, f5, p5, q5, hg5, ht5, hv5, hd5, ⟨g6, t6, cs6, f6, p6, q6, hg6, ht6, hv6, hd6, ⟨g7, t7, cs7, f7, p7, q7, hg7, ht7, hv7, hd7, _, _⟩, _⟩, _⟩, _⟩, _⟩, _⟩, _⟩, _⟩, _, _⟩ := fru_plain h
  unfold Lib.TabIs
  have e1 : g2 = 4 := Option.some.inj (hg2.symm.trans (by kernel_rfl))
  subst e1
  have e2 : t2 = 112 := Option.some.inj (ht2.symm.trans (by kernel_rfl))
  subst e2
  rw [hv2, ← Lib.cells_of_tab (zs := Lib.pow10Tab) Tryd.underlying112 Tryd.underlying64 (by kernel_rfl) (by kernel_rfl) hd2]
set_option maxRecDepth 100000 in
theorem fru_syn {W : World} (h : laidMetH Tryd.prog fruList W) : SynIs W := by
  have h0 := fru_plain h
  have h1 := (((((h0.tail).tail).tail).tail).tail)
  obtain ⟨a, s, hv, -, -, -⟩ := laid_sentinel h1 (g := 2) (ti := 74) (tp := 124) (by kernel_rfl) (by kernel_rfl) Tryd.underlying74 (fun u hu => typeName_ptr_named (nm := "errors.errorString") (by rw [show "*" ++ "errors.errorString" = "*errors.errorString" by decide]; kernel_rfl) (by kernel_rfl) (by decide) u (by rw [show "*" ++ "errors.errorString" = "*errors.errorString" by decide]; exact hu)) Tryd.underlying124 Tryd.underlying126 rfl rfl Tryd.underlying9 (by kernel_rfl) (by kernel_rfl)
  exact ⟨_, _, hv⟩
theorem fru_met {W : World} (hsh : W.ShapedOpen Tryd.prog) (h : laidMetH Tryd.prog fruList W) : ParDoor W := by
  refine ⟨fun k hk => ?_, Tryd.laysM146.s1_3 W hsh, fru_syn h, fru_tab h⟩
  obtain ⟨s, h1, h2⟩ := fru_strs h k (needW k).data.toList (by match k, hk with | 0, _ => rfl | 1, _ => rfl | 2, _ => rfl | 3, _ => rfl)
  rw [h1, ba_ext h2]
set_option maxRecDepth 100000 in
theorem FnRules_lifted (os : Os) (started : os.Started) (H : Type) (enc : TypeId × Value → H) :
    ReturnsInHanded {} Tryd.checked os 7 .any (fun w args => (Rows.fnRulesSpec.pre enc Tryd.prog Tryd.f7 [] false w args ∧ laidMetH Tryd.prog fruList w) ∧ sizedMet enc Tryd.prog Tryd.f7 (OpenSpec.ofChange Rows.fnRulesSpec) false w args)
      (Rows.fnRulesSpec.post enc Tryd.prog Tryd.f7 false true false false) := by
  refine returns_listed (C := Tryd.checked) (X := fun w _ => laidMetH Tryd.prog fruList w) (fun _ _ _ hh h => h.of_heap hh) own started (by kernel_rfl) Tryd.func7
    (ChangeSpec.witness_shaped (enc := enc) (C := Tryd.checked) (os := os) (X := fun w _ => laidMetH Tryd.prog fruList w) false (World.laidAll Tryd.prog os fruList) #[.slice none 0 0] 8 (World.laidAll_os _ _ _) (World.shaped_of_ZipB (by kernel_rfl) (by kernel_rfl)) (by kernel_rfl) (by kernel_rfl) (by kernel_rfl) (fru_door os _)) ?_
  intro W base args ds gs before hval0 hW hL hsh
  have hval : ∀ (j : Nat) t v, Tryd.f7.params[j]? = some t → args[j]? = some v → Value.okWide Tryd.prog W .any base t v := hval0
  have hW' := hW
  obtain ⟨p, q, hA, -⟩ := hW
  replace hA : DataW.TrodAll enc Tryd.prog W 0 (fun _ => true) true Tryd.f7.params.toList args.toList ds p := hA
  rw [Tryd.params7] at hA hval
  obtain ⟨v0, d0, rfl, rfl, h0⟩ := trodAll_one hA
  obtain ⟨A0, len0, cap0, rfl⟩ := okWide_slice Tryd.underlying44 (hval 0 44 v0 rfl rfl)
  obtain ⟨code, rfl, hlc, hcm, hx, hok⟩ := open_Code h0
  exact My.law_step_vars laidOut Tryd.underlying4 (by kernel_rfl) (by kernel_rfl) (by kernel_rfl) (fun H ds gs hd hg => by match ds, hd, gs, hg with | [_], _, [_], _ => rfl) hW' (law_FnRules A0 cap0 code W (Nat.le_trans hlc hcm) hx hok (fru_met hsh hL))
theorem FnRules_holds : Rows.FnRulesSaid :=
  OpenClaim.holds_of_wide 7 Tryd.f7 rfl rfl rfl rfl rfl rfl rfl ⟨rfl, rfl, rfl, rfl, rfl⟩ rfl rfl rfl rfl rfl (by kernel_rfl) Tryd.func7 (by kernel_rfl)
    (of_decide_eq_true (by kernel_rfl)) (by unfold Func.isWrapper; first | (rw [if_pos (by decide +kernel)]; kernel_rfl) | (rw [if_neg (by decide +kernel)]; exact ⟨rfl, rfl⟩))
    (fun os started H enc _ => FnRules_lifted os started H enc)
theorem FnRules_card : Rows.FnRulesCardSaid :=
  Claim7.holds_tied_plain_at .later [] [.data, .data, .data, .data, .sentinel, .sentinel, .widerDeep, .pinned] true (true, "7405e5b9004a61d15711dc88bc58e1db06fdfb470b8421830b06204959870b35") true
    FnRules_holds (fun _ h => by cases h) (by kernel_rfl) (fun _ h => by cases h) fnRules_row_tie rfl ⟨rfl, rfl⟩ (by kernel_rfl) rfl
    (fun f fn hf hfn => by
      obtain rfl : f = 7 := Option.some.inj ((show Tryd.prog.funcNamed "loop.example/g00909/laws.FnRules" = some 7 by kernel_rfl).symm.trans hf) |>.symm
      obtain rfl : fn = Tryd.f7 := (Option.some.inj (Tryd.func7.symm.trans hfn)).symm
      exact ⟨by kernel_rfl, fun j t ht => by
        rw [Tryd.params7] at ht
        have hm : t ∈ [44] := by simpa using Array.mem_of_getElem? ht
        have hall : ([44].all fun u => !Tryd.prog.wantsStandIn u) = true := by kernel_rfl
        exact (show Tryd.prog.wantsStandIn t = false by simpa using List.all_eq_true.1 hall t hm)⟩)
    (by kernel_rfl)
end Go.Proofs.YtfaphackdhdcaaaDoor
