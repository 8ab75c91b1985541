/-
  FnMembers returns true for every input: the walk, the row over the laid variables, and its tied card. Conditions: none beyond the row's own.
-/
import Derived.Test.YtngheildmhimoaaGreatDoorMemD3
import Derived.Test.YtngheildmhimoaaGreatDoorMemQ
import Derived.Test.YtngheildmhimoaaGreatDoorLaw
import Derived.Test.YtngheildmhimoaaGreatDoorRows
import Derived.Test.YtngheildmhimoaaGreatDoorCards
import Derived.Test.YtngheildmhimoaaGreatDoorTie
import Derived.ProofKit
import Derived.LaidMore
import Derived.OpenShut
import Derived.Stop.Joined
import Derived.Stop.LaidErr
import Derived.HandedShaped
import Derived.SevenTiedAt
import Derived.Lib.LaidTab
import Derived.OpenVars
import Derived.Lay
import Derived.LaidOnce
namespace Go.My
open Go.RowKit
/-- An array of strings that reads as texts holds them, cell for cell. -/
theorem strs_of_tab {H : Type} {enc : TypeId × Value → H} {P : Program} {w : World} {base : Nat} {sp : Nat → Bool} {held : Bool} {fuel : Nat} {t e : TypeId} {n : Nat} {cs : List Value} {ls : List (List UInt8)} {p : List MemPlace}
    (ht : P.underlying t = some (.array n e)) (he : P.underlying e = some .string) (hce : P.cellsOf e = 1) (hct : P.cellsOf t = n)
    (h : DataW.trod enc P w base sp held fuel t cs = some (.agg (ls.map fun l => .lit (.string l)), p)) : ∀ (i : Nat) (l : List UInt8), ls[i]? = some l → ∃ s : ByteArray, cs[i]? = some (.string s) ∧ s.data.toList = l := by
  intro i l hl
  cases fuel with
  | zero => simp [DataW.trod] at h
  | succ fuel =>
    simp only [DataW.trod, ht, hce, hct, Nat.mul_one] at h
    split at h
    · obtain ⟨xs, hm, hx⟩ := Option.map_eq_some_iff.1 h
      have hxs : xs.map (·.1) = ls.map fun l => (DataW.lit (.string l) : DataW H) := by
        have := congrArg Prod.fst hx
        simpa using this
      have hxl : xs.length = n := by simpa using Lib.mapM_length hm
      have hzl : ls.length = n := by
        have := congrArg List.length hxs
        simp at this
        omega
      have hi : i < n := by have := (List.getElem?_eq_some_iff.1 hl).1; omega
      obtain ⟨b, hb, hf⟩ := Lib.mapM_at hm i i (by simp [hi])
      obtain ⟨s, hc, rfl, _⟩ := DataW.trod_string he hf
      refine ⟨s, ?_, ?_⟩
      · have := congrArg (·[0]?) hc
        simpa [List.getElem?_take, List.getElem?_drop] using this
      · have h2 : (xs.map (·.1))[i]? = some (DataW.lit (.string s.data.toList) : DataW H) := by simp [hb]
        rw [hxs] at h2
        simp only [List.getElem?_map, hl, Option.map_some, Option.some.injEq, DataW.lit.injEq, Lit.string.injEq] at h2
        exact h2.symm
    · cases h
end Go.My
namespace Go.My
open Go.ChangeShapes Go.WideShapes Go.ChangeAt Go.RowKit
/-- The condition on a law's specification that names variables: it says true, and that arguments and variables read as they did. -/
def SaysTrueV (s : ChangeSpec) (n m : Nat) : Prop := ∀ (H : Type) (ds gs : List (DataW H)), ds.length = n → gs.length = m → s.fn H (ds ++ gs) = { results := [.lit (.bool true)], args := ds, vars := gs }
theorem trodVars_length {H : Type} {enc : TypeId × Value → H} {P : Program} {W : World} {sp : Nat → Bool} : ∀ {ns : List String} {gs : List (DataW H)} {ps : List MemPlace}, DataW.TrodVars enc P W sp ns gs ps → gs.length = ns.length
  | [], [], _, _ => rfl
  | [], _ :: _, _, h => h.elim
  | _ :: _, [], _, h => h.elim
  | _ :: ns, _ :: gs, _, h => by
    obtain ⟨g, t, cs, fuel, p, q, _, _, _, _, hs, _⟩ := h
    simp [trodVars_length hs]
theorem law_step_vars {H : Type} {enc : TypeId × Value → H} {P : Program} {fn : Func} {s : ChangeSpec} {T : TypeId} (hl : laidOutB P = true) (hT : P.underlying T = some .bool) (hres : fn.resultTypes = #[T])
    (hpar : (fn.params.toList.all fun t => P.readableRec t && decide (t < P.types.size)) = true) (hvars : varsRowed P s.vars = true) (hsays : SaysTrueV s fn.params.toList.length s.vars.length)
    {f : FuncId} {W : World} {args : Array Value} {ds gs : List (DataW H)} {before : List MemPlace} (hW : DataW.Whole enc P fn.params.toList s.vars false W args.toList ds gs before)
    (walk : Calls P f args W fun e w' => e = .returned (.bool true) ∧ Below W.heap.size W w') :
    Calls P f args W fun e W' => ∃ v, e = .returned v ∧ s.post enc P fn false true false false W args v W' := by
  refine walk.mono fun e W' ⟨he, hb⟩ => ⟨_, he, ?_⟩
  have hW0 := hW
  obtain ⟨p, q, hA, hV, rfl, hfz, hnd⟩ := hW
  have e0 : s.fn H (ds ++ gs) = { results := [.lit (.bool true)], args := ds, vars := gs } := hsays H ds gs (trodAll_length hA) (trodVars_length hV)
  have hlt : ∀ x ∈ p, x.block < W.heap.size := fun x hx => hA.lt x hx
  refine ⟨ds, gs, p ++ q, [], p, q, hW0, ?_, ?_, ?_, hb.frame _, fun h => by cases h⟩
  · rw [e0, hres]
    exact trodAll_mk1 (shut_bool hT true)
  · rw [e0]
    exact trodAll_below hl hb hpar hA hlt
  · rw [e0]
    exact Below.trodVars hl hb hvars hV
end Go.My
namespace Go.My
open Go.RowKit
def codeCells (xs : List Int) : List Value := xs.map (Value.int .u8)
theorem rdCode_of {w : World} {A : Option Addr} {xs : List Int} (h : Rd w A (codeCells xs)) (hb : ∀ x ∈ xs, 0 ≤ x ∧ x < 256) : RdCode w A xs.length := by
  rcases h with h | ⟨b, off, rfl, hc⟩
  · left; cases xs with | nil => rfl | cons x xs => simp [codeCells] at h
  · refine .inr ⟨b, off, rfl, fun j hj => ⟨xs[j], (hb _ (List.getElem_mem hj)).1, (hb _ (List.getElem_mem hj)).2, ?_⟩⟩
    have := hc j (by simpa [codeCells] using hj)
    rw [this]; simp [codeCells]
end Go.My
namespace Go.Proofs.YtngheildmhimoaaGreatDoor
open Go.ChangeMaps (open_string shut_string)
open Go.ChangeShapes Go.WideShapes Go.ChangeAt Go.WideMaps Go.WideElems Go.RowKit Go.My
theorem codeCells_flat (xs : List Int) : xs.flatMap (fun x => [Value.int .u8 x]) = codeCells xs := by
  induction xs with
  | nil => rfl
  | cons x r ih => simp [codeCells] at ih ⊢; exact ih
theorem open_Code {H : Type} {enc : TypeId × Value → H} {w : World} {A : Option Addr} {len cap : Nat} {d : DataW H} {ps : List MemPlace} (h : DataW.Trod enc Tryz.prog w 0 (fun _ => true) true 22 (.slice A len cap) d ps) :
    ∃ xs : List Int, xs.length = len ∧ len ≤ cap ∧ cap ≤ maxLen ∧ Rd w A (codeCells xs) ∧ ∀ b ∈ xs, 0 ≤ b ∧ b < 256 := by
  obtain ⟨xs, h1, h2, h3, h4, h5⟩ := open_list (fun x : Int => [Value.int .u8 x]) (fun b => 0 ≤ b ∧ b < 256) 1 (fun _ => rfl) (by decide) Tryz.underlying22 (by kernel_rfl) (fun n cs x hx => by
    obtain ⟨n1, e1, _, w1⟩ := DataW.trod_int Tryz.underlying5 hx
    refine ⟨n1, e1, ?_⟩
    simp [Lit.wf, IntKind.min, IntKind.max, IntKind.signed, IntKind.bits] at w1
    omega) h
  exact ⟨xs, h1, h2, h3, by rw [← codeCells_flat]; exact h4, h5⟩
theorem big_any (A : Option Addr) (n c : Nat) (w : World) : Calls Tryz.prog 4 #[.slice A n c] w fun e w' => e = .returned (.bool (decide ((65536 : Int) < n))) ∧ w = w' := by
  go_enter Tryz.func4, Tryz.ntmps4
  go_wp2
  go_ret
  exact ⟨rfl, rfl⟩
set_option maxHeartbeats 64000000 in
set_option maxRecDepth 100000 in
theorem law_FnMembers (A : Option Addr) (c : Nat) (code : List Int) (w : World) (hn : code.length ≤ maxLen) (hx : Rd w A (codeCells code)) (hok : ∀ b ∈ code, 0 ≤ b ∧ b < 256) (hdoor : MemDoor w) :
    Calls Tryz.prog 3 #[.slice A code.length c] w fun e w' => e = .returned (.bool true) ∧ Below w.heap.size w w' := by
  have HR := Lib.hid (rdCode_of hx hok)
  clear hx hok
  by_cases hbig : 65536 < code.length
  · have hbI : decide ((65536 : Int) < (code.length : Int)) = true := by simp; omega
    go_enter Tryz.func3, Tryz.ntmps3
    go_wp2_with (go_at_call 4; refine (big_any A _ c w).mono ?_; rintro e w1 ⟨rfl, rfl⟩)
    go_ret
    exact ⟨rfl, Below.refl _ _⟩
  have hbI : decide ((65536 : Int) < (code.length : Int)) = false := by simp; omega
  generalize code.length = n at *
  go_enter Tryz.func3, Tryz.ntmps3
  go_wp2_with (go_at_call 4; refine (big_any A n c w).mono ?_; rintro e w0 ⟨rfl, rfl⟩)
  go_wp2_with fail
  refine (drawAdmit_any A n c w hn HR.out).mono ?_
  rintro e w1 ⟨A1, c1, xs, nm, rfl, hx13, HX, hnm, ho1, hb⟩
  go_wp2_with fail
  refine (admit_any A1 c1 xs nm w1 (by unfold maxLen; omega) (own_le ho1) (own_rd ho1) (fun s hs => by have := HX s hs; unfold maxLen; omega) (by unfold maxLen; omega)).mono ?_
  rintro e w2 ⟨A2, c2, rfl, ho2, hbq⟩
  replace hb := btr hb hbq
  replace ho1 := own_below ho1 hbq
  go_wp2_with fail
  refine (specAdmit_any A1 c1 xs nm w2 (by unfold maxLen; omega) (own_le ho1) (own_rd ho1) (fun s hs => by have := HX s hs; unfold maxLen; omega) (by unfold maxLen; omega)).mono ?_
  rintro e w3 ⟨A3, c3, rfl, ho3, hbq2⟩
  replace hb := btr hb hbq2
  replace ho1 := own_below ho1 hbq2
  replace ho2 := own_below ho2 hbq2
  have HAL := Lib.hid (admit_law (xs := xs) (name := nm))
  have HAN : Hid (∀ s ∈ (admitR xs nm).1, s.name.size ≤ 11) := admit_names (fun s hs => Nat.le_trans (HX s hs) (by decide)) hnm
  have hA14 : (admitR xs nm).1.length ≤ 14 := Nat.le_trans (admit_len xs nm) (by omega)
  clear hbq hbq2 HX
  generalize admitR xs nm = R at *
  obtain ⟨AL, num, ok⟩ := R
  simp only at hA14 ho2 ho3
  go_wp2_with fail
  refine (rMembers_any A2 A3 c2 c3 AL w3 (by unfold maxLen; omega) (own_rd ho2) (own_rd ho3)).mono ?_
  rintro e W ⟨rfl, hbq⟩
  replace hb := btr hb hbq
  replace ho1 := own_below ho1 hbq
  replace ho2 := own_below ho2 hbq
  clear ho3 hbq
  cases ok with
  | false =>
    clear HAL HAN ho1 ho2
    go_wp2_with fail
    refine (drawExpel_any A n c W hn (HR.out.below hb)).mono ?_
    rintro e u1 ⟨A4, c4, ls, num, rfl, hl13, HLS, ho4, hbq⟩
    replace hb := btr hb hbq
    go_wp2_with fail
    refine (expel_any A4 c4 ls num u1 (by unfold maxLen; omega) (own_le ho4) (own_rd ho4) (fun s hs => by have := HLS s hs; unfold maxLen; omega)).mono ?_
    rintro e u2 ⟨A5, c5, rfl, ho5, hbq2⟩
    replace hb := btr hb hbq2
    replace ho4 := own_below ho4 hbq2
    go_wp2_with fail
    refine (specExpel_any A4 c4 ls num u2 (by unfold maxLen; omega) (own_le ho4) (own_rd ho4) (fun s hs => by have := HLS s hs; unfold maxLen; omega)).mono ?_
    rintro e u3 ⟨A6, c6, rfl, ho6, hbq3⟩
    replace hb := btr hb hbq3
    replace ho5 := own_below ho5 hbq3
    have hrl : (expelR ls num).2 = true → ((expelR ls num).1.length : Int) = (ls.length : Int) - 1 := fun h => by have := (expel_law (xs := ls) (n := num)).1 h; omega
    have hR13 : (expelR ls num).1.length ≤ 13 := Nat.le_trans (expel_law (xs := ls) (n := num)).2 hl13
    clear hbq hbq2 hbq3 HLS ho4
    generalize expelR ls num = R at *
    obtain ⟨RL, fine⟩ := R
    simp only at hR13
    cases fine with
    | false =>
      clear hrl
      go_wp2_with fail
      refine (rMembers_any A5 A6 c5 c6 RL u3 (by unfold maxLen; omega) (own_rd ho5) (own_rd ho6)).mono ?_
      rintro e u4 ⟨rfl, hbq4⟩
      replace hb := btr hb hbq4
      clear ho5 ho6 hbq4
      go_wp2_with fail
      refine (drawText_any A n c u4 hn (HR.out.below hb)).mono ?_
      rintro e v1 ⟨A1, c1, xs, rfl, hl, hs, ho, hbv⟩
      have hbA := btr hb hbv
      have hle := own_le ho
      have hsz : ∀ s ∈ xs, s.name.size ≤ maxLen := fun s h => by have := hs s h; unfold maxLen; omega
      have HST : Hid (∀ v, Rd v A1 (memCells xs) → Calls Tryz.prog 15 #[.slice A1 xs.length c1] v fun e w' => e = .returned (.tuple #[.string (textR xs).1, .bool (textR xs).2]) ∧ Below v.heap.size v w') := fun v h => specText_any A1 c1 xs v (by unfold maxLen; omega) hle h hsz
      have HIV : Hid (∀ v, Rd v A1 (memCells xs) → Calls Tryz.prog 10 #[.slice A1 xs.length c1] v fun e w' => e = .returned (.bool (goodMem xs)) ∧ Below v.heap.size v w') := fun v h => isMembers_any A1 c1 xs v (by unfold maxLen; omega) hle h hsz
      go_wp2_with fail
      refine (implText_any A1 c1 xs v1 (by unfold maxLen; omega) hle (own_rd ho) hsz (hdoor.below hbA).1).mono ?_
      rintro e v2 ⟨rfl, hbv2⟩
      have hbB := btr hbA hbv2
      replace ho := own_below ho hbv2
      clear hsz
      cases hg : goodMem xs with
      | false =>
        have HTX : textR xs = (⟨#[]⟩, false) := if_neg (by rw [hg]; decide)
        rw [HTX] at HST ⊢
        rw [hg] at HIV
        clear HTX hg hs
        go_wp2_with fail
        refine (HST.out v2 (own_rd ho)).mono ?_
        rintro e v3 ⟨rfl, hbv3⟩
        have hbC := btr hbB hbv3
        replace ho := own_below ho hbv3
        have hRx := own_rd ho
        go_wp2_with (go_at_call 10; refine (HIV.out _ hRx).mono ?_; rintro e v4 ⟨rfl, hbv4⟩)
        have hbD := btr hbC hbv4
        replace ho := own_below ho hbv4
        refine (implParseMembers_any ⟨#[]⟩ v4 (by decide) (hdoor.below hbD)).mono ?_
        rintro e v5 ⟨L3, b3, A3, c3, rfl, ho3, -, hbv5⟩
        have hbE := btr hbD hbv5
        replace ho := own_below ho hbv5
        clear HST HIV ho ho3 hbA hbB hbC hbD hbv hbv2 hbv3 hbv4 hbv5 hRx hle hl
        go_wp2_with fail
        refine (drawParse_any A n c v5 hn (HR.out.below hbE)).mono ?_
        rintro e x1 ⟨x, rfl, hx, hbq⟩
        have hz1 := btr hbE hbq
        go_wp2_with fail
        refine (implParseMembers_any x x1 (by omega) (hdoor.below hz1)).mono ?_
        rintro e x2 ⟨L, b, A6, c6, rfl, ho6, hp6, hbq2⟩
        have hz2 := btr hz1 hbq2
        have HS2 : Hid (∀ v, Calls Tryz.prog 18 #[.string x] v fun e w' => ∃ A' c', e = .returned (.tuple #[.slice A' L.length c', .bool b]) ∧ w'.ownsRow v.heap.size 54 3 (.slice A' L.length c') L.length (memCells L) ∧ Below v.heap.size v w') := fun v => (specParseMembers_any x v (by omega)).mono fun e w' h => by
          obtain ⟨L2, b2, A', c', he, ho9, hp, hb9⟩ := h
          obtain ⟨rfl, rfl⟩ := parseM_unique hp hp6
          exact ⟨A', c', he, ho9, hb9⟩
        have hL8 : L.length ≤ 12 := (parseM_len hp6).1
        clear hp6
        go_wp2_with fail
        refine (HS2.out x2).mono ?_
        rintro e x3 ⟨A7, c7, rfl, ho7, hbq3⟩
        have hz3 := btr hz2 hbq3
        replace ho6 := own_below ho6 hbq3
        clear HS2
        go_wp2_with fail
        refine (rMembers_any A6 A7 c6 c7 L x3 (by unfold maxLen; omega) (own_rd ho6) (own_rd ho7)).mono ?_
        rintro e x4 ⟨rfl, hbq4⟩
        have hz4 := btr hz3 hbq4
        clear ho6 ho7 hbq hbq2 hbq3 hbq4 hz1 hz2 hz3 hx
        go_wp2_with fail
        refine (drawByName_any A n c x4 hn (HR.out.below hz4)).mono ?_
        rintro e y3 ⟨A8, c8, us, rfl, hu13, HU, ho8, hbq⟩
        have hb7 := btr hz4 hbq
        go_wp2_with fail
        refine (byName_any A8 c8 us y3 (by unfold maxLen; omega) (own_le ho8) (own_rd ho8) (fun s hs => by have := HU s hs; unfold maxLen; omega)).mono ?_
        rintro e y4 ⟨A9, c9, rfl, ho9, hbq2⟩
        have hb8 := btr hb7 hbq2
        replace ho8 := own_below ho8 hbq2
        go_wp2_with fail
        refine (specByName_any A8 c8 us y4 (by unfold maxLen; omega) (own_le ho8) (own_rd ho8) (fun s hs => by have := HU s hs; unfold maxLen; omega)).mono ?_
        rintro e y5 ⟨A10, c10, rfl, ho10, hbq3⟩
        have hb9 := btr hb8 hbq3
        replace ho9 := own_below ho9 hbq3
        have hgl : (byNameR us).2 = true → ((byNameR us).1.length : Int) = (us.length : Int) := fun h => by rw [byName_law h]
        have hNl : (byNameR us).1.length ≤ 13 := Nat.le_trans (byNameR_len us) hu13
        clear ho8 hbq hbq2 hbq3 HU hb7 hb8
        generalize byNameR us = R at *
        obtain ⟨N, good⟩ := R
        simp only at hNl
        cases good with
        | false =>
          clear hgl
          go_wp2_with fail
          refine (rInts_any A9 A10 c9 c10 N y5 (by unfold maxLen; omega) (own_rd ho9) (own_rd ho10)).mono ?_
          rintro e y6 ⟨rfl, hb6⟩
          go_wp2
          go_ret
          exact ⟨rfl, btr hb9 hb6⟩
        | true =>
          have hgI := hgl rfl
          clear hgl
          go_wp2_with fail
          refine (rInts_any A9 A10 c9 c10 N y5 (by unfold maxLen; omega) (own_rd ho9) (own_rd ho10)).mono ?_
          rintro e y6 ⟨rfl, hb6⟩
          go_wp2
          go_ret
          exact ⟨rfl, btr hb9 hb6⟩
      | true =>
        have HTX : textR xs = (⟨(textG lineM xs).toArray⟩, true) := if_pos hg
        have hTs : (textR xs).1.size ≤ 372 := textR_size xs
        rw [HTX] at HST hTs ⊢
        rw [hg] at HIV
        simp only at hTs
        have HPS : Hid (∀ v, Below w.heap.size w v → Calls Tryz.prog 16 #[.string ⟨(textG lineM xs).toArray⟩] v fun e w' => ∃ A' c', e = .returned (.tuple #[.slice A' xs.length c', .bool true]) ∧ w'.ownsRow v.heap.size 54 3 (.slice A' xs.length c') xs.length (memCells xs) ∧ Below v.heap.size v w') := fun v hb => (implParseMembers_any _ v (by omega) (hdoor.below hb)).mono fun e w' h => by
          obtain ⟨L2, b2, A', c', he, ho9, hp, hb9⟩ := h
          obtain ⟨rfl, rfl⟩ := parseM_unique hp (.inl ⟨rfl, hg, rfl⟩)
          exact ⟨A', c', he, ho9, hb9⟩
        generalize (⟨(textG lineM xs).toArray⟩ : ByteArray) = TX at *
        clear HTX hTs hg hs
        go_wp2_with fail
        refine (HST.out v2 (own_rd ho)).mono ?_
        rintro e v3 ⟨rfl, hbv3⟩
        have hbC := btr hbB hbv3
        replace ho := own_below ho hbv3
        have hRx := own_rd ho
        go_wp2_with (go_at_call 10; refine (HIV.out _ hRx).mono ?_; rintro e v4 ⟨rfl, hbv4⟩)
        have hbD := btr hbC hbv4
        replace ho := own_below ho hbv4
        refine (HPS.out v4 hbD).mono ?_
        rintro e v5 ⟨A3, c3, rfl, ho3, hbv5⟩
        have hbE := btr hbD hbv5
        replace ho := own_below ho hbv5
        have HVX := Lib.hid (rMembers_any A3 A1 c3 c1 xs v5 (by unfold maxLen; omega) (own_rd ho3) (own_rd ho))
        clear HST HIV HPS
        go_wp2_with (go_at_call 8; refine HVX.out.mono ?_; rintro e v6 ⟨rfl, hbv6⟩)
        have hbF := btr hbE hbv6
        clear HVX ho ho3 hbA hbB hbC hbD hbE hbv hbv2 hbv3 hbv4 hbv5 hbv6 hRx hle hl
        refine (drawParse_any A n c v6 hn (HR.out.below hbF)).mono ?_
        rintro e x1 ⟨x, rfl, hx, hbq⟩
        have hz1 := btr hbF hbq
        go_wp2_with fail
        refine (implParseMembers_any x x1 (by omega) (hdoor.below hz1)).mono ?_
        rintro e x2 ⟨L, b, A6, c6, rfl, ho6, hp6, hbq2⟩
        have hz2 := btr hz1 hbq2
        have HS2 : Hid (∀ v, Calls Tryz.prog 18 #[.string x] v fun e w' => ∃ A' c', e = .returned (.tuple #[.slice A' L.length c', .bool b]) ∧ w'.ownsRow v.heap.size 54 3 (.slice A' L.length c') L.length (memCells L) ∧ Below v.heap.size v w') := fun v => (specParseMembers_any x v (by omega)).mono fun e w' h => by
          obtain ⟨L2, b2, A', c', he, ho9, hp, hb9⟩ := h
          obtain ⟨rfl, rfl⟩ := parseM_unique hp hp6
          exact ⟨A', c', he, ho9, hb9⟩
        have hL8 : L.length ≤ 12 := (parseM_len hp6).1
        clear hp6
        go_wp2_with fail
        refine (HS2.out x2).mono ?_
        rintro e x3 ⟨A7, c7, rfl, ho7, hbq3⟩
        have hz3 := btr hz2 hbq3
        replace ho6 := own_below ho6 hbq3
        clear HS2
        go_wp2_with fail
        refine (rMembers_any A6 A7 c6 c7 L x3 (by unfold maxLen; omega) (own_rd ho6) (own_rd ho7)).mono ?_
        rintro e x4 ⟨rfl, hbq4⟩
        have hz4 := btr hz3 hbq4
        clear ho6 ho7 hbq hbq2 hbq3 hbq4 hz1 hz2 hz3 hx
        go_wp2_with fail
        refine (drawByName_any A n c x4 hn (HR.out.below hz4)).mono ?_
        rintro e y3 ⟨A8, c8, us, rfl, hu13, HU, ho8, hbq⟩
        have hb7 := btr hz4 hbq
        go_wp2_with fail
        refine (byName_any A8 c8 us y3 (by unfold maxLen; omega) (own_le ho8) (own_rd ho8) (fun s hs => by have := HU s hs; unfold maxLen; omega)).mono ?_
        rintro e y4 ⟨A9, c9, rfl, ho9, hbq2⟩
        have hb8 := btr hb7 hbq2
        replace ho8 := own_below ho8 hbq2
        go_wp2_with fail
        refine (specByName_any A8 c8 us y4 (by unfold maxLen; omega) (own_le ho8) (own_rd ho8) (fun s hs => by have := HU s hs; unfold maxLen; omega)).mono ?_
        rintro e y5 ⟨A10, c10, rfl, ho10, hbq3⟩
        have hb9 := btr hb8 hbq3
        replace ho9 := own_below ho9 hbq3
        have hgl : (byNameR us).2 = true → ((byNameR us).1.length : Int) = (us.length : Int) := fun h => by rw [byName_law h]
        have hNl : (byNameR us).1.length ≤ 13 := Nat.le_trans (byNameR_len us) hu13
        clear ho8 hbq hbq2 hbq3 HU hb7 hb8
        generalize byNameR us = R at *
        obtain ⟨N, good⟩ := R
        simp only at hNl
        cases good with
        | false =>
          clear hgl
          go_wp2_with fail
          refine (rInts_any A9 A10 c9 c10 N y5 (by unfold maxLen; omega) (own_rd ho9) (own_rd ho10)).mono ?_
          rintro e y6 ⟨rfl, hb6⟩
          go_wp2
          go_ret
          exact ⟨rfl, btr hb9 hb6⟩
        | true =>
          have hgI := hgl rfl
          clear hgl
          go_wp2_with fail
          refine (rInts_any A9 A10 c9 c10 N y5 (by unfold maxLen; omega) (own_rd ho9) (own_rd ho10)).mono ?_
          rintro e y6 ⟨rfl, hb6⟩
          go_wp2
          go_ret
          exact ⟨rfl, btr hb9 hb6⟩
    | true =>
      have hrI := hrl rfl
      have hrw : IntKind.i64.wrap ((ls.length : Int) - 1) = (ls.length : Int) - 1 := by rw [IntKind.wrap_i64]; omega
      clear hrl
      go_wp2_with fail
      refine (rMembers_any A5 A6 c5 c6 RL u3 (by unfold maxLen; omega) (own_rd ho5) (own_rd ho6)).mono ?_
      rintro e u4 ⟨rfl, hbq4⟩
      replace hb := btr hb hbq4
      clear ho5 ho6 hbq4
      go_wp2_with fail
      refine (drawText_any A n c u4 hn (HR.out.below hb)).mono ?_
      rintro e v1 ⟨A1, c1, xs, rfl, hl, hs, ho, hbv⟩
      have hbA := btr hb hbv
      have hle := own_le ho
      have hsz : ∀ s ∈ xs, s.name.size ≤ maxLen := fun s h => by have := hs s h; unfold maxLen; omega
      have HST : Hid (∀ v, Rd v A1 (memCells xs) → Calls Tryz.prog 15 #[.slice A1 xs.length c1] v fun e w' => e = .returned (.tuple #[.string (textR xs).1, .bool (textR xs).2]) ∧ Below v.heap.size v w') := fun v h => specText_any A1 c1 xs v (by unfold maxLen; omega) hle h hsz
      have HIV : Hid (∀ v, Rd v A1 (memCells xs) → Calls Tryz.prog 10 #[.slice A1 xs.length c1] v fun e w' => e = .returned (.bool (goodMem xs)) ∧ Below v.heap.size v w') := fun v h => isMembers_any A1 c1 xs v (by unfold maxLen; omega) hle h hsz
      go_wp2_with fail
      refine (implText_any A1 c1 xs v1 (by unfold maxLen; omega) hle (own_rd ho) hsz (hdoor.below hbA).1).mono ?_
      rintro e v2 ⟨rfl, hbv2⟩
      have hbB := btr hbA hbv2
      replace ho := own_below ho hbv2
      clear hsz
      cases hg : goodMem xs with
      | false =>
        have HTX : textR xs = (⟨#[]⟩, false) := if_neg (by rw [hg]; decide)
        rw [HTX] at HST ⊢
        rw [hg] at HIV
        clear HTX hg hs
        go_wp2_with fail
        refine (HST.out v2 (own_rd ho)).mono ?_
        rintro e v3 ⟨rfl, hbv3⟩
        have hbC := btr hbB hbv3
        replace ho := own_below ho hbv3
        have hRx := own_rd ho
        go_wp2_with (go_at_call 10; refine (HIV.out _ hRx).mono ?_; rintro e v4 ⟨rfl, hbv4⟩)
        have hbD := btr hbC hbv4
        replace ho := own_below ho hbv4
        refine (implParseMembers_any ⟨#[]⟩ v4 (by decide) (hdoor.below hbD)).mono ?_
        rintro e v5 ⟨L3, b3, A3, c3, rfl, ho3, -, hbv5⟩
        have hbE := btr hbD hbv5
        replace ho := own_below ho hbv5
        clear HST HIV ho ho3 hbA hbB hbC hbD hbv hbv2 hbv3 hbv4 hbv5 hRx hle hl
        go_wp2_with fail
        refine (drawParse_any A n c v5 hn (HR.out.below hbE)).mono ?_
        rintro e x1 ⟨x, rfl, hx, hbq⟩
        have hz1 := btr hbE hbq
        go_wp2_with fail
        refine (implParseMembers_any x x1 (by omega) (hdoor.below hz1)).mono ?_
        rintro e x2 ⟨L, b, A6, c6, rfl, ho6, hp6, hbq2⟩
        have hz2 := btr hz1 hbq2
        have HS2 : Hid (∀ v, Calls Tryz.prog 18 #[.string x] v fun e w' => ∃ A' c', e = .returned (.tuple #[.slice A' L.length c', .bool b]) ∧ w'.ownsRow v.heap.size 54 3 (.slice A' L.length c') L.length (memCells L) ∧ Below v.heap.size v w') := fun v => (specParseMembers_any x v (by omega)).mono fun e w' h => by
          obtain ⟨L2, b2, A', c', he, ho9, hp, hb9⟩ := h
          obtain ⟨rfl, rfl⟩ := parseM_unique hp hp6
          exact ⟨A', c', he, ho9, hb9⟩
        have hL8 : L.length ≤ 12 := (parseM_len hp6).1
        clear hp6
        go_wp2_with fail
        refine (HS2.out x2).mono ?_
        rintro e x3 ⟨A7, c7, rfl, ho7, hbq3⟩
        have hz3 := btr hz2 hbq3
        replace ho6 := own_below ho6 hbq3
        clear HS2
        go_wp2_with fail
        refine (rMembers_any A6 A7 c6 c7 L x3 (by unfold maxLen; omega) (own_rd ho6) (own_rd ho7)).mono ?_
        rintro e x4 ⟨rfl, hbq4⟩
        have hz4 := btr hz3 hbq4
        clear ho6 ho7 hbq hbq2 hbq3 hbq4 hz1 hz2 hz3 hx
        go_wp2_with fail
        refine (drawByName_any A n c x4 hn (HR.out.below hz4)).mono ?_
        rintro e y3 ⟨A8, c8, us, rfl, hu13, HU, ho8, hbq⟩
        have hb7 := btr hz4 hbq
        go_wp2_with fail
        refine (byName_any A8 c8 us y3 (by unfold maxLen; omega) (own_le ho8) (own_rd ho8) (fun s hs => by have := HU s hs; unfold maxLen; omega)).mono ?_
        rintro e y4 ⟨A9, c9, rfl, ho9, hbq2⟩
        have hb8 := btr hb7 hbq2
        replace ho8 := own_below ho8 hbq2
        go_wp2_with fail
        refine (specByName_any A8 c8 us y4 (by unfold maxLen; omega) (own_le ho8) (own_rd ho8) (fun s hs => by have := HU s hs; unfold maxLen; omega)).mono ?_
        rintro e y5 ⟨A10, c10, rfl, ho10, hbq3⟩
        have hb9 := btr hb8 hbq3
        replace ho9 := own_below ho9 hbq3
        have hgl : (byNameR us).2 = true → ((byNameR us).1.length : Int) = (us.length : Int) := fun h => by rw [byName_law h]
        have hNl : (byNameR us).1.length ≤ 13 := Nat.le_trans (byNameR_len us) hu13
        clear ho8 hbq hbq2 hbq3 HU hb7 hb8
        generalize byNameR us = R at *
        obtain ⟨N, good⟩ := R
        simp only at hNl
        cases good with
        | false =>
          clear hgl
          go_wp2_with fail
          refine (rInts_any A9 A10 c9 c10 N y5 (by unfold maxLen; omega) (own_rd ho9) (own_rd ho10)).mono ?_
          rintro e y6 ⟨rfl, hb6⟩
          go_wp2
          go_ret
          exact ⟨rfl, btr hb9 hb6⟩
        | true =>
          have hgI := hgl rfl
          clear hgl
          go_wp2_with fail
          refine (rInts_any A9 A10 c9 c10 N y5 (by unfold maxLen; omega) (own_rd ho9) (own_rd ho10)).mono ?_
          rintro e y6 ⟨rfl, hb6⟩
          go_wp2
          go_ret
          exact ⟨rfl, btr hb9 hb6⟩
      | true =>
        have HTX : textR xs = (⟨(textG lineM xs).toArray⟩, true) := if_pos hg
        have hTs : (textR xs).1.size ≤ 372 := textR_size xs
        rw [HTX] at HST hTs ⊢
        rw [hg] at HIV
        simp only at hTs
        have HPS : Hid (∀ v, Below w.heap.size w v → Calls Tryz.prog 16 #[.string ⟨(textG lineM xs).toArray⟩] v fun e w' => ∃ A' c', e = .returned (.tuple #[.slice A' xs.length c', .bool true]) ∧ w'.ownsRow v.heap.size 54 3 (.slice A' xs.length c') xs.length (memCells xs) ∧ Below v.heap.size v w') := fun v hb => (implParseMembers_any _ v (by omega) (hdoor.below hb)).mono fun e w' h => by
          obtain ⟨L2, b2, A', c', he, ho9, hp, hb9⟩ := h
          obtain ⟨rfl, rfl⟩ := parseM_unique hp (.inl ⟨rfl, hg, rfl⟩)
          exact ⟨A', c', he, ho9, hb9⟩
        generalize (⟨(textG lineM xs).toArray⟩ : ByteArray) = TX at *
        clear HTX hTs hg hs
        go_wp2_with fail
        refine (HST.out v2 (own_rd ho)).mono ?_
        rintro e v3 ⟨rfl, hbv3⟩
        have hbC := btr hbB hbv3
        replace ho := own_below ho hbv3
        have hRx := own_rd ho
        go_wp2_with (go_at_call 10; refine (HIV.out _ hRx).mono ?_; rintro e v4 ⟨rfl, hbv4⟩)
        have hbD := btr hbC hbv4
        replace ho := own_below ho hbv4
        refine (HPS.out v4 hbD).mono ?_
        rintro e v5 ⟨A3, c3, rfl, ho3, hbv5⟩
        have hbE := btr hbD hbv5
        replace ho := own_below ho hbv5
        have HVX := Lib.hid (rMembers_any A3 A1 c3 c1 xs v5 (by unfold maxLen; omega) (own_rd ho3) (own_rd ho))
        clear HST HIV HPS
        go_wp2_with (go_at_call 8; refine HVX.out.mono ?_; rintro e v6 ⟨rfl, hbv6⟩)
        have hbF := btr hbE hbv6
        clear HVX ho ho3 hbA hbB hbC hbD hbE hbv hbv2 hbv3 hbv4 hbv5 hbv6 hRx hle hl
        refine (drawParse_any A n c v6 hn (HR.out.below hbF)).mono ?_
        rintro e x1 ⟨x, rfl, hx, hbq⟩
        have hz1 := btr hbF hbq
        go_wp2_with fail
        refine (implParseMembers_any x x1 (by omega) (hdoor.below hz1)).mono ?_
        rintro e x2 ⟨L, b, A6, c6, rfl, ho6, hp6, hbq2⟩
        have hz2 := btr hz1 hbq2
        have HS2 : Hid (∀ v, Calls Tryz.prog 18 #[.string x] v fun e w' => ∃ A' c', e = .returned (.tuple #[.slice A' L.length c', .bool b]) ∧ w'.ownsRow v.heap.size 54 3 (.slice A' L.length c') L.length (memCells L) ∧ Below v.heap.size v w') := fun v => (specParseMembers_any x v (by omega)).mono fun e w' h => by
          obtain ⟨L2, b2, A', c', he, ho9, hp, hb9⟩ := h
          obtain ⟨rfl, rfl⟩ := parseM_unique hp hp6
          exact ⟨A', c', he, ho9, hb9⟩
        have hL8 : L.length ≤ 12 := (parseM_len hp6).1
        clear hp6
        go_wp2_with fail
        refine (HS2.out x2).mono ?_
        rintro e x3 ⟨A7, c7, rfl, ho7, hbq3⟩
        have hz3 := btr hz2 hbq3
        replace ho6 := own_below ho6 hbq3
        clear HS2
        go_wp2_with fail
        refine (rMembers_any A6 A7 c6 c7 L x3 (by unfold maxLen; omega) (own_rd ho6) (own_rd ho7)).mono ?_
        rintro e x4 ⟨rfl, hbq4⟩
        have hz4 := btr hz3 hbq4
        clear ho6 ho7 hbq hbq2 hbq3 hbq4 hz1 hz2 hz3 hx
        go_wp2_with fail
        refine (drawByName_any A n c x4 hn (HR.out.below hz4)).mono ?_
        rintro e y3 ⟨A8, c8, us, rfl, hu13, HU, ho8, hbq⟩
        have hb7 := btr hz4 hbq
        go_wp2_with fail
        refine (byName_any A8 c8 us y3 (by unfold maxLen; omega) (own_le ho8) (own_rd ho8) (fun s hs => by have := HU s hs; unfold maxLen; omega)).mono ?_
        rintro e y4 ⟨A9, c9, rfl, ho9, hbq2⟩
        have hb8 := btr hb7 hbq2
        replace ho8 := own_below ho8 hbq2
        go_wp2_with fail
        refine (specByName_any A8 c8 us y4 (by unfold maxLen; omega) (own_le ho8) (own_rd ho8) (fun s hs => by have := HU s hs; unfold maxLen; omega)).mono ?_
        rintro e y5 ⟨A10, c10, rfl, ho10, hbq3⟩
        have hb9 := btr hb8 hbq3
        replace ho9 := own_below ho9 hbq3
        have hgl : (byNameR us).2 = true → ((byNameR us).1.length : Int) = (us.length : Int) := fun h => by rw [byName_law h]
        have hNl : (byNameR us).1.length ≤ 13 := Nat.le_trans (byNameR_len us) hu13
        clear ho8 hbq hbq2 hbq3 HU hb7 hb8
        generalize byNameR us = R at *
        obtain ⟨N, good⟩ := R
        simp only at hNl
        cases good with
        | false =>
          clear hgl
          go_wp2_with fail
          refine (rInts_any A9 A10 c9 c10 N y5 (by unfold maxLen; omega) (own_rd ho9) (own_rd ho10)).mono ?_
          rintro e y6 ⟨rfl, hb6⟩
          go_wp2
          go_ret
          exact ⟨rfl, btr hb9 hb6⟩
        | true =>
          have hgI := hgl rfl
          clear hgl
          go_wp2_with fail
          refine (rInts_any A9 A10 c9 c10 N y5 (by unfold maxLen; omega) (own_rd ho9) (own_rd ho10)).mono ?_
          rintro e y6 ⟨rfl, hb6⟩
          go_wp2
          go_ret
          exact ⟨rfl, btr hb9 hb6⟩
  | true =>
    have HE := expel_any A2 c2 AL num W (by unfold maxLen; omega) (own_le ho2) (own_rd ho2) (fun s hs => by have := HAN.out s hs; unfold maxLen; omega)
    rw [(HAL.out rfl).2] at HE
    have HV : Hid (∀ v, Rd v A2 (memCells AL) → Calls Tryz.prog 10 #[.slice A2 AL.length c2] v fun e w' => e = .returned (.bool true) ∧ Below v.heap.size v w') := fun v h => by
      have := isMembers_any A2 c2 AL v (by unfold maxLen; omega) (own_le ho2) h (fun s hs => by have := HAN.out s hs; unfold maxLen; omega)
      rwa [(HAL.out rfl).1] at this
    clear HAL HAN
    go_wp2_with fail
    refine HE.mono ?_
    rintro e w4 ⟨A4, c4, rfl, ho4, hbq⟩
    replace hb := btr hb hbq
    replace ho1 := own_below ho1 hbq
    replace ho2 := own_below ho2 hbq
    clear HE hbq
    go_wp2_with fail
    refine (rMembers_any A4 A1 c4 c1 xs w4 (by unfold maxLen; omega) (own_rd ho4) (own_rd ho1)).mono ?_
    rintro e w5 ⟨rfl, hbq⟩
    replace hb := btr hb hbq
    replace ho2 := own_below ho2 hbq
    clear ho1 ho4 hbq
    go_wp2_with fail
    refine (HV.out _ (own_rd ho2)).mono ?_
    rintro e w6 ⟨rfl, hbq⟩
    replace hb := btr hb hbq
    clear ho2 hbq HV
    go_wp2_with fail
    refine (drawExpel_any A n c w6 hn (HR.out.below hb)).mono ?_
    rintro e u1 ⟨A4, c4, ls, num, rfl, hl13, HLS, ho4, hbq⟩
    replace hb := btr hb hbq
    go_wp2_with fail
    refine (expel_any A4 c4 ls num u1 (by unfold maxLen; omega) (own_le ho4) (own_rd ho4) (fun s hs => by have := HLS s hs; unfold maxLen; omega)).mono ?_
    rintro e u2 ⟨A5, c5, rfl, ho5, hbq2⟩
    replace hb := btr hb hbq2
    replace ho4 := own_below ho4 hbq2
    go_wp2_with fail
    refine (specExpel_any A4 c4 ls num u2 (by unfold maxLen; omega) (own_le ho4) (own_rd ho4) (fun s hs => by have := HLS s hs; unfold maxLen; omega)).mono ?_
    rintro e u3 ⟨A6, c6, rfl, ho6, hbq3⟩
    replace hb := btr hb hbq3
    replace ho5 := own_below ho5 hbq3
    have hrl : (expelR ls num).2 = true → ((expelR ls num).1.length : Int) = (ls.length : Int) - 1 := fun h => by have := (expel_law (xs := ls) (n := num)).1 h; omega
    have hR13 : (expelR ls num).1.length ≤ 13 := Nat.le_trans (expel_law (xs := ls) (n := num)).2 hl13
    clear hbq hbq2 hbq3 HLS ho4
    generalize expelR ls num = R at *
    obtain ⟨RL, fine⟩ := R
    simp only at hR13
    cases fine with
    | false =>
      clear hrl
      go_wp2_with fail
      refine (rMembers_any A5 A6 c5 c6 RL u3 (by unfold maxLen; omega) (own_rd ho5) (own_rd ho6)).mono ?_
      rintro e u4 ⟨rfl, hbq4⟩
      replace hb := btr hb hbq4
      clear ho5 ho6 hbq4
      go_wp2_with fail
      refine (drawText_any A n c u4 hn (HR.out.below hb)).mono ?_
      rintro e v1 ⟨A1, c1, xs, rfl, hl, hs, ho, hbv⟩
      have hbA := btr hb hbv
      have hle := own_le ho
      have hsz : ∀ s ∈ xs, s.name.size ≤ maxLen := fun s h => by have := hs s h; unfold maxLen; omega
      have HST : Hid (∀ v, Rd v A1 (memCells xs) → Calls Tryz.prog 15 #[.slice A1 xs.length c1] v fun e w' => e = .returned (.tuple #[.string (textR xs).1, .bool (textR xs).2]) ∧ Below v.heap.size v w') := fun v h => specText_any A1 c1 xs v (by unfold maxLen; omega) hle h hsz
      have HIV : Hid (∀ v, Rd v A1 (memCells xs) → Calls Tryz.prog 10 #[.slice A1 xs.length c1] v fun e w' => e = .returned (.bool (goodMem xs)) ∧ Below v.heap.size v w') := fun v h => isMembers_any A1 c1 xs v (by unfold maxLen; omega) hle h hsz
      go_wp2_with fail
      refine (implText_any A1 c1 xs v1 (by unfold maxLen; omega) hle (own_rd ho) hsz (hdoor.below hbA).1).mono ?_
      rintro e v2 ⟨rfl, hbv2⟩
      have hbB := btr hbA hbv2
      replace ho := own_below ho hbv2
      clear hsz
      cases hg : goodMem xs with
      | false =>
        have HTX : textR xs = (⟨#[]⟩, false) := if_neg (by rw [hg]; decide)
        rw [HTX] at HST ⊢
        rw [hg] at HIV
        clear HTX hg hs
        go_wp2_with fail
        refine (HST.out v2 (own_rd ho)).mono ?_
        rintro e v3 ⟨rfl, hbv3⟩
        have hbC := btr hbB hbv3
        replace ho := own_below ho hbv3
        have hRx := own_rd ho
        go_wp2_with (go_at_call 10; refine (HIV.out _ hRx).mono ?_; rintro e v4 ⟨rfl, hbv4⟩)
        have hbD := btr hbC hbv4
        replace ho := own_below ho hbv4
        refine (implParseMembers_any ⟨#[]⟩ v4 (by decide) (hdoor.below hbD)).mono ?_
        rintro e v5 ⟨L3, b3, A3, c3, rfl, ho3, -, hbv5⟩
        have hbE := btr hbD hbv5
        replace ho := own_below ho hbv5
        clear HST HIV ho ho3 hbA hbB hbC hbD hbv hbv2 hbv3 hbv4 hbv5 hRx hle hl
        go_wp2_with fail
        refine (drawParse_any A n c v5 hn (HR.out.below hbE)).mono ?_
        rintro e x1 ⟨x, rfl, hx, hbq⟩
        have hz1 := btr hbE hbq
        go_wp2_with fail
        refine (implParseMembers_any x x1 (by omega) (hdoor.below hz1)).mono ?_
        rintro e x2 ⟨L, b, A6, c6, rfl, ho6, hp6, hbq2⟩
        have hz2 := btr hz1 hbq2
        have HS2 : Hid (∀ v, Calls Tryz.prog 18 #[.string x] v fun e w' => ∃ A' c', e = .returned (.tuple #[.slice A' L.length c', .bool b]) ∧ w'.ownsRow v.heap.size 54 3 (.slice A' L.length c') L.length (memCells L) ∧ Below v.heap.size v w') := fun v => (specParseMembers_any x v (by omega)).mono fun e w' h => by
          obtain ⟨L2, b2, A', c', he, ho9, hp, hb9⟩ := h
          obtain ⟨rfl, rfl⟩ := parseM_unique hp hp6
          exact ⟨A', c', he, ho9, hb9⟩
        have hL8 : L.length ≤ 12 := (parseM_len hp6).1
        clear hp6
        go_wp2_with fail
        refine (HS2.out x2).mono ?_
        rintro e x3 ⟨A7, c7, rfl, ho7, hbq3⟩
        have hz3 := btr hz2 hbq3
        replace ho6 := own_below ho6 hbq3
        clear HS2
        go_wp2_with fail
        refine (rMembers_any A6 A7 c6 c7 L x3 (by unfold maxLen; omega) (own_rd ho6) (own_rd ho7)).mono ?_
        rintro e x4 ⟨rfl, hbq4⟩
        have hz4 := btr hz3 hbq4
        clear ho6 ho7 hbq hbq2 hbq3 hbq4 hz1 hz2 hz3 hx
        go_wp2_with fail
        refine (drawByName_any A n c x4 hn (HR.out.below hz4)).mono ?_
        rintro e y3 ⟨A8, c8, us, rfl, hu13, HU, ho8, hbq⟩
        have hb7 := btr hz4 hbq
        go_wp2_with fail
        refine (byName_any A8 c8 us y3 (by unfold maxLen; omega) (own_le ho8) (own_rd ho8) (fun s hs => by have := HU s hs; unfold maxLen; omega)).mono ?_
        rintro e y4 ⟨A9, c9, rfl, ho9, hbq2⟩
        have hb8 := btr hb7 hbq2
        replace ho8 := own_below ho8 hbq2
        go_wp2_with fail
        refine (specByName_any A8 c8 us y4 (by unfold maxLen; omega) (own_le ho8) (own_rd ho8) (fun s hs => by have := HU s hs; unfold maxLen; omega)).mono ?_
        rintro e y5 ⟨A10, c10, rfl, ho10, hbq3⟩
        have hb9 := btr hb8 hbq3
        replace ho9 := own_below ho9 hbq3
        have hgl : (byNameR us).2 = true → ((byNameR us).1.length : Int) = (us.length : Int) := fun h => by rw [byName_law h]
        have hNl : (byNameR us).1.length ≤ 13 := Nat.le_trans (byNameR_len us) hu13
        clear ho8 hbq hbq2 hbq3 HU hb7 hb8
        generalize byNameR us = R at *
        obtain ⟨N, good⟩ := R
        simp only at hNl
        cases good with
        | false =>
          clear hgl
          go_wp2_with fail
          refine (rInts_any A9 A10 c9 c10 N y5 (by unfold maxLen; omega) (own_rd ho9) (own_rd ho10)).mono ?_
          rintro e y6 ⟨rfl, hb6⟩
          go_wp2
          go_ret
          exact ⟨rfl, btr hb9 hb6⟩
        | true =>
          have hgI := hgl rfl
          clear hgl
          go_wp2_with fail
          refine (rInts_any A9 A10 c9 c10 N y5 (by unfold maxLen; omega) (own_rd ho9) (own_rd ho10)).mono ?_
          rintro e y6 ⟨rfl, hb6⟩
          go_wp2
          go_ret
          exact ⟨rfl, btr hb9 hb6⟩
      | true =>
        have HTX : textR xs = (⟨(textG lineM xs).toArray⟩, true) := if_pos hg
        have hTs : (textR xs).1.size ≤ 372 := textR_size xs
        rw [HTX] at HST hTs ⊢
        rw [hg] at HIV
        simp only at hTs
        have HPS : Hid (∀ v, Below w.heap.size w v → Calls Tryz.prog 16 #[.string ⟨(textG lineM xs).toArray⟩] v fun e w' => ∃ A' c', e = .returned (.tuple #[.slice A' xs.length c', .bool true]) ∧ w'.ownsRow v.heap.size 54 3 (.slice A' xs.length c') xs.length (memCells xs) ∧ Below v.heap.size v w') := fun v hb => (implParseMembers_any _ v (by omega) (hdoor.below hb)).mono fun e w' h => by
          obtain ⟨L2, b2, A', c', he, ho9, hp, hb9⟩ := h
          obtain ⟨rfl, rfl⟩ := parseM_unique hp (.inl ⟨rfl, hg, rfl⟩)
          exact ⟨A', c', he, ho9, hb9⟩
        generalize (⟨(textG lineM xs).toArray⟩ : ByteArray) = TX at *
        clear HTX hTs hg hs
        go_wp2_with fail
        refine (HST.out v2 (own_rd ho)).mono ?_
        rintro e v3 ⟨rfl, hbv3⟩
        have hbC := btr hbB hbv3
        replace ho := own_below ho hbv3
        have hRx := own_rd ho
        go_wp2_with (go_at_call 10; refine (HIV.out _ hRx).mono ?_; rintro e v4 ⟨rfl, hbv4⟩)
        have hbD := btr hbC hbv4
        replace ho := own_below ho hbv4
        refine (HPS.out v4 hbD).mono ?_
        rintro e v5 ⟨A3, c3, rfl, ho3, hbv5⟩
        have hbE := btr hbD hbv5
        replace ho := own_below ho hbv5
        have HVX := Lib.hid (rMembers_any A3 A1 c3 c1 xs v5 (by unfold maxLen; omega) (own_rd ho3) (own_rd ho))
        clear HST HIV HPS
        go_wp2_with (go_at_call 8; refine HVX.out.mono ?_; rintro e v6 ⟨rfl, hbv6⟩)
        have hbF := btr hbE hbv6
        clear HVX ho ho3 hbA hbB hbC hbD hbE hbv hbv2 hbv3 hbv4 hbv5 hbv6 hRx hle hl
        refine (drawParse_any A n c v6 hn (HR.out.below hbF)).mono ?_
        rintro e x1 ⟨x, rfl, hx, hbq⟩
        have hz1 := btr hbF hbq
        go_wp2_with fail
        refine (implParseMembers_any x x1 (by omega) (hdoor.below hz1)).mono ?_
        rintro e x2 ⟨L, b, A6, c6, rfl, ho6, hp6, hbq2⟩
        have hz2 := btr hz1 hbq2
        have HS2 : Hid (∀ v, Calls Tryz.prog 18 #[.string x] v fun e w' => ∃ A' c', e = .returned (.tuple #[.slice A' L.length c', .bool b]) ∧ w'.ownsRow v.heap.size 54 3 (.slice A' L.length c') L.length (memCells L) ∧ Below v.heap.size v w') := fun v => (specParseMembers_any x v (by omega)).mono fun e w' h => by
          obtain ⟨L2, b2, A', c', he, ho9, hp, hb9⟩ := h
          obtain ⟨rfl, rfl⟩ := parseM_unique hp hp6
          exact ⟨A', c', he, ho9, hb9⟩
        have hL8 : L.length ≤ 12 := (parseM_len hp6).1
        clear hp6
        go_wp2_with fail
        refine (HS2.out x2).mono ?_
        rintro e x3 ⟨A7, c7, rfl, ho7, hbq3⟩
        have hz3 := btr hz2 hbq3
        replace ho6 := own_below ho6 hbq3
        clear HS2
        go_wp2_with fail
        refine (rMembers_any A6 A7 c6 c7 L x3 (by unfold maxLen; omega) (own_rd ho6) (own_rd ho7)).mono ?_
        rintro e x4 ⟨rfl, hbq4⟩
        have hz4 := btr hz3 hbq4
        clear ho6 ho7 hbq hbq2 hbq3 hbq4 hz1 hz2 hz3 hx
        go_wp2_with fail
        refine (drawByName_any A n c x4 hn (HR.out.below hz4)).mono ?_
        rintro e y3 ⟨A8, c8, us, rfl, hu13, HU, ho8, hbq⟩
        have hb7 := btr hz4 hbq
        go_wp2_with fail
        refine (byName_any A8 c8 us y3 (by unfold maxLen; omega) (own_le ho8) (own_rd ho8) (fun s hs => by have := HU s hs; unfold maxLen; omega)).mono ?_
        rintro e y4 ⟨A9, c9, rfl, ho9, hbq2⟩
        have hb8 := btr hb7 hbq2
        replace ho8 := own_below ho8 hbq2
        go_wp2_with fail
        refine (specByName_any A8 c8 us y4 (by unfold maxLen; omega) (own_le ho8) (own_rd ho8) (fun s hs => by have := HU s hs; unfold maxLen; omega)).mono ?_
        rintro e y5 ⟨A10, c10, rfl, ho10, hbq3⟩
        have hb9 := btr hb8 hbq3
        replace ho9 := own_below ho9 hbq3
        have hgl : (byNameR us).2 = true → ((byNameR us).1.length : Int) = (us.length : Int) := fun h => by rw [byName_law h]
        have hNl : (byNameR us).1.length ≤ 13 := Nat.le_trans (byNameR_len us) hu13
        clear ho8 hbq hbq2 hbq3 HU hb7 hb8
        generalize byNameR us = R at *
        obtain ⟨N, good⟩ := R
        simp only at hNl
        cases good with
        | false =>
          clear hgl
          go_wp2_with fail
          refine (rInts_any A9 A10 c9 c10 N y5 (by unfold maxLen; omega) (own_rd ho9) (own_rd ho10)).mono ?_
          rintro e y6 ⟨rfl, hb6⟩
          go_wp2
          go_ret
          exact ⟨rfl, btr hb9 hb6⟩
        | true =>
          have hgI := hgl rfl
          clear hgl
          go_wp2_with fail
          refine (rInts_any A9 A10 c9 c10 N y5 (by unfold maxLen; omega) (own_rd ho9) (own_rd ho10)).mono ?_
          rintro e y6 ⟨rfl, hb6⟩
          go_wp2
          go_ret
          exact ⟨rfl, btr hb9 hb6⟩
    | true =>
      have hrI := hrl rfl
      have hrw : IntKind.i64.wrap ((ls.length : Int) - 1) = (ls.length : Int) - 1 := by rw [IntKind.wrap_i64]; omega
      clear hrl
      go_wp2_with fail
      refine (rMembers_any A5 A6 c5 c6 RL u3 (by unfold maxLen; omega) (own_rd ho5) (own_rd ho6)).mono ?_
      rintro e u4 ⟨rfl, hbq4⟩
      replace hb := btr hb hbq4
      clear ho5 ho6 hbq4
      go_wp2_with fail
      refine (drawText_any A n c u4 hn (HR.out.below hb)).mono ?_
      rintro e v1 ⟨A1, c1, xs, rfl, hl, hs, ho, hbv⟩
      have hbA := btr hb hbv
      have hle := own_le ho
      have hsz : ∀ s ∈ xs, s.name.size ≤ maxLen := fun s h => by have := hs s h; unfold maxLen; omega
      have HST : Hid (∀ v, Rd v A1 (memCells xs) → Calls Tryz.prog 15 #[.slice A1 xs.length c1] v fun e w' => e = .returned (.tuple #[.string (textR xs).1, .bool (textR xs).2]) ∧ Below v.heap.size v w') := fun v h => specText_any A1 c1 xs v (by unfold maxLen; omega) hle h hsz
      have HIV : Hid (∀ v, Rd v A1 (memCells xs) → Calls Tryz.prog 10 #[.slice A1 xs.length c1] v fun e w' => e = .returned (.bool (goodMem xs)) ∧ Below v.heap.size v w') := fun v h => isMembers_any A1 c1 xs v (by unfold maxLen; omega) hle h hsz
      go_wp2_with fail
      refine (implText_any A1 c1 xs v1 (by unfold maxLen; omega) hle (own_rd ho) hsz (hdoor.below hbA).1).mono ?_
      rintro e v2 ⟨rfl, hbv2⟩
      have hbB := btr hbA hbv2
      replace ho := own_below ho hbv2
      clear hsz
      cases hg : goodMem xs with
      | false =>
        have HTX : textR xs = (⟨#[]⟩, false) := if_neg (by rw [hg]; decide)
        rw [HTX] at HST ⊢
        rw [hg] at HIV
        clear HTX hg hs
        go_wp2_with fail
        refine (HST.out v2 (own_rd ho)).mono ?_
        rintro e v3 ⟨rfl, hbv3⟩
        have hbC := btr hbB hbv3
        replace ho := own_below ho hbv3
        have hRx := own_rd ho
        go_wp2_with (go_at_call 10; refine (HIV.out _ hRx).mono ?_; rintro e v4 ⟨rfl, hbv4⟩)
        have hbD := btr hbC hbv4
        replace ho := own_below ho hbv4
        refine (implParseMembers_any ⟨#[]⟩ v4 (by decide) (hdoor.below hbD)).mono ?_
        rintro e v5 ⟨L3, b3, A3, c3, rfl, ho3, -, hbv5⟩
        have hbE := btr hbD hbv5
        replace ho := own_below ho hbv5
        clear HST HIV ho ho3 hbA hbB hbC hbD hbv hbv2 hbv3 hbv4 hbv5 hRx hle hl
        go_wp2_with fail
        refine (drawParse_any A n c v5 hn (HR.out.below hbE)).mono ?_
        rintro e x1 ⟨x, rfl, hx, hbq⟩
        have hz1 := btr hbE hbq
        go_wp2_with fail
        refine (implParseMembers_any x x1 (by omega) (hdoor.below hz1)).mono ?_
        rintro e x2 ⟨L, b, A6, c6, rfl, ho6, hp6, hbq2⟩
        have hz2 := btr hz1 hbq2
        have HS2 : Hid (∀ v, Calls Tryz.prog 18 #[.string x] v fun e w' => ∃ A' c', e = .returned (.tuple #[.slice A' L.length c', .bool b]) ∧ w'.ownsRow v.heap.size 54 3 (.slice A' L.length c') L.length (memCells L) ∧ Below v.heap.size v w') := fun v => (specParseMembers_any x v (by omega)).mono fun e w' h => by
          obtain ⟨L2, b2, A', c', he, ho9, hp, hb9⟩ := h
          obtain ⟨rfl, rfl⟩ := parseM_unique hp hp6
          exact ⟨A', c', he, ho9, hb9⟩
        have hL8 : L.length ≤ 12 := (parseM_len hp6).1
        clear hp6
        go_wp2_with fail
        refine (HS2.out x2).mono ?_
        rintro e x3 ⟨A7, c7, rfl, ho7, hbq3⟩
        have hz3 := btr hz2 hbq3
        replace ho6 := own_below ho6 hbq3
        clear HS2
        go_wp2_with fail
        refine (rMembers_any A6 A7 c6 c7 L x3 (by unfold maxLen; omega) (own_rd ho6) (own_rd ho7)).mono ?_
        rintro e x4 ⟨rfl, hbq4⟩
        have hz4 := btr hz3 hbq4
        clear ho6 ho7 hbq hbq2 hbq3 hbq4 hz1 hz2 hz3 hx
        go_wp2_with fail
        refine (drawByName_any A n c x4 hn (HR.out.below hz4)).mono ?_
        rintro e y3 ⟨A8, c8, us, rfl, hu13, HU, ho8, hbq⟩
        have hb7 := btr hz4 hbq
        go_wp2_with fail
        refine (byName_any A8 c8 us y3 (by unfold maxLen; omega) (own_le ho8) (own_rd ho8) (fun s hs => by have := HU s hs; unfold maxLen; omega)).mono ?_
        rintro e y4 ⟨A9, c9, rfl, ho9, hbq2⟩
        have hb8 := btr hb7 hbq2
        replace ho8 := own_below ho8 hbq2
        go_wp2_with fail
        refine (specByName_any A8 c8 us y4 (by unfold maxLen; omega) (own_le ho8) (own_rd ho8) (fun s hs => by have := HU s hs; unfold maxLen; omega)).mono ?_
        rintro e y5 ⟨A10, c10, rfl, ho10, hbq3⟩
        have hb9 := btr hb8 hbq3
        replace ho9 := own_below ho9 hbq3
        have hgl : (byNameR us).2 = true → ((byNameR us).1.length : Int) = (us.length : Int) := fun h => by rw [byName_law h]
        have hNl : (byNameR us).1.length ≤ 13 := Nat.le_trans (byNameR_len us) hu13
        clear ho8 hbq hbq2 hbq3 HU hb7 hb8
        generalize byNameR us = R at *
        obtain ⟨N, good⟩ := R
        simp only at hNl
        cases good with
        | false =>
          clear hgl
          go_wp2_with fail
          refine (rInts_any A9 A10 c9 c10 N y5 (by unfold maxLen; omega) (own_rd ho9) (own_rd ho10)).mono ?_
          rintro e y6 ⟨rfl, hb6⟩
          go_wp2
          go_ret
          exact ⟨rfl, btr hb9 hb6⟩
        | true =>
          have hgI := hgl rfl
          clear hgl
          go_wp2_with fail
          refine (rInts_any A9 A10 c9 c10 N y5 (by unfold maxLen; omega) (own_rd ho9) (own_rd ho10)).mono ?_
          rintro e y6 ⟨rfl, hb6⟩
          go_wp2
          go_ret
          exact ⟨rfl, btr hb9 hb6⟩
      | true =>
        have HTX : textR xs = (⟨(textG lineM xs).toArray⟩, true) := if_pos hg
        have hTs : (textR xs).1.size ≤ 372 := textR_size xs
        rw [HTX] at HST hTs ⊢
        rw [hg] at HIV
        simp only at hTs
        have HPS : Hid (∀ v, Below w.heap.size w v → Calls Tryz.prog 16 #[.string ⟨(textG lineM xs).toArray⟩] v fun e w' => ∃ A' c', e = .returned (.tuple #[.slice A' xs.length c', .bool true]) ∧ w'.ownsRow v.heap.size 54 3 (.slice A' xs.length c') xs.length (memCells xs) ∧ Below v.heap.size v w') := fun v hb => (implParseMembers_any _ v (by omega) (hdoor.below hb)).mono fun e w' h => by
          obtain ⟨L2, b2, A', c', he, ho9, hp, hb9⟩ := h
          obtain ⟨rfl, rfl⟩ := parseM_unique hp (.inl ⟨rfl, hg, rfl⟩)
          exact ⟨A', c', he, ho9, hb9⟩
        generalize (⟨(textG lineM xs).toArray⟩ : ByteArray) = TX at *
        clear HTX hTs hg hs
        go_wp2_with fail
        refine (HST.out v2 (own_rd ho)).mono ?_
        rintro e v3 ⟨rfl, hbv3⟩
        have hbC := btr hbB hbv3
        replace ho := own_below ho hbv3
        have hRx := own_rd ho
        go_wp2_with (go_at_call 10; refine (HIV.out _ hRx).mono ?_; rintro e v4 ⟨rfl, hbv4⟩)
        have hbD := btr hbC hbv4
        replace ho := own_below ho hbv4
        refine (HPS.out v4 hbD).mono ?_
        rintro e v5 ⟨A3, c3, rfl, ho3, hbv5⟩
        have hbE := btr hbD hbv5
        replace ho := own_below ho hbv5
        have HVX := Lib.hid (rMembers_any A3 A1 c3 c1 xs v5 (by unfold maxLen; omega) (own_rd ho3) (own_rd ho))
        clear HST HIV HPS
        go_wp2_with (go_at_call 8; refine HVX.out.mono ?_; rintro e v6 ⟨rfl, hbv6⟩)
        have hbF := btr hbE hbv6
        clear HVX ho ho3 hbA hbB hbC hbD hbE hbv hbv2 hbv3 hbv4 hbv5 hbv6 hRx hle hl
        refine (drawParse_any A n c v6 hn (HR.out.below hbF)).mono ?_
        rintro e x1 ⟨x, rfl, hx, hbq⟩
        have hz1 := btr hbF hbq
        go_wp2_with fail
        refine (implParseMembers_any x x1 (by omega) (hdoor.below hz1)).mono ?_
        rintro e x2 ⟨L, b, A6, c6, rfl, ho6, hp6, hbq2⟩
        have hz2 := btr hz1 hbq2
        have HS2 : Hid (∀ v, Calls Tryz.prog 18 #[.string x] v fun e w' => ∃ A' c', e = .returned (.tuple #[.slice A' L.length c', .bool b]) ∧ w'.ownsRow v.heap.size 54 3 (.slice A' L.length c') L.length (memCells L) ∧ Below v.heap.size v w') := fun v => (specParseMembers_any x v (by omega)).mono fun e w' h => by
          obtain ⟨L2, b2, A', c', he, ho9, hp, hb9⟩ := h
          obtain ⟨rfl, rfl⟩ := parseM_unique hp hp6
          exact ⟨A', c', he, ho9, hb9⟩
        have hL8 : L.length ≤ 12 := (parseM_len hp6).1
        clear hp6
        go_wp2_with fail
        refine (HS2.out x2).mono ?_
        rintro e x3 ⟨A7, c7, rfl, ho7, hbq3⟩
        have hz3 := btr hz2 hbq3
        replace ho6 := own_below ho6 hbq3
        clear HS2
        go_wp2_with fail
        refine (rMembers_any A6 A7 c6 c7 L x3 (by unfold maxLen; omega) (own_rd ho6) (own_rd ho7)).mono ?_
        rintro e x4 ⟨rfl, hbq4⟩
        have hz4 := btr hz3 hbq4
        clear ho6 ho7 hbq hbq2 hbq3 hbq4 hz1 hz2 hz3 hx
        go_wp2_with fail
        refine (drawByName_any A n c x4 hn (HR.out.below hz4)).mono ?_
        rintro e y3 ⟨A8, c8, us, rfl, hu13, HU, ho8, hbq⟩
        have hb7 := btr hz4 hbq
        go_wp2_with fail
        refine (byName_any A8 c8 us y3 (by unfold maxLen; omega) (own_le ho8) (own_rd ho8) (fun s hs => by have := HU s hs; unfold maxLen; omega)).mono ?_
        rintro e y4 ⟨A9, c9, rfl, ho9, hbq2⟩
        have hb8 := btr hb7 hbq2
        replace ho8 := own_below ho8 hbq2
        go_wp2_with fail
        refine (specByName_any A8 c8 us y4 (by unfold maxLen; omega) (own_le ho8) (own_rd ho8) (fun s hs => by have := HU s hs; unfold maxLen; omega)).mono ?_
        rintro e y5 ⟨A10, c10, rfl, ho10, hbq3⟩
        have hb9 := btr hb8 hbq3
        replace ho9 := own_below ho9 hbq3
        have hgl : (byNameR us).2 = true → ((byNameR us).1.length : Int) = (us.length : Int) := fun h => by rw [byName_law h]
        have hNl : (byNameR us).1.length ≤ 13 := Nat.le_trans (byNameR_len us) hu13
        clear ho8 hbq hbq2 hbq3 HU hb7 hb8
        generalize byNameR us = R at *
        obtain ⟨N, good⟩ := R
        simp only at hNl
        cases good with
        | false =>
          clear hgl
          go_wp2_with fail
          refine (rInts_any A9 A10 c9 c10 N y5 (by unfold maxLen; omega) (own_rd ho9) (own_rd ho10)).mono ?_
          rintro e y6 ⟨rfl, hb6⟩
          go_wp2
          go_ret
          exact ⟨rfl, btr hb9 hb6⟩
        | true =>
          have hgI := hgl rfl
          clear hgl
          go_wp2_with fail
          refine (rInts_any A9 A10 c9 c10 N y5 (by unfold maxLen; omega) (own_rd ho9) (own_rd ho10)).mono ?_
          rintro e y6 ⟨rfl, hb6⟩
          go_wp2
          go_ret
          exact ⟨rfl, btr hb9 hb6⟩
theorem own : ownKnob Tryz.prog.godebug = none := by kernel_rfl
theorem laidOut : laidOutB Tryz.prog = true := by kernel_rfl
/-- The wrap, with what the row lists and the world's shape both kept. -/
theorem returns_listed {H : Type} {enc : TypeId × Value → H} {a : Assume} {C : Checked} {os : Os} {f : FuncId} {fn : Func} {s : ChangeSpec} {conds : List PathCond} {apart fresh handsOn again : Bool} {X : World → Array Value → Prop}
    (hX : ∀ (w w' : World) (args : Array Value), w.heap = w'.heap → X w args → X w' args)
    (own : ownKnob C.prog.godebug = none) (started : os.Started) (noInit : C.prog.inits.idxOf? f = none) (hfn : C.prog.funcs[f]? = some fn)
    (witness : ∃ (w : World) (tape : Tape) (i : Input), w.os = os ∧ (w.forCall tape i).Shaped C.prog ∧ i.vars = [] ∧ Input.okWide C.prog (w.forCall tape i) .any w.heap.size f i ∧
      ((s.pre enc C.prog fn conds apart (w.forCall tape i).memory i.args ∧ X (w.forCall tape i).memory i.args) ∧ sizedMet enc C.prog fn (OpenSpec.ofChange s) apart (w.forCall tape i).memory i.args) ∧ a.holds C.prog (lone (Frame.enter C.prog f i.args .normal) [] (w.forCall tape i)))
    (contract : ∀ (W : World) (base : Nat) (args : Array Value) (ds gs : List (DataW H)) (before : List MemPlace),
      (∀ (j : Nat) t v, fn.params[j]? = some t → args[j]? = some v → Value.okWide C.prog W .any base t v) →
      DataW.Whole enc C.prog fn.params.toList s.vars apart W args.toList ds gs before → X W args → W.ShapedOpen C.prog →
      Calls C.prog f args W fun e W' => ∃ v, e = .returned v ∧ s.post enc C.prog fn apart fresh handsOn again W args v W') :
    ReturnsInHanded a C os f .any (fun w args => (s.pre enc C.prog fn conds apart w args ∧ X w args) ∧ sizedMet enc C.prog fn (OpenSpec.ofChange s) apart w args) (s.post enc C.prog fn apart fresh handsOn again) := by
  refine returnsInHanded_of_calls own started noInit witness ?_
  intro w tape i _ hsh _ hok hpre _
  obtain ⟨_, _, _, g, hg, _, _, _, _, hval⟩ := hok
  obtain rfl := Option.some.inj (hg.symm.trans hfn)
  obtain ⟨⟨⟨ds, gs, before, hw, _⟩, hx⟩, _⟩ := hpre
  refine (contract (w.forCall tape i) w.heap.size i.args ds gs before hval (DataW.Whole.of_heap (w' := w.forCall tape i) (by rfl) hw) (hX _ _ _ (by rfl) hx) hsh).mono fun e W' h => ?_
  obtain ⟨v, he, hp⟩ := h
  subst he
  exact ChangeSpec.post_blind hp
def fmeList : List (String × DataW Unit) := [("math/bits.deBruijn32tab", Rows.laid_math_bits_deBruijn32tab), ("math/bits.deBruijn64tab", Rows.laid_math_bits_deBruijn64tab), ("internal/strconv.uint64pow10", Rows.laid_internal_strconv_uint64pow10), ("unicode/utf8.acceptRanges", Rows.laid_unicode_utf8_acceptRanges), ("strconv.ErrRange", Rows.laid_strconv_ErrRange), ("strconv.ErrSyntax", Rows.laid_strconv_ErrSyntax), ("loop.example/g00909/impl.officeWords", Rows.laid_loop_example_g00909_impl_officeWords), ("unicode/utf8.first", Rows.laid_unicode_utf8_first)]
theorem fme_plain {W : World} (h : laidMetH Tryz.prog fmeList W) : laidMet Tryz.prog fmeList W := by
  rw [MakeChecks.laidMetH_plain _ _ _ (by kernel_rfl)] at h; exact h
set_option maxRecDepth 100000 in
theorem fme_door (os : Os) (args : Array Value) : laidMetH Tryz.prog fmeList ((World.laidAll Tryz.prog os fmeList).forCall (fun _ _ => 0) ⟨#[], args, []⟩).memory := by
  rw [MakeChecks.laidMetH_plain _ _ _ (by kernel_rfl)]; exact laidMet_laidAll _ (by kernel_rfl) (by kernel_rfl)
set_option maxRecDepth 100000 in
theorem fme_strs {W : World} (h : laidMetH Tryz.prog fmeList W) : ∀ (i : Nat) (l : List UInt8), ([[], [32, 40, 99, 104, 97, 105, 114, 41], [32, 40, 115, 101, 99, 114, 101, 116, 97, 114, 121, 41], [32, 40, 116, 114, 101, 97, 115, 117, 114, 101, 114, 41]] : List (List UInt8))[i]? = some l → ∃ s : ByteArray, W.cell? ⟨0, i, none⟩ = some (.string s) ∧ s.data.toList = l := by
  obtain ⟨ps, ⟨g0, t0, cs0, f0, p0, q0, hg0, ht0, hv0, hd0, ⟨g1, t1, cs1, f1, p1, q1, hg1, ht1, hv1, hd1, ⟨g2, t2, cs2, f2, p2, q2, hg2, ht2, hv2, hd2, ⟨g3, t3, cs3, f3, p3, q3, hg3, ht3, hv3, hd3, ⟨g4, t4, cs4, f4, p4, q4, hg4, ht4, hv4, hd4, ⟨g5, t5, cs5, f5, p5, q5, hg5, ht5, hv5, hd5, ⟨g6, t6, cs6, f6, p6, q6, hg6, ht6, hv6, hd6, ⟨g7, t7, cs7, f7, p7, q7, hg7, ht7, hv7, hd7, _, _⟩, _⟩, _⟩, _⟩, _⟩, _⟩, _⟩, _⟩, _, _⟩ := fme_plain h
  have e1 : g6 = 0 := Option.some.inj (hg6.symm.trans (by kernel_rfl))
  subst e1
  have e2 : t6 = 69 := Option.some.inj (ht6.symm.trans (by kernel_rfl))
  subst e2
  intro i l hl
  obtain ⟨s, h1, h2⟩ := strs_of_tab (ls := [[], [32, 40, 99, 104, 97, 105, 114, 41], [32, 40, 115, 101, 99, 114, 101, 116, 97, 114, 121, 41], [32, 40, 116, 114, 101, 97, 115, 117, 114, 101, 114, 41]]) Tryz.underlying69 Tryz.underlying9 (by kernel_rfl) (by kernel_rfl) hd6 i l hl
  exact ⟨s, by rw [World.var?_cell (P := Tryz.prog) (by kernel_rfl) hv6 i]; simpa using h1, h2⟩
set_option maxRecDepth 100000 in
theorem fme_tab {W : World} (h : laidMetH Tryz.prog fmeList W) : Lib.TabIs Tryz.prog W "internal/strconv.uint64pow10" .u64 Lib.pow10Tab := by
  obtain ⟨ps, ⟨g0, t0, cs0, f0, p0, q0, hg0, ht0, hv0, hd0, ⟨g1, t1, cs1, f1, p1, q1, hg1, ht1, hv1, hd1, ⟨g2, t2, cs2, f2, p2, q2, hg2, ht2, hv2, hd2, ⟨g3, t3, cs3, f3, p3, q3, hg3, ht3, hv3, hd3, ⟨g4, t4, cs4, f4, p4, q4, hg4, ht4, hv4, hd4, ⟨g5, t5, cs5, f5, p5, q5, hg5, ht5, hv5, hd5, ⟨g6, t6, cs6, f6, p6, q6, hg6, ht6, hv6, hd6, ⟨g7, t7, cs7, f7, p7, q7, hg7, ht7, hv7, hd7, _, _⟩, _⟩, _⟩, _⟩, _⟩, _⟩, _⟩, _⟩, _, _⟩ := fme_plain h
  unfold Lib.TabIs
  have e1 : g2 = 4 := Option.some.inj (hg2.symm.trans (by kernel_rfl))
  subst e1
  have e2 : t2 = 140 := Option.some.inj (ht2.symm.trans (by kernel_rfl))
  subst e2
  rw [hv2, ← Lib.cells_of_tab (zs := Lib.pow10Tab) Tryz.underlying140 Tryz.underlying45 (by kernel_rfl) (by kernel_rfl) hd2]
set_option maxRecDepth 100000 in
theorem fme_syn {W : World} (h : laidMetH Tryz.prog fmeList W) : SynIs W := by
  have h0 := fme_plain h
  have h1 := (((((h0.tail).tail).tail).tail).tail)
  obtain ⟨a, s, hv, -, -, -⟩ := laid_sentinel h1 (g := 2) (ti := 86) (tp := 148) (by kernel_rfl) (by kernel_rfl) Tryz.underlying86 (fun u hu => typeName_ptr_named (nm := "errors.errorString") (by rw [show "*" ++ "errors.errorString" = "*errors.errorString" by decide]; kernel_rfl) (by kernel_rfl) (by decide) u (by rw [show "*" ++ "errors.errorString" = "*errors.errorString" by decide]; exact hu)) Tryz.underlying148 Tryz.underlying150 rfl rfl Tryz.underlying9 (by kernel_rfl) (by kernel_rfl)
  exact ⟨_, _, hv⟩
theorem fme_met {W : World} (hsh : W.ShapedOpen Tryz.prog) (h : laidMetH Tryz.prog fmeList W) : MemDoor W := by
  refine ⟨fun k hk => ?_, Tryz.laysM146.s1_3 W hsh, fme_syn h, fme_tab h⟩
  obtain ⟨s, h1, h2⟩ := fme_strs h k (offB k).data.toList (by match k, hk with | 0, _ => rfl | 1, _ => rfl | 2, _ => rfl | 3, _ => rfl)
  rw [h1, ba_ext h2]
set_option maxRecDepth 100000 in
theorem FnMembers_lifted (os : Os) (started : os.Started) (H : Type) (enc : TypeId × Value → H) :
    ReturnsInHanded {} Tryz.checked os 3 .any (fun w args => (Rows.fnMembersSpec.pre enc Tryz.prog Tryz.f3 [] false w args ∧ laidMetH Tryz.prog fmeList w) ∧ sizedMet enc Tryz.prog Tryz.f3 (OpenSpec.ofChange Rows.fnMembersSpec) false w args)
      (Rows.fnMembersSpec.post enc Tryz.prog Tryz.f3 false true false false) := by
  refine returns_listed (C := Tryz.checked) (X := fun w _ => laidMetH Tryz.prog fmeList w) (fun _ _ _ hh h => h.of_heap hh) own started (by kernel_rfl) Tryz.func3
    (ChangeSpec.witness_shaped (enc := enc) (C := Tryz.checked) (os := os) (X := fun w _ => laidMetH Tryz.prog fmeList w) false (World.laidAll Tryz.prog os fmeList) #[.slice none 0 0] 8 (World.laidAll_os _ _ _) (World.shaped_of_ZipB (by kernel_rfl) (by kernel_rfl)) (by kernel_rfl) (by kernel_rfl) (by kernel_rfl) (fme_door os _)) ?_
  intro W base args ds gs before hval0 hW hL hsh
  have hval : ∀ (j : Nat) t v, Tryz.f3.params[j]? = some t → args[j]? = some v → Value.okWide Tryz.prog W .any base t v := hval0
  have hW' := hW
  obtain ⟨p, q, hA, -⟩ := hW
  replace hA : DataW.TrodAll enc Tryz.prog W 0 (fun _ => true) true Tryz.f3.params.toList args.toList ds p := hA
  rw [Tryz.params3] at hA hval
  obtain ⟨v0, d0, rfl, rfl, h0⟩ := trodAll_one hA
  obtain ⟨A0, len0, cap0, rfl⟩ := okWide_slice Tryz.underlying22 (hval 0 22 v0 rfl rfl)
  obtain ⟨code, rfl, hlc, hcm, hx, hok⟩ := open_Code h0
  exact My.law_step_vars laidOut Tryz.underlying4 (by kernel_rfl) (by kernel_rfl) (by kernel_rfl) (fun H ds gs hd hg => by match ds, hd, gs, hg with | [_], _, [_], _ => rfl) hW' (law_FnMembers A0 cap0 code W (Nat.le_trans hlc hcm) hx hok (fme_met hsh hL))
theorem FnMembers_holds : Rows.FnMembersSaid :=
  OpenClaim.holds_of_wide 3 Tryz.f3 rfl rfl rfl rfl rfl rfl rfl ⟨rfl, rfl, rfl, rfl, rfl⟩ rfl rfl rfl rfl rfl (by kernel_rfl) Tryz.func3 (by kernel_rfl)
    (of_decide_eq_true (by kernel_rfl)) (by unfold Func.isWrapper; first | (rw [if_pos (by decide +kernel)]; kernel_rfl) | (rw [if_neg (by decide +kernel)]; exact ⟨rfl, rfl⟩))
    (fun os started H enc _ => FnMembers_lifted os started H enc)
theorem FnMembers_card : Rows.FnMembersCardSaid :=
  Claim7.holds_tied_plain_at .later [] [.data, .data, .data, .data, .sentinel, .sentinel, .widerDeep, .pinned] true (true, "e85eef604b5db9681cd21a19118216d8f05f147e39db9fe0a6bab7c982e9752b") true
    FnMembers_holds (fun _ h => by cases h) (by kernel_rfl) (fun _ h => by cases h) fnMembers_row_tie rfl ⟨rfl, rfl⟩ (by kernel_rfl) rfl
    (fun f fn hf hfn => by
      obtain rfl : f = 3 := Option.some.inj ((show Tryz.prog.funcNamed "loop.example/g00909/laws.FnMembers" = some 3 by kernel_rfl).symm.trans hf) |>.symm
      obtain rfl : fn = Tryz.f3 := (Option.some.inj (Tryz.func3.symm.trans hfn)).symm
      exact ⟨by kernel_rfl, fun j t ht => by
        rw [Tryz.params3] at ht
        have hm : t ∈ [22] := by simpa using Array.mem_of_getElem? ht
        have hall : ([22].all fun u => !Tryz.prog.wantsStandIn u) = true := by kernel_rfl
        exact (show Tryz.prog.wantsStandIn t = false by simpa using List.all_eq_true.1 hall t hm)⟩)
    (by kernel_rfl)
end Go.Proofs.YtngheildmhimoaaGreatDoor
