/-
  FnAgendas returns true for every input: the walk, the row over the laid variables, and its tied card. Conditions: none beyond the row's own.
-/
import Derived.Test.YtfpjelpbeicdoaaGreatDoorAgD
import Derived.Test.YtfpjelpbeicdoaaGreatDoorAgQ
import Derived.Test.YtfpjelpbeicdoaaGreatDoorLaw
import Derived.Test.YtfpjelpbeicdoaaGreatDoorRows
import Derived.Test.YtfpjelpbeicdoaaGreatDoorCards
import Derived.Test.YtfpjelpbeicdoaaGreatDoorTie
import Derived.ProofKit
import Derived.LaidMore
import Derived.OpenShut
import Derived.Stop.Joined
import Derived.Stop.LaidErr
import Derived.HandedShaped
import Derived.SevenTiedAt
import Derived.Lib.LaidTab
import Derived.OpenVars
import Derived.Lay
import Derived.LaidOnce
namespace Go.My
open Go.RowKit
/-- An array of strings that reads as texts holds them, cell for cell. -/
theorem strs_of_tab {H : Type} {enc : TypeId × Value → H} {P : Program} {w : World} {base : Nat} {sp : Nat → Bool} {held : Bool} {fuel : Nat} {t e : TypeId} {n : Nat} {cs : List Value} {ls : List (List UInt8)} {p : List MemPlace}
    (ht : P.underlying t = some (.array n e)) (he : P.underlying e = some .string) (hce : P.cellsOf e = 1) (hct : P.cellsOf t = n)
    (h : DataW.trod enc P w base sp held fuel t cs = some (.agg (ls.map fun l => .lit (.string l)), p)) : ∀ (i : Nat) (l : List UInt8), ls[i]? = some l → ∃ s : ByteArray, cs[i]? = some (.string s) ∧ s.data.toList = l := by
  intro i l hl
  cases fuel with
  | zero => simp [DataW.trod] at h
  | succ fuel =>
    simp only [DataW.trod, ht, hce, hct, Nat.mul_one] at h
    split at h
    · obtain ⟨xs, hm, hx⟩ := Option.map_eq_some_iff.1 h
      have hxs : xs.map (·.1) = ls.map fun l => (DataW.lit (.string l) : DataW H) := by
        have := congrArg Prod.fst hx
        simpa using this
      have hxl : xs.length = n := by simpa using Lib.mapM_length hm
      have hzl : ls.length = n := by
        have := congrArg List.length hxs
        simp at this
        omega
      have hi : i < n := by have := (List.getElem?_eq_some_iff.1 hl).1; omega
      obtain ⟨b, hb, hf⟩ := Lib.mapM_at hm i i (by simp [hi])
      obtain ⟨s, hc, rfl, _⟩ := DataW.trod_string he hf
      refine ⟨s, ?_, ?_⟩
      · have := congrArg (·[0]?) hc
        simpa [List.getElem?_take, List.getElem?_drop] using this
      · have h2 : (xs.map (·.1))[i]? = some (DataW.lit (.string s.data.toList) : DataW H) := by simp [hb]
        rw [hxs] at h2
        simp only [List.getElem?_map, hl, Option.map_some, Option.some.injEq, DataW.lit.injEq, Lit.string.injEq] at h2
        exact h2.symm
    · cases h
end Go.My
namespace Go.My
open Go.ChangeShapes Go.WideShapes Go.ChangeAt Go.RowKit
/-- The condition on a law's specification that names variables: it says true, and that arguments and variables read as they did. -/
def SaysTrueV (s : ChangeSpec) (n m : Nat) : Prop := ∀ (H : Type) (ds gs : List (DataW H)), ds.length = n → gs.length = m → s.fn H (ds ++ gs) = { results := [.lit (.bool true)], args := ds, vars := gs }
theorem trodVars_length {H : Type} {enc : TypeId × Value → H} {P : Program} {W : World} {sp : Nat → Bool} : ∀ {ns : List String} {gs : List (DataW H)} {ps : List MemPlace}, DataW.TrodVars enc P W sp ns gs ps → gs.length = ns.length
  | [], [], _, _ => rfl
  | [], _ :: _, _, h => h.elim
  | _ :: _, [], _, h => h.elim
  | _ :: ns, _ :: gs, _, h => by
    obtain ⟨g, t, cs, fuel, p, q, _, _, _, _, hs, _⟩ := h
    simp [trodVars_length hs]
theorem law_step_vars {H : Type} {enc : TypeId × Value → H} {P : Program} {fn : Func} {s : ChangeSpec} {T : TypeId} (hl : laidOutB P = true) (hT : P.underlying T = some .bool) (hres : fn.resultTypes = #[T])
    (hpar : (fn.params.toList.all fun t => P.readableRec t && decide (t < P.types.size)) = true) (hvars : varsRowed P s.vars = true) (hsays : SaysTrueV s fn.params.toList.length s.vars.length)
    {f : FuncId} {W : World} {args : Array Value} {ds gs : List (DataW H)} {before : List MemPlace} (hW : DataW.Whole enc P fn.params.toList s.vars false W args.toList ds gs before)
    (walk : Calls P f args W fun e w' => e = .returned (.bool true) ∧ Below W.heap.size W w') :
    Calls P f args W fun e W' => ∃ v, e = .returned v ∧ s.post enc P fn false true false false W args v W' := by
  refine walk.mono fun e W' ⟨he, hb⟩ => ⟨_, he, ?_⟩
  have hW0 := hW
  obtain ⟨p, q, hA, hV, rfl, hfz, hnd⟩ := hW
  have e0 : s.fn H (ds ++ gs) = { results := [.lit (.bool true)], args := ds, vars := gs } := hsays H ds gs (trodAll_length hA) (trodVars_length hV)
  have hlt : ∀ x ∈ p, x.block < W.heap.size := fun x hx => hA.lt x hx
  refine ⟨ds, gs, p ++ q, [], p, q, hW0, ?_, ?_, ?_, hb.frame _, fun h => by cases h⟩
  · rw [e0, hres]
    exact trodAll_mk1 (shut_bool hT true)
  · rw [e0]
    exact trodAll_below hl hb hpar hA hlt
  · rw [e0]
    exact Below.trodVars hl hb hvars hV
end Go.My
namespace Go.My
open Go.RowKit
def codeCells (xs : List Int) : List Value := xs.map (Value.int .u8)
theorem rdCode_of {w : World} {A : Option Addr} {xs : List Int} (h : Rd w A (codeCells xs)) (hb : ∀ x ∈ xs, 0 ≤ x ∧ x < 256) : RdCode w A xs.length := by
  rcases h with h | ⟨b, off, rfl, hc⟩
  · left; cases xs with | nil => rfl | cons x xs => simp [codeCells] at h
  · refine .inr ⟨b, off, rfl, fun j hj => ⟨xs[j], (hb _ (List.getElem_mem hj)).1, (hb _ (List.getElem_mem hj)).2, ?_⟩⟩
    have := hc j (by simpa [codeCells] using hj)
    rw [this]; simp [codeCells]
theorem own_max {w : World} {B : Nat} {e : TypeId} {size n : Nat} {v : Value} {xs : List Value} (h : w.ownsRow B e size v n xs) : n ≤ maxLen := by
  rcases h.2 with ⟨h2, h0⟩ | ⟨g, cap, cur, hv, hb, hg, hnc, hcm, _⟩
  · omega
  · omega
end Go.My
namespace Go.Proofs.YtfpjelpbeicdoaaGreatDoor
open Go.ChangeMaps (open_string shut_string)
open Go.ChangeShapes Go.WideShapes Go.ChangeAt Go.WideMaps Go.WideElems Go.RowKit Go.My
theorem codeCells_flat (xs : List Int) : xs.flatMap (fun x => [Value.int .u8 x]) = codeCells xs := by
  induction xs with
  | nil => rfl
  | cons x r ih => simp [codeCells] at ih ⊢; exact ih
theorem open_Code {H : Type} {enc : TypeId × Value → H} {w : World} {A : Option Addr} {len cap : Nat} {d : DataW H} {ps : List MemPlace} (h : DataW.Trod enc Tryz.prog w 0 (fun _ => true) true 22 (.slice A len cap) d ps) :
    ∃ xs : List Int, xs.length = len ∧ len ≤ cap ∧ cap ≤ maxLen ∧ Rd w A (codeCells xs) ∧ ∀ b ∈ xs, 0 ≤ b ∧ b < 256 := by
  obtain ⟨xs, h1, h2, h3, h4, h5⟩ := open_list (fun x : Int => [Value.int .u8 x]) (fun b => 0 ≤ b ∧ b < 256) 1 (fun _ => rfl) (by decide) Tryz.underlying22 (by kernel_rfl) (fun n cs x hx => by
    obtain ⟨n1, e1, _, w1⟩ := DataW.trod_int Tryz.underlying5 hx
    refine ⟨n1, e1, ?_⟩
    simp [Lit.wf, IntKind.min, IntKind.max, IntKind.signed, IntKind.bits] at w1
    omega) h
  exact ⟨xs, h1, h2, h3, by rw [← codeCells_flat]; exact h4, h5⟩
theorem big_any (A : Option Addr) (n c : Nat) (w : World) : Calls Tryz.prog 4 #[.slice A n c] w fun e w' => e = .returned (.bool (decide ((65536 : Int) < n))) ∧ w = w' := by
  go_enter Tryz.func4, Tryz.ntmps4
  go_wp2
  go_ret
  exact ⟨rfl, rfl⟩
set_option maxHeartbeats 16000000 in
set_option maxRecDepth 100000 in
theorem law_FnAgendas (A : Option Addr) (c : Nat) (code : List Int) (w : World) (hn : code.length ≤ maxLen) (hx : Rd w A (codeCells code)) (hok : ∀ b ∈ code, 0 ≤ b ∧ b < 256) (hdoor : AgDoor w) :
    Calls Tryz.prog 3 #[.slice A code.length c] w fun e w' => e = .returned (.bool true) ∧ Below w.heap.size w w' := by
  have HR := Lib.hid (rdCode_of hx hok)
  clear hx hok
  by_cases hbig : 65536 < code.length
  · have hbI : decide ((65536 : Int) < (code.length : Int)) = true := by simp; omega
    go_enter Tryz.func3, Tryz.ntmps3
    go_wp2_with (go_at_call 4; refine (big_any A _ c w).mono ?_; rintro e w1 ⟨rfl, rfl⟩)
    go_ret
    exact ⟨rfl, Below.refl _ _⟩
  have hbI : decide ((65536 : Int) < (code.length : Int)) = false := by simp; omega
  generalize code.length = n at *
  go_enter Tryz.func3, Tryz.ntmps3
  go_wp2_with (go_at_call 4; refine (big_any A n c w).mono ?_; rintro e w0 ⟨rfl, rfl⟩)
  go_wp2_with fail
  refine (drawTimes_any A n c w hn HR.out).mono ?_
  rintro e w1 ⟨Az, cz, zs, st, rfl, hz11, HZ, ho1, hb⟩
  go_wp2_with fail
  refine (times_any Az cz zs st w1 (by unfold maxLen; omega) (own_le ho1) (own_rd ho1) (fun s hs => by have := HZ s hs; unfold maxLen; omega)).mono ?_
  rintro e w2 ⟨A2, c2, rfl, ho2, hbq⟩
  replace hb := btr hb hbq
  replace ho1 := own_below ho1 hbq
  go_wp2_with fail
  refine (specTimes_any Az cz zs st w2 (by unfold maxLen; omega) (own_le ho1) (own_rd ho1) (fun s hs => by have := HZ s hs; unfold maxLen; omega)).mono ?_
  rintro e w3 ⟨A3, c3, rfl, ho3, hbq2⟩
  replace hb := btr hb hbq2
  replace ho1 := own_below ho1 hbq2
  replace ho2 := own_below ho2 hbq2
  clear hbq hbq2
  have HE1 : Hid (∀ v, Rd v Az (itmCells zs) → _) := fun v h => end_any Az cz zs st v (by unfold maxLen; omega) (own_le ho1) h (fun s hs => by have := HZ s hs; unfold maxLen; omega)
  have HE2 : Hid (∀ v, Rd v Az (itmCells zs) → _) := fun v h => specEnd_any Az cz zs st v (by unfold maxLen; omega) (own_le ho1) h (fun s hs => by have := HZ s hs; unfold maxLen; omega)
  have HI1 : Hid (∀ v, Rd v Az (itmCells zs) → _) := fun v h => idle_any Az cz zs st v (by unfold maxLen; omega) (own_le ho1) h (fun s hs => by have := HZ s hs; unfold maxLen; omega)
  have HI2 : Hid (∀ v, Rd v Az (itmCells zs) → _) := fun v h => specIdle_any Az cz zs st v (by unfold maxLen; omega) (own_le ho1) h (fun s hs => by have := HZ s hs; unfold maxLen; omega)
  cases hm : meets zs st with
  | false =>
    have e1 : timesR zs st = ([], false) := if_neg (by rw [hm]; decide)
    have e2 : endR zs st = (0, false) := if_neg (by rw [hm]; decide)
    have e3 : idleR zs st = (0, false) := if_neg (by rw [hm]; decide)
    rw [e1] at ho2 ho3 ⊢
    rw [e2] at HE1 HE2
    rw [e3] at HI1 HI2
    clear e1 e2 e3 hm
    go_wp2_with fail
    refine (rInts_any A2 A3 c2 c3 [] w3 (own_max ho2) (own_rd ho2) (own_rd ho3)).mono ?_
    rintro e w4 ⟨rfl, hbq⟩
    replace hb := btr hb hbq
    replace ho1 := own_below ho1 hbq
    clear ho2 ho3 hbq
    go_wp2_with fail
    refine (HE1.out w4 (own_rd ho1)).mono ?_
    rintro e w5 ⟨rfl, hbq⟩
    replace hb := btr hb hbq
    replace ho1 := own_below ho1 hbq
    clear hbq HE1
    go_wp2_with fail
    refine (HI1.out w5 (own_rd ho1)).mono ?_
    rintro e w6 ⟨rfl, hbq⟩
    replace hb := btr hb hbq
    replace ho1 := own_below ho1 hbq
    clear hbq HI1
    go_wp2_with fail
    refine (HE2.out w6 (own_rd ho1)).mono ?_
    rintro e w7 ⟨rfl, hbq⟩
    replace hb := btr hb hbq
    replace ho1 := own_below ho1 hbq
    clear hbq HE2
    go_wp2_with fail
    refine (HI2.out w7 (own_rd ho1)).mono ?_
    rintro e W ⟨rfl, hbq⟩
    replace hb := btr hb hbq
    replace ho1 := own_below ho1 hbq
    clear hbq HI2
    clear ho1 HZ
    go_wp2_with fail
    refine (drawText_any A n c W hn (HR.out.below hb)).mono ?_
    rintro e v1 ⟨A1, c1, xs, rfl, hl, hs, ho, hbv⟩
    have hbA := btr hb hbv
    have hle := own_le ho
    have hsz : ∀ s ∈ xs, s.title.size ≤ maxLen := fun s h => by have := hs s h; unfold maxLen; omega
    have HST : Hid (∀ v, Rd v A1 (itmCells xs) → Calls Tryz.prog 16 #[.slice A1 xs.length c1] v fun e w' => e = .returned (.tuple #[.string (textR xs).1, .bool (textR xs).2]) ∧ Below v.heap.size v w') := fun v h => specText_any A1 c1 xs v (by unfold maxLen; omega) hle h hsz
    have HIV : Hid (∀ v, Rd v A1 (itmCells xs) → Calls Tryz.prog 17 #[.slice A1 xs.length c1] v fun e w' => e = .returned (.bool (goodItm xs)) ∧ Below v.heap.size v w') := fun v h => isAgenda_any A1 c1 xs v (by unfold maxLen; omega) hle h hsz
    go_wp2_with fail
    refine (implText_any A1 c1 xs v1 (by unfold maxLen; omega) hle (own_rd ho) hsz (hdoor.below hbA).2.2).mono ?_
    rintro e v2 ⟨rfl, hbv2⟩
    have hbB := btr hbA hbv2
    replace ho := own_below ho hbv2
    clear hsz
    cases hg : goodItm xs with
    | false =>
      have HTX : textR xs = (⟨#[]⟩, false) := if_neg (by rw [hg]; decide)
      rw [HTX] at HST ⊢
      rw [hg] at HIV
      clear HTX hg hs
      go_wp2_with fail
      refine (HST.out v2 (own_rd ho)).mono ?_
      rintro e v3 ⟨rfl, hbv3⟩
      have hbC := btr hbB hbv3
      replace ho := own_below ho hbv3
      have hRx := own_rd ho
      go_wp2_with (go_at_call 17; refine (HIV.out _ hRx).mono ?_; rintro e v4 ⟨rfl, hbv4⟩)
      have hbD := btr hbC hbv4
      replace ho := own_below ho hbv4
      refine (implParseAgenda_any ⟨#[]⟩ v4 (by decide) (hdoor.below hbD)).mono ?_
      rintro e v5 ⟨L3, b3, A3, c3, rfl, ho3, -, hbv5⟩
      have hbE := btr hbD hbv5
      replace ho := own_below ho hbv5
      go_wp2_with fail
      refine (drawParse_any A n c v5 hn (HR.out.below hbE)).mono ?_
      rintro e y1 ⟨x, rfl, hx, hby⟩
      have hz1 := btr hbE hby
      go_wp2_with fail
      refine (implParseAgenda_any x y1 (by omega) (hdoor.below hz1)).mono ?_
      rintro e y2 ⟨L, b, A6, c6, rfl, ho6, hp6, hby2⟩
      have hz2 := btr hz1 hby2
      have HS2 : Hid (∀ v, Calls Tryz.prog 21 #[.string x] v fun e w' => ∃ A' c', e = .returned (.tuple #[.slice A' L.length c', .bool b]) ∧ w'.ownsRow v.heap.size 34 4 (.slice A' L.length c') L.length (itmCells L) ∧ Below v.heap.size v w') := fun v => (specParseAgenda_any x v (by omega)).mono fun e w' h => by
        obtain ⟨L2, b2, A', c', he, ho9, hp, hb9⟩ := h
        obtain ⟨rfl, rfl⟩ := parseA_unique hp hp6
        exact ⟨A', c', he, ho9, hb9⟩
      have hL8 : L.length ≤ 10 := (parseA_len hp6).1
      clear hp6
      go_wp2_with fail
      refine (HS2.out y2).mono ?_
      rintro e y3 ⟨A7, c7, rfl, ho7, hby3⟩
      have hz3 := btr hz2 hby3
      replace ho6 := own_below ho6 hby3
      have HVR := Lib.hid (rAgendas_any A6 A7 c6 c7 L y3 (by unfold maxLen; omega) (own_rd ho6) (own_rd ho7))
      go_wp2_with (go_at_call 19; refine HVR.out.mono ?_; rintro e y4 ⟨rfl, hby4⟩)
      go_ret
      exact ⟨rfl, btr hz3 hby4⟩
    | true =>
      have HTX : textR xs = (⟨(textG lineA xs).toArray⟩, true) := if_pos hg
      have hTs : (textR xs).1.size ≤ 510 := textR_size xs
      rw [HTX] at HST hTs ⊢
      rw [hg] at HIV
      simp only at hTs
      have HPS : Hid (∀ v, Below w.heap.size w v → Calls Tryz.prog 18 #[.string ⟨(textG lineA xs).toArray⟩] v fun e w' => ∃ A' c', e = .returned (.tuple #[.slice A' xs.length c', .bool true]) ∧ w'.ownsRow v.heap.size 34 4 (.slice A' xs.length c') xs.length (itmCells xs) ∧ Below v.heap.size v w') := fun v hb => (implParseAgenda_any _ v (by omega) (hdoor.below hb)).mono fun e w' h => by
        obtain ⟨L2, b2, A', c', he, ho9, hp, hb9⟩ := h
        obtain ⟨rfl, rfl⟩ := parseA_unique hp (.inl ⟨rfl, hg, rfl⟩)
        exact ⟨A', c', he, ho9, hb9⟩
      generalize (⟨(textG lineA xs).toArray⟩ : ByteArray) = TX at *
      clear HTX hTs hg hs
      go_wp2_with fail
      refine (HST.out v2 (own_rd ho)).mono ?_
      rintro e v3 ⟨rfl, hbv3⟩
      have hbC := btr hbB hbv3
      replace ho := own_below ho hbv3
      have hRx := own_rd ho
      go_wp2_with (go_at_call 17; refine (HIV.out _ hRx).mono ?_; rintro e v4 ⟨rfl, hbv4⟩)
      have hbD := btr hbC hbv4
      replace ho := own_below ho hbv4
      refine (HPS.out v4 hbD).mono ?_
      rintro e v5 ⟨A3, c3, rfl, ho3, hbv5⟩
      have hbE := btr hbD hbv5
      replace ho := own_below ho hbv5
      have HVX := Lib.hid (rAgendas_any A3 A1 c3 c1 xs v5 (by unfold maxLen; omega) (own_rd ho3) (own_rd ho))
      go_wp2_with (go_at_call 19; refine HVX.out.mono ?_; rintro e v6 ⟨rfl, hbv6⟩)
      have hbF := btr hbE hbv6
      refine (drawParse_any A n c v6 hn (HR.out.below hbF)).mono ?_
      rintro e y1 ⟨x, rfl, hx, hby⟩
      have hz1 := btr hbF hby
      go_wp2_with fail
      refine (implParseAgenda_any x y1 (by omega) (hdoor.below hz1)).mono ?_
      rintro e y2 ⟨L, b, A6, c6, rfl, ho6, hp6, hby2⟩
      have hz2 := btr hz1 hby2
      have HS2 : Hid (∀ v, Calls Tryz.prog 21 #[.string x] v fun e w' => ∃ A' c', e = .returned (.tuple #[.slice A' L.length c', .bool b]) ∧ w'.ownsRow v.heap.size 34 4 (.slice A' L.length c') L.length (itmCells L) ∧ Below v.heap.size v w') := fun v => (specParseAgenda_any x v (by omega)).mono fun e w' h => by
        obtain ⟨L2, b2, A', c', he, ho9, hp, hb9⟩ := h
        obtain ⟨rfl, rfl⟩ := parseA_unique hp hp6
        exact ⟨A', c', he, ho9, hb9⟩
      have hL8 : L.length ≤ 10 := (parseA_len hp6).1
      clear hp6
      go_wp2_with fail
      refine (HS2.out y2).mono ?_
      rintro e y3 ⟨A7, c7, rfl, ho7, hby3⟩
      have hz3 := btr hz2 hby3
      replace ho6 := own_below ho6 hby3
      have HVR := Lib.hid (rAgendas_any A6 A7 c6 c7 L y3 (by unfold maxLen; omega) (own_rd ho6) (own_rd ho7))
      go_wp2_with (go_at_call 19; refine HVR.out.mono ?_; rintro e y4 ⟨rfl, hby4⟩)
      go_ret
      exact ⟨rfl, btr hz3 hby4⟩
  | true =>
    have e1 : timesR zs st = (timesL st zs, true) := if_pos hm
    have e2 : endR zs st = (endT st zs, true) := if_pos hm
    have e3 : idleR zs st = (endT st zs - st - sumM zs, true) := if_pos hm
    rw [e1] at ho2 ho3 ⊢
    rw [e2] at HE1 HE2
    rw [e3] at HI1 HI2
    clear e1 e2 e3
    obtain ⟨⟨hen0, hen1⟩, hid0, hUB, hUL, hTL, hsu⟩ := ag_law hm
    have hst := meets_in hm
    obtain ⟨hg, hst0, hst1⟩ := meets_in hm
    clear hst
    have hTLI : ((timesL st zs).length : Int) = (zs.length : Int) := by rw [hTL]
    clear hTL
    obtain ⟨hn10, hmin⟩ := goodItm_in hg
    have HMI := Lib.hid hmin
    have HSB : Hid (∀ k, 0 ≤ sumM (zs.take k) ∧ sumM (zs.take k) ≤ 2400) := fun k => by
      have h1 := sumM_in (xs := zs.take k) (fun s hs' => hmin s (List.mem_of_mem_take hs'))
      have h2 : (zs.take k).length ≤ 10 := by rw [List.length_take]; omega
      omega
    have HAT := Lib.hid (fun k (h1 : k < zs.length) (h2 : k < (timesL st zs).length) => times_at hm h1 h2)
    have HNX := Lib.hid (fun k (h1 : k + 1 < zs.length) (h2 : k < (timesL st zs).length) (h3 : k + 1 < (timesL st zs).length) => times_next h1 h2 h3)
    have HUB := Lib.hid hUB
    have HUL := Lib.hid hUL
    obtain ⟨idl, hidl⟩ : ∃ i, i = endT st zs - st - sumM zs := ⟨_, rfl⟩
    rw [← hidl] at HI1 HI2 hid0
    have HEN : Hid (st + (idl + sumM zs) = endT st zs) := by show _ = _; omega
    have hid1 : idl ≤ 10000 := by omega
    clear hidl hUB hUL hmin hg hm
    generalize endT st zs = en at *
    generalize timesL st zs = TL at *
    go_wp2_with fail
    refine (rInts_any A2 A3 c2 c3 TL w3 (own_max ho2) (own_rd ho2) (own_rd ho3)).mono ?_
    rintro e w4 ⟨rfl, hbq⟩
    replace hb := btr hb hbq
    replace ho1 := own_below ho1 hbq
    replace ho2 := own_below ho2 hbq
    clear ho3 hbq
    go_wp2_with fail
    refine (HE1.out w4 (own_rd ho1)).mono ?_
    rintro e w5 ⟨rfl, hbq⟩
    replace hb := btr hb hbq
    replace ho1 := own_below ho1 hbq
    replace ho2 := own_below ho2 hbq
    clear hbq HE1
    go_wp2_with fail
    refine (HI1.out w5 (own_rd ho1)).mono ?_
    rintro e w6 ⟨rfl, hbq⟩
    replace hb := btr hb hbq
    replace ho1 := own_below ho1 hbq
    replace ho2 := own_below ho2 hbq
    clear hbq HI1
    go_wp2_with fail
    refine (HE2.out w6 (own_rd ho1)).mono ?_
    rintro e w7 ⟨rfl, hbq⟩
    replace hb := btr hb hbq
    replace ho1 := own_below ho1 hbq
    replace ho2 := own_below ho2 hbq
    clear hbq HE2
    go_wp2_with fail
    refine (HI2.out w7 (own_rd ho1)).mono ?_
    rintro e W ⟨rfl, hbq⟩
    replace hb := btr hb hbq
    replace ho1 := own_below ho1 hbq
    replace ho2 := own_below ho2 hbq
    clear hbq HI2
    have hx1 := own_rd ho1
    have hx2 := own_rd ho2
    have hbW := Below.refl W.heap.size W
    have hTI := hTLI
    go_wp2_with fail
    go_loopw [17, 18] (fun u q wr => ∃ (k : Nat) (sm : Int), k ≤ zs.length ∧ q = .int .i64 k ∧ u = .int .i64 sm ∧ Hid (sm = idl + sumM (zs.take k)) ∧ (0 ≤ sm ∧ sm ≤ 100000) ∧ Below W.heap.size W wr) (fun _ q _ => zs.length - (intOf q).toNat)
    case atStart => exact ⟨0, idl, by omega, rfl, rfl, (by show _ = _; simp [sumM]), by omega, hbW⟩
    case round =>
      obtain ⟨k, sm, hk, rfl, rfl, HS, hsm, hbr⟩ := hrel
      by_cases hlt : k < zs.length
      · have hkT : k < TL.length := by omega
        obtain ⟨b1, off1, rfl, c0, c1', c2', c3'⟩ := Rd.itm (hx1.below hbr) hlt
        obtain ⟨b2, off2, rfl, d0⟩ := Rd.ints (hx2.below hbr) hkT
        have hAT := HAT.out k hlt hkT
        have HSE := Lib.hid (sumM_at hlt)
        have hmi := HMI.out zs[k] (List.getElem_mem _)
        have hsb := HSB.out (k + 1)
        rw [HSE.out] at hsb
        have HSn : Hid (sm + zs[k].mins = idl + sumM (zs.take (k + 1))) := by show _ = _; rw [HSE.out, HS.out]; omega
        have hsn : 0 ≤ sm + zs[k].mins ∧ sm + zs[k].mins ≤ 100000 := by have := HS.out; omega
        have hkI : (k : Int) < (zs.length : Int) := by omega
        have hkTI : (k : Int) < (TL.length : Int) := by omega
        have hw2 : IntKind.i64.wrap ((k : Int) + 1) = (k : Int) + 1 := by rw [IntKind.wrap_i64]; omega
        have hw3 : IntKind.i64.wrap (sm + zs[k].mins) = sm + zs[k].mins := by rw [IntKind.wrap_i64]; omega
        clear HSE HS hsb
        by_cases hk0 : 0 < k
        · obtain ⟨j, hjk⟩ : ∃ j, k = j + 1 := ⟨k - 1, by omega⟩
          have hjT : j < TL.length := by omega
          have hjz : j < zs.length := by omega
          obtain ⟨b3, off3, e3, -, -, f2, -⟩ := Rd.itm (hx1.below hbr) hjz
          cases e3
          obtain ⟨b4, off4, e4, g0⟩ := Rd.ints (hx2.below hbr) hjT
          cases e4
          have hNX : TL[j] + zs[j].mins ≤ TL[k] := by
            have h9 := HNX.out j (by omega) hjT (by omega)
            subst hjk
            exact h9
          have hmj := HMI.out zs[j] (List.getElem_mem _)
          have hT1 := (HAT.out j hjz hjT).2.2
          have hT2 := (HAT.out j hjz hjT).1
          have hk0I : (0 : Int) < (k : Int) := by omega
          have hk0D : decide ((0 : Int) < (k : Int)) = true := by simpa using hk0I
          have hw0 : IntKind.i64.wrap ((k : Int) - 1) = (j : Int) := by rw [IntKind.wrap_i64]; omega
          have hkj : (k : Int) - 1 = (j : Int) := by omega
          have hjTI : (j : Int) < (TL.length : Int) := by omega
          have hjI : (j : Int) < (zs.length : Int) := by omega
          clear hjk
          generalize zs[k] = s at *
          generalize zs[j] = s0 at *
          generalize TL[k] = t1 at *
          generalize TL[j] = t0 at *
          have hn1 : ¬ t1 < st := by omega
          have hn2 : ¬ t1 < s.time := by omega
          have hn3 : ¬ t1 < t0 + s0.mins := by omega
          have hn1D : decide (t1 < st) = false := by simpa using hn1
          have hn2D : decide (t1 < s.time) = false := by simpa using hn2
          have hn3D : decide (t1 < t0 + s0.mins) = false := by simpa using hn3
          have hw4 : IntKind.i64.wrap (t0 + s0.mins) = t0 + s0.mins := by rw [IntKind.wrap_i64]; omega
          have e0 := cell_after c0
          have e1 := cell_after c1'
          have e2 := cell_after c2'
          have e3 := cell_after c3'
          have e4 := cell_after d0
          have e5 := cell_after f2
          have e6 := cell_after g0
          go_wp2_with fail
          refine wp_region_after (by kernel_rfl) (by kernel_rfl) ?_
          repeat (go_big_quiet_step (fail))
          refine wpQuiet_nil ?_
          intro nq
          have hb2 := btr hbr nq.bel
          generalize nq.val = W1 at *
          go_wp2_with fail
          go_roundw
          case rel => exact ⟨k + 1, sm + s.mins, by omega, by go_num, rfl, HSn, by omega, hb2⟩
          case measure => simp [intOf]; omega
        · have hk0I : ¬ (0 : Int) < (k : Int) := by omega
          have hk0D : decide ((0 : Int) < (k : Int)) = false := by simpa using hk0I
          generalize zs[k] = s at *
          generalize TL[k] = t1 at *
          have hn1 : ¬ t1 < st := by omega
          have hn2 : ¬ t1 < s.time := by omega
          have hn1D : decide (t1 < st) = false := by simpa using hn1
          have hn2D : decide (t1 < s.time) = false := by simpa using hn2
          have e0 := cell_after c0
          have e1 := cell_after c1'
          have e2 := cell_after c2'
          have e3 := cell_after c3'
          have e4 := cell_after d0
          go_wp2_with fail
          refine wp_region_after (by kernel_rfl) (by kernel_rfl) ?_
          repeat (go_big_quiet_step (fail))
          refine wpQuiet_nil ?_
          intro nq
          have hb2 := btr hbr nq.bel
          generalize nq.val = W1 at *
          go_wp2_with fail
          go_roundw
          case rel => exact ⟨k + 1, sm + s.mins, by omega, by go_num, rfl, HSn, by omega, hb2⟩
          case measure => simp [intOf]; omega
      · have hkn : ¬ (k : Int) < (zs.length : Int) := by omega
        have HF : Hid (sm = idl + sumM zs) := HS.out.trans (by rw [List.take_of_length_le (by omega)])
        have hse : IntKind.i64.wrap (st + sm) = en := by have := HF.out; have := HEN.out; rw [IntKind.wrap_i64]; omega
        replace hb := btr hb hbr
        replace ho1 := own_below ho1 hbr
        generalize wr = W2 at *
        clear HS HF hbr hbW hx2 HAT HNX HMI HSB
        go_wp2_with fail
        refine (until_any Az cz zs st en W2 (by unfold maxLen; omega) (own_le ho1) (own_rd ho1) (fun s hs => by have := HZ s hs; unfold maxLen; omega)).mono ?_
        rintro e W3 ⟨A9, c9, rfl, ho9, hb9⟩
        replace hb := btr hb hb9
        have hul := HUL.out
        have hub := HUB.out
        generalize untilR zs st en = U at *
        obtain ⟨ul, ub⟩ := U
        simp only at hul hub
        subst hub
        rw [hul]
        clear ho9 ho1 ho2 hb9 HUL HUB
        go_wp2_with fail
        refine (drawText_any A n c W3 hn (HR.out.below hb)).mono ?_
        rintro e v1 ⟨A1, c1, xs, rfl, hl, hs, ho, hbv⟩
        have hbA := btr hb hbv
        have hle := own_le ho
        have hsz : ∀ s ∈ xs, s.title.size ≤ maxLen := fun s h => by have := hs s h; unfold maxLen; omega
        have HST : Hid (∀ v, Rd v A1 (itmCells xs) → Calls Tryz.prog 16 #[.slice A1 xs.length c1] v fun e w' => e = .returned (.tuple #[.string (textR xs).1, .bool (textR xs).2]) ∧ Below v.heap.size v w') := fun v h => specText_any A1 c1 xs v (by unfold maxLen; omega) hle h hsz
        have HIV : Hid (∀ v, Rd v A1 (itmCells xs) → Calls Tryz.prog 17 #[.slice A1 xs.length c1] v fun e w' => e = .returned (.bool (goodItm xs)) ∧ Below v.heap.size v w') := fun v h => isAgenda_any A1 c1 xs v (by unfold maxLen; omega) hle h hsz
        go_wp2_with fail
        refine (implText_any A1 c1 xs v1 (by unfold maxLen; omega) hle (own_rd ho) hsz (hdoor.below hbA).2.2).mono ?_
        rintro e v2 ⟨rfl, hbv2⟩
        have hbB := btr hbA hbv2
        replace ho := own_below ho hbv2
        clear hsz
        cases hg : goodItm xs with
        | false =>
          have HTX : textR xs = (⟨#[]⟩, false) := if_neg (by rw [hg]; decide)
          rw [HTX] at HST ⊢
          rw [hg] at HIV
          clear HTX hg hs
          go_wp2_with fail
          refine (HST.out v2 (own_rd ho)).mono ?_
          rintro e v3 ⟨rfl, hbv3⟩
          have hbC := btr hbB hbv3
          replace ho := own_below ho hbv3
          have hRx := own_rd ho
          go_wp2_with (go_at_call 17; refine (HIV.out _ hRx).mono ?_; rintro e v4 ⟨rfl, hbv4⟩)
          have hbD := btr hbC hbv4
          replace ho := own_below ho hbv4
          refine (implParseAgenda_any ⟨#[]⟩ v4 (by decide) (hdoor.below hbD)).mono ?_
          rintro e v5 ⟨L3, b3, A3, c3, rfl, ho3, -, hbv5⟩
          have hbE := btr hbD hbv5
          replace ho := own_below ho hbv5
          go_wp2_with fail
          refine (drawParse_any A n c v5 hn (HR.out.below hbE)).mono ?_
          rintro e y1 ⟨x, rfl, hx, hby⟩
          have hz1 := btr hbE hby
          go_wp2_with fail
          refine (implParseAgenda_any x y1 (by omega) (hdoor.below hz1)).mono ?_
          rintro e y2 ⟨L, b, A6, c6, rfl, ho6, hp6, hby2⟩
          have hz2 := btr hz1 hby2
          have HS2 : Hid (∀ v, Calls Tryz.prog 21 #[.string x] v fun e w' => ∃ A' c', e = .returned (.tuple #[.slice A' L.length c', .bool b]) ∧ w'.ownsRow v.heap.size 34 4 (.slice A' L.length c') L.length (itmCells L) ∧ Below v.heap.size v w') := fun v => (specParseAgenda_any x v (by omega)).mono fun e w' h => by
            obtain ⟨L2, b2, A', c', he, ho9, hp, hb9⟩ := h
            obtain ⟨rfl, rfl⟩ := parseA_unique hp hp6
            exact ⟨A', c', he, ho9, hb9⟩
          have hL8 : L.length ≤ 10 := (parseA_len hp6).1
          clear hp6
          go_wp2_with fail
          refine (HS2.out y2).mono ?_
          rintro e y3 ⟨A7, c7, rfl, ho7, hby3⟩
          have hz3 := btr hz2 hby3
          replace ho6 := own_below ho6 hby3
          have HVR := Lib.hid (rAgendas_any A6 A7 c6 c7 L y3 (by unfold maxLen; omega) (own_rd ho6) (own_rd ho7))
          go_wp2_with (go_at_call 19; refine HVR.out.mono ?_; rintro e y4 ⟨rfl, hby4⟩)
          go_ret
          exact ⟨rfl, btr hz3 hby4⟩
        | true =>
          have HTX : textR xs = (⟨(textG lineA xs).toArray⟩, true) := if_pos hg
          have hTs : (textR xs).1.size ≤ 510 := textR_size xs
          rw [HTX] at HST hTs ⊢
          rw [hg] at HIV
          simp only at hTs
          have HPS : Hid (∀ v, Below w.heap.size w v → Calls Tryz.prog 18 #[.string ⟨(textG lineA xs).toArray⟩] v fun e w' => ∃ A' c', e = .returned (.tuple #[.slice A' xs.length c', .bool true]) ∧ w'.ownsRow v.heap.size 34 4 (.slice A' xs.length c') xs.length (itmCells xs) ∧ Below v.heap.size v w') := fun v hb => (implParseAgenda_any _ v (by omega) (hdoor.below hb)).mono fun e w' h => by
            obtain ⟨L2, b2, A', c', he, ho9, hp, hb9⟩ := h
            obtain ⟨rfl, rfl⟩ := parseA_unique hp (.inl ⟨rfl, hg, rfl⟩)
            exact ⟨A', c', he, ho9, hb9⟩
          generalize (⟨(textG lineA xs).toArray⟩ : ByteArray) = TX at *
          clear HTX hTs hg hs
          go_wp2_with fail
          refine (HST.out v2 (own_rd ho)).mono ?_
          rintro e v3 ⟨rfl, hbv3⟩
          have hbC := btr hbB hbv3
          replace ho := own_below ho hbv3
          have hRx := own_rd ho
          go_wp2_with (go_at_call 17; refine (HIV.out _ hRx).mono ?_; rintro e v4 ⟨rfl, hbv4⟩)
          have hbD := btr hbC hbv4
          replace ho := own_below ho hbv4
          refine (HPS.out v4 hbD).mono ?_
          rintro e v5 ⟨A3, c3, rfl, ho3, hbv5⟩
          have hbE := btr hbD hbv5
          replace ho := own_below ho hbv5
          have HVX := Lib.hid (rAgendas_any A3 A1 c3 c1 xs v5 (by unfold maxLen; omega) (own_rd ho3) (own_rd ho))
          go_wp2_with (go_at_call 19; refine HVX.out.mono ?_; rintro e v6 ⟨rfl, hbv6⟩)
          have hbF := btr hbE hbv6
          refine (drawParse_any A n c v6 hn (HR.out.below hbF)).mono ?_
          rintro e y1 ⟨x, rfl, hx, hby⟩
          have hz1 := btr hbF hby
          go_wp2_with fail
          refine (implParseAgenda_any x y1 (by omega) (hdoor.below hz1)).mono ?_
          rintro e y2 ⟨L, b, A6, c6, rfl, ho6, hp6, hby2⟩
          have hz2 := btr hz1 hby2
          have HS2 : Hid (∀ v, Calls Tryz.prog 21 #[.string x] v fun e w' => ∃ A' c', e = .returned (.tuple #[.slice A' L.length c', .bool b]) ∧ w'.ownsRow v.heap.size 34 4 (.slice A' L.length c') L.length (itmCells L) ∧ Below v.heap.size v w') := fun v => (specParseAgenda_any x v (by omega)).mono fun e w' h => by
            obtain ⟨L2, b2, A', c', he, ho9, hp, hb9⟩ := h
            obtain ⟨rfl, rfl⟩ := parseA_unique hp hp6
            exact ⟨A', c', he, ho9, hb9⟩
          have hL8 : L.length ≤ 10 := (parseA_len hp6).1
          clear hp6
          go_wp2_with fail
          refine (HS2.out y2).mono ?_
          rintro e y3 ⟨A7, c7, rfl, ho7, hby3⟩
          have hz3 := btr hz2 hby3
          replace ho6 := own_below ho6 hby3
          have HVR := Lib.hid (rAgendas_any A6 A7 c6 c7 L y3 (by unfold maxLen; omega) (own_rd ho6) (own_rd ho7))
          go_wp2_with (go_at_call 19; refine HVR.out.mono ?_; rintro e y4 ⟨rfl, hby4⟩)
          go_ret
          exact ⟨rfl, btr hz3 hby4⟩
theorem own : ownKnob Tryz.prog.godebug = none := by kernel_rfl
theorem laidOut : laidOutB Tryz.prog = true := by kernel_rfl
/-- The wrap, with what the row lists and the world's shape both kept. -/
theorem returns_listed {H : Type} {enc : TypeId × Value → H} {a : Assume} {C : Checked} {os : Os} {f : FuncId} {fn : Func} {s : ChangeSpec} {conds : List PathCond} {apart fresh handsOn again : Bool} {X : World → Array Value → Prop}
    (hX : ∀ (w w' : World) (args : Array Value), w.heap = w'.heap → X w args → X w' args)
    (own : ownKnob C.prog.godebug = none) (started : os.Started) (noInit : C.prog.inits.idxOf? f = none) (hfn : C.prog.funcs[f]? = some fn)
    (witness : ∃ (w : World) (tape : Tape) (i : Input), w.os = os ∧ (w.forCall tape i).Shaped C.prog ∧ i.vars = [] ∧ Input.okWide C.prog (w.forCall tape i) .any w.heap.size f i ∧
      ((s.pre enc C.prog fn conds apart (w.forCall tape i).memory i.args ∧ X (w.forCall tape i).memory i.args) ∧ sizedMet enc C.prog fn (OpenSpec.ofChange s) apart (w.forCall tape i).memory i.args) ∧ a.holds C.prog (lone (Frame.enter C.prog f i.args .normal) [] (w.forCall tape i)))
    (contract : ∀ (W : World) (base : Nat) (args : Array Value) (ds gs : List (DataW H)) (before : List MemPlace),
      (∀ (j : Nat) t v, fn.params[j]? = some t → args[j]? = some v → Value.okWide C.prog W .any base t v) →
      DataW.Whole enc C.prog fn.params.toList s.vars apart W args.toList ds gs before → X W args → W.ShapedOpen C.prog →
      Calls C.prog f args W fun e W' => ∃ v, e = .returned v ∧ s.post enc C.prog fn apart fresh handsOn again W args v W') :
    ReturnsInHanded a C os f .any (fun w args => (s.pre enc C.prog fn conds apart w args ∧ X w args) ∧ sizedMet enc C.prog fn (OpenSpec.ofChange s) apart w args) (s.post enc C.prog fn apart fresh handsOn again) := by
  refine returnsInHanded_of_calls own started noInit witness ?_
  intro w tape i _ hsh _ hok hpre _
  obtain ⟨_, _, _, g, hg, _, _, _, _, hval⟩ := hok
  obtain rfl := Option.some.inj (hg.symm.trans hfn)
  obtain ⟨⟨⟨ds, gs, before, hw, _⟩, hx⟩, _⟩ := hpre
  refine (contract (w.forCall tape i) w.heap.size i.args ds gs before hval (DataW.Whole.of_heap (w' := w.forCall tape i) (by rfl) hw) (hX _ _ _ (by rfl) hx) hsh).mono fun e W' h => ?_
  obtain ⟨v, he, hp⟩ := h
  subst he
  exact ChangeSpec.post_blind hp
def fagList : List (String × DataW Unit) := [("math/bits.deBruijn32tab", Rows.laid_math_bits_deBruijn32tab), ("math/bits.deBruijn64tab", Rows.laid_math_bits_deBruijn64tab), ("internal/strconv.uint64pow10", Rows.laid_internal_strconv_uint64pow10), ("unicode/utf8.acceptRanges", Rows.laid_unicode_utf8_acceptRanges), ("strconv.ErrRange", Rows.laid_strconv_ErrRange), ("strconv.ErrSyntax", Rows.laid_strconv_ErrSyntax), ("unicode/utf8.first", Rows.laid_unicode_utf8_first)]
theorem fag_plain {W : World} (h : laidMetH Tryz.prog fagList W) : laidMet Tryz.prog fagList W := by
  rw [MakeChecks.laidMetH_plain _ _ _ (by kernel_rfl)] at h; exact h
set_option maxRecDepth 100000 in
theorem fag_door (os : Os) (args : Array Value) : laidMetH Tryz.prog fagList ((World.laidAll Tryz.prog os fagList).forCall (fun _ _ => 0) ⟨#[], args, []⟩).memory := by
  rw [MakeChecks.laidMetH_plain _ _ _ (by kernel_rfl)]; exact laidMet_laidAll _ (by kernel_rfl) (by kernel_rfl)
set_option maxRecDepth 100000 in
theorem fag_tab {W : World} (h : laidMetH Tryz.prog fagList W) : Lib.TabIs Tryz.prog W "internal/strconv.uint64pow10" .u64 Lib.pow10Tab := by
  obtain ⟨ps, ⟨g0, t0, cs0, f0, p0, q0, hg0, ht0, hv0, hd0, ⟨g1, t1, cs1, f1, p1, q1, hg1, ht1, hv1, hd1, ⟨g2, t2, cs2, f2, p2, q2, hg2, ht2, hv2, hd2, ⟨g3, t3, cs3, f3, p3, q3, hg3, ht3, hv3, hd3, ⟨g4, t4, cs4, f4, p4, q4, hg4, ht4, hv4, hd4, ⟨g5, t5, cs5, f5, p5, q5, hg5, ht5, hv5, hd5, ⟨g6, t6, cs6, f6, p6, q6, hg6, ht6, hv6, hd6, _, _⟩, _⟩, _⟩, _⟩, _⟩, _⟩, _⟩, _, _⟩ := fag_plain h
  unfold Lib.TabIs
  have e1 : g2 = 3 := Option.some.inj (hg2.symm.trans (by kernel_rfl))
  subst e1
  have e2 : t2 = 108 := Option.some.inj (ht2.symm.trans (by kernel_rfl))
  subst e2
  rw [hv2, ← Lib.cells_of_tab (zs := Lib.pow10Tab) Tryz.underlying108 Tryz.underlying45 (by kernel_rfl) (by kernel_rfl) hd2]
set_option maxRecDepth 100000 in
theorem fag_syn {W : World} (h : laidMetH Tryz.prog fagList W) : SynIs W := by
  have h0 := fag_plain h
  have h1 := (((((h0.tail).tail).tail).tail).tail)
  obtain ⟨a, s, hv, -, -, -⟩ := laid_sentinel h1 (g := 1) (ti := 75) (tp := 120) (by kernel_rfl) (by kernel_rfl) Tryz.underlying75 (fun u hu => typeName_ptr_named (nm := "errors.errorString") (by rw [show "*" ++ "errors.errorString" = "*errors.errorString" by decide]; kernel_rfl) (by kernel_rfl) (by decide) u (by rw [show "*" ++ "errors.errorString" = "*errors.errorString" by decide]; exact hu)) Tryz.underlying120 Tryz.underlying122 rfl rfl Tryz.underlying9 (by kernel_rfl) (by kernel_rfl)
  exact ⟨_, _, hv⟩
theorem fag_met {W : World} (hsh : W.ShapedOpen Tryz.prog) (h : laidMetH Tryz.prog fagList W) : AgDoor W := ⟨Tryz.laysM146.s1_3 W hsh, fag_syn h, fag_tab h⟩
set_option maxRecDepth 100000 in
theorem FnAgendas_lifted (os : Os) (started : os.Started) (H : Type) (enc : TypeId × Value → H) :
    ReturnsInHanded {} Tryz.checked os 3 .any (fun w args => (Rows.fnAgendasSpec.pre enc Tryz.prog Tryz.f3 [] false w args ∧ laidMetH Tryz.prog fagList w) ∧ sizedMet enc Tryz.prog Tryz.f3 (OpenSpec.ofChange Rows.fnAgendasSpec) false w args)
      (Rows.fnAgendasSpec.post enc Tryz.prog Tryz.f3 false true false false) := by
  refine returns_listed (C := Tryz.checked) (X := fun w _ => laidMetH Tryz.prog fagList w) (fun _ _ _ hh h => h.of_heap hh) own started (by kernel_rfl) Tryz.func3
    (ChangeSpec.witness_shaped (enc := enc) (C := Tryz.checked) (os := os) (X := fun w _ => laidMetH Tryz.prog fagList w) false (World.laidAll Tryz.prog os fagList) #[.slice none 0 0] 8 (World.laidAll_os _ _ _) (World.shaped_of_ZipB (by kernel_rfl) (by kernel_rfl)) (by kernel_rfl) (by kernel_rfl) (by kernel_rfl) (fag_door os _)) ?_
  intro W base args ds gs before hval0 hW hL hsh
  have hval : ∀ (j : Nat) t v, Tryz.f3.params[j]? = some t → args[j]? = some v → Value.okWide Tryz.prog W .any base t v := hval0
  have hW' := hW
  obtain ⟨p, q, hA, -⟩ := hW
  replace hA : DataW.TrodAll enc Tryz.prog W 0 (fun _ => true) true Tryz.f3.params.toList args.toList ds p := hA
  rw [Tryz.params3] at hA hval
  obtain ⟨v0, d0, rfl, rfl, h0⟩ := trodAll_one hA
  obtain ⟨A0, len0, cap0, rfl⟩ := okWide_slice Tryz.underlying22 (hval 0 22 v0 rfl rfl)
  obtain ⟨code, rfl, hlc, hcm, hx, hok⟩ := open_Code h0
  exact My.law_step laidOut Tryz.underlying4 (by kernel_rfl) (by kernel_rfl) rfl (fun H ds hd => by match ds, hd with | [_], _ => rfl) hW' (law_FnAgendas A0 cap0 code W (Nat.le_trans hlc hcm) hx hok (fag_met hsh hL))
theorem FnAgendas_holds : Rows.FnAgendasSaid :=
  OpenClaim.holds_of_wide 3 Tryz.f3 rfl rfl rfl rfl rfl rfl rfl ⟨rfl, rfl, rfl, rfl, rfl⟩ rfl rfl rfl rfl rfl (by kernel_rfl) Tryz.func3 (by kernel_rfl)
    (of_decide_eq_true (by kernel_rfl)) (by unfold Func.isWrapper; first | (rw [if_pos (by decide +kernel)]; kernel_rfl) | (rw [if_neg (by decide +kernel)]; exact ⟨rfl, rfl⟩))
    (fun os started H enc _ => FnAgendas_lifted os started H enc)
theorem FnAgendas_card : Rows.FnAgendasCardSaid :=
  Claim7.holds_tied_plain_at .later [] [.data, .data, .data, .data, .sentinel, .sentinel, .pinned] true (true, "1a8c874068a32e46af9d640034de947df6134b1b9f2fd4cd24340c74d9e01978") true
    FnAgendas_holds (fun _ h => by cases h) (by kernel_rfl) (fun _ h => by cases h) fnAgendas_row_tie rfl ⟨rfl, rfl⟩ (by kernel_rfl) rfl
    (fun f fn hf hfn => by
      obtain rfl : f = 3 := Option.some.inj ((show Tryz.prog.funcNamed "loop.example/g00909/laws.FnAgendas" = some 3 by kernel_rfl).symm.trans hf) |>.symm
      obtain rfl : fn = Tryz.f3 := (Option.some.inj (Tryz.func3.symm.trans hfn)).symm
      exact ⟨by kernel_rfl, fun j t ht => by
        rw [Tryz.params3] at ht
        have hm : t ∈ [22] := by simpa using Array.mem_of_getElem? ht
        have hall : ([22].all fun u => !Tryz.prog.wantsStandIn u) = true := by kernel_rfl
        exact (show Tryz.prog.wantsStandIn t = false by simpa using List.all_eq_true.1 hall t hm)⟩)
    (by kernel_rfl)
end Go.Proofs.YtfpjelpbeicdoaaGreatDoor
