/-
  Draws of agendas. Conditions: none.
-/
import Derived.Test.YtfpjelpbeicdoaaGreatDoorItmD
namespace Go.Proofs.YtfpjelpbeicdoaaGreatDoor
open Go.RowKit Go.My
def lenOf : Value → Nat
  | .slice _ n _ => n
  | _ => 0
theorem own_snocM {w : World} {B n : Nat} {A : Option Addr} {c : Nat} {L : List Itm} {m : Itm} (h : w.ownsRow B 34 4 (.slice A (n + 1) c) (n + 1) (itmCells L ++ [.int .i64 m.id, .string m.title, .int .i64 m.mins, .int .i64 m.time])) (hn : n = L.length := by rfl) : w.ownsRow B 34 4 (.slice A (L ++ [m]).length c) (L ++ [m]).length (itmCells (L ++ [m])) := by
  subst hn
  have e : itmCells (L ++ [m]) = itmCells L ++ [.int .i64 m.id, .string m.title, .int .i64 m.mins, .int .i64 m.time] := by simp [itmCells, Itm.cells]
  rw [e, List.length_append]; exact h
theorem titles_snoc {L : List Itm} {m : Itm} {b : Nat} (h : ∀ s ∈ L, s.title.size ≤ b) (hm : m.title.size ≤ b) : ∀ s ∈ L ++ [m], s.title.size ≤ b := by
  intro s hs
  rcases List.mem_append.1 hs with hs | hs
  · exact h s hs
  · simp at hs; subst hs; exact hm
theorem itm_put {L : List Itm} (h : 0 < L.length) (m : Itm) : ((((itmCells L).set 0 (.int .i64 m.id)).set 1 (.string m.title)).set 2 (.int .i64 m.mins)).set 3 (.int .i64 m.time) = itmCells (L.set 0 m) := by
  cases L with
  | nil => simp at h
  | cons x r => simp [itmCells, Itm.cells]
set_option maxHeartbeats 16000000 in
theorem agenda_any (g N : Nat) (w : World) (h : Cur w g N 47) (hN : N ≤ 400000000000) :
    Calls Tryz.prog 22 #[.pointer (some ⟨g, 0, none⟩)] w fun e w' => ∃ A' c', ∃ xs : List Itm, e = .returned (.slice A' xs.length c') ∧ xs.length ≤ 11 ∧ (∀ s ∈ xs, s.title.size ≤ 11) ∧ w'.ownsRow w.heap.size 34 4 (.slice A' xs.length c') xs.length (itmCells xs) ∧ Cur w' g (N + 400) 47 ∧ w.grownBy w' (some g) := by
  have hlt := h.lt
  go_enter Tryz.func22, Tryz.ntmps22
  go_wp2_with fail
  have hbE := bnew (Below.refl w.heap.size w) (.cells #[] 34)
  have ho := own_lit (e := 34) (size := 4) (B := w.heap.size) (w := w) #[] 0 (Nat.le_refl _) (by unfold maxLen; omega) rfl
  have hc := h.below hbE
  have hg := grown_wide (row := some g) (grown_of_below hbE)
  clear hbE h
  generalize w.alloc (.cells #[] 34) = W at *
  refine (pick_any g _ 3 _ hc (by omega)).mono ?_
  rintro e w9 ⟨nu0, rfl, -, hc9, hg9⟩
  replace ho := World.ownsRow.kept ho hg9 (.inr (Ne.symm (own_ne ho hlt)))
  replace hg := grown_trans hg hg9
  replace hc := hc9
  clear hc9 hg9
  generalize w9 = W at *
  go_wp2_with fail
  refine (pick_any g _ 7 _ hc (by omega)).mono ?_
  rintro e w9 ⟨k, rfl, hk, hc9, hg9⟩
  replace ho := World.ownsRow.kept ho hg9 (.inr (Ne.symm (own_ne ho hlt)))
  replace hg := grown_trans hg hg9
  replace hc := hc9
  clear hc9 hg9
  generalize w9 = W at *
  go_wp2_with fail
  obtain ⟨k, rfl⟩ : ∃ m : Nat, k = m := ⟨k.toNat, by omega⟩
  obtain ⟨r, hr⟩ : ∃ r, r = w.heap.size := ⟨_, rfl⟩
  rw [← hr] at hlt ho ⊢
  have hrw : w.heap.size ≤ r := by omega
  have hrw2 : r ≤ w.heap.size := by omega
  clear hr
  have hk7 : k ≤ 6 := by have := hk.2.1 (by omega); omega
  go_loopw [3, 4, 5] (fun l u q wr => ∃ (A' : Option Addr) (c' : Nat) (L : List Itm) (nu : Int) (k : Nat), l = .slice A' L.length c' ∧ q = .int .i64 k ∧ u = .int .i64 nu ∧ L.length + k ≤ 6 ∧ Hid (∀ s ∈ L, s.title.size ≤ 11) ∧ Cur wr g (N + 200 - 16 * k) 47 ∧ wr.ownsRow r 34 4 (.slice A' L.length c') L.length (itmCells L) ∧ w.grownBy wr (some g)) (fun _ _ q _ => (intOf q).toNat)
  case atStart => exact ⟨_, _, [], _, k, rfl, rfl, rfl, by simp; omega, (by intro s hs; simp at hs), hc.more (by omega), by simpa [itmCells] using ho, hg⟩
  case round =>
    clear hc ho hg hk hk7
    obtain ⟨A', c', L, nu, k, rfl, rfl, rfl, hLk, HL, hc, ho, hg⟩ := hrel
    generalize wr = W at *
    by_cases hk0 : 0 < k
    · have hkI : (0 : Int) < (k : Int) := by omega
      go_wp2_with fail
      refine (agendaItem_any g _ nu _ hc (by omega)).mono ?_
      rintro e w9 ⟨m, rfl, hm, hc9, hg9⟩
      replace ho := World.ownsRow.kept ho hg9 (.inr (Ne.symm (own_ne ho hlt)))
      replace hg := grown_trans hg hg9
      replace hc := hc9
      clear hc9 hg9
      generalize w9 = W at *
      have hbM := bnew (Below.refl W.heap.size W) (.cells #[.int .i64 m.id, .string m.title, .int .i64 m.mins, .int .i64 m.time] 34)
      have hoM := own_below ho hbM
      have hcM := hc.below hbM
      have hgM := grown_below hg hbM
      have hrd : Rd (W.alloc (.cells #[.int .i64 m.id, .string m.title, .int .i64 m.mins, .int .i64 m.time] 34)) (some ⟨W.heap.size, 0, none⟩) [.int .i64 m.id, .string m.title, .int .i64 m.mins, .int .i64 m.time] := Rd.made
      have hhs : r ≤ W.heap.size := by have := hg.size; omega
      go_wp2_with (at_builtin; go_must (refine wpl_app rfl (.tmp 16) (.tmp 20) 24 rfl el_Itm (v := .slice A' L.length c') rfl hoM rfl rfl hrd (by simp [Value.oneCell']) (by unfold maxLen; omega) (by omega) (Nat.le_trans hhs hbM.size) ?_; intro A2 c2 w5 h5 hg5 _; have hl2 : L.length + 1 = (L ++ [m]).length := (by simp); have h5' := own_snocM (m := m) h5; have hl3 : (L ++ [m]).length ≤ L.length + 1 := Nat.le_of_eq hl2.symm; have hl6 : L.length + 1 ≤ (L ++ [m]).length := Nat.le_of_eq hl2; have HN : Hid (∀ s ∈ L ++ [m], s.title.size ≤ 11) := titles_snoc HL.out hm; rw [hl2]; clear hl2 h5; have hc5 := hcM.own hg5 hoM hlt; have hg5' := grown_own hgM hoM hg5 hrw; clear hg5 hbM hrd hoM hcM hgM hm; generalize L ++ [m] = LL at *))
      have hok := h5'
      refine (pick_any g _ 3 _ hc5 (by omega)).mono ?_
      rintro e w6 ⟨v6, rfl, hv6, hc6, hg6⟩
      have h6 := h5'.kept hg6 (.inr (Ne.symm (own_ne h5' hlt)))
      go_wp2_with fail
      refine (pick_any g _ 40 _ hc6 (by omega)).mono ?_
      rintro e w7 ⟨v7, rfl, hv7, hc7, hg7⟩
      have h7 := h6.kept hg7 (.inr (Ne.symm (own_ne h6 hlt)))
      go_wp2_with fail
      go_roundw
      case rel => exact ⟨A2, c2, LL, _, k - 1, rfl, by go_num, rfl, by omega, HN, hc7.more (by omega), h7, grown_trans (grown_trans hg5' hg6) hg7⟩
      case measure => simp [intOf]; omega
    · have hkI : ¬ (0 : Int) < (k : Int) := by omega
      have hL6 : L.length ≤ 6 := by omega
      clear hLk
      by_cases hl1 : 1 < L.length
      · have hl1I : (1 : Int) < (L.length : Int) := by omega
        go_wp2_with fail
        refine (one_any g _ 3 _ hc (by omega)).mono ?_
        rintro e w9 ⟨b, rfl, hc9, hg9⟩
        replace ho := World.ownsRow.kept ho hg9 (.inr (Ne.symm (own_ne ho hlt)))
        replace hg := grown_trans hg hg9
        replace hc := hc9
        clear hc9 hg9
        generalize w9 = W at *
        cases b with
        | false =>
          go_wp2_with fail
          refine (one_any g _ 24 _ hc (by omega)).mono ?_
          rintro e w9 ⟨b, rfl, hc9, hg9⟩
          replace ho := World.ownsRow.kept ho hg9 (.inr (Ne.symm (own_ne ho hlt)))
          replace hg := grown_trans hg hg9
          replace hc := hc9
          clear hc9 hg9
          generalize w9 = W at *
          cases b with
          | false =>
            go_wp2
            go_ret
            exact ⟨A', c', L, rfl, by omega, HL.out, own_base ho hrw, hc.more (by omega), hg⟩
          | true =>
            go_wp2_with fail
            go_loopw [3, 4] (fun l u wr => ∃ (A' : Option Addr) (c' : Nat) (L : List Itm) (id : Int), l = .slice A' L.length c' ∧ u = .int .i64 id ∧ L.length ≤ 11 ∧ Hid (∀ s ∈ L, s.title.size ≤ 11) ∧ Cur wr g (N + 210 + 2 * L.length) 47 ∧ wr.ownsRow r 34 4 (.slice A' L.length c') L.length (itmCells L) ∧ w.grownBy wr (some g)) (fun l _ _ => 12 - (lenOf l))
            case atStart => exact ⟨A', c', L, nu, rfl, rfl, by omega, HL, hc.more (by omega), ho, hg⟩
            case round =>
              clear hc ho hg HL hL6
              obtain ⟨A', c', L, id, rfl, rfl, hL11, HL, hc, ho, hg⟩ := hrel
              generalize wr = W at *
              go_wp2_with fail
              refine (pick_any g _ 2 _ hc (by omega)).mono ?_
              rintro e w9 ⟨y, rfl, hy, hc9, hg9⟩
              replace ho := World.ownsRow.kept ho hg9 (.inr (Ne.symm (own_ne ho hlt)))
              replace hg := grown_trans hg hg9
              replace hc := hc9
              clear hc9 hg9
              generalize w9 = W at *
              have hyw : IntKind.i64.wrap (10 + y) = 10 + y := by rw [IntKind.wrap_i64]; omega
              by_cases hle : (L.length : Int) < 10 + y
              · have hl10 : L.length ≤ 10 := by omega
                have hm : (⟨wrap64 (id + 1), ⟨#[120]⟩, 1, -1⟩ : Itm).title.size ≤ 11 := by show (1 : Nat) ≤ 11; omega
                have hbM := bnew (Below.refl W.heap.size W) (.cells #[.int .i64 (wrap64 (id + 1)), .string ⟨#[120]⟩, .int .i64 1, .int .i64 (-1)] 34)
                have hoM := own_below ho hbM
                have hcM := hc.below hbM
                have hgM := grown_below hg hbM
                have hrd : Rd (W.alloc (.cells #[.int .i64 (wrap64 (id + 1)), .string ⟨#[120]⟩, .int .i64 1, .int .i64 (-1)] 34)) (some ⟨W.heap.size, 0, none⟩) [.int .i64 (wrap64 (id + 1)), .string ⟨#[120]⟩, .int .i64 1, .int .i64 (-1)] := Rd.made
                have hhs : r ≤ W.heap.size := by have := hg.size; omega
                go_wp2_with (at_builtin; go_must (refine wpl_app rfl (.tmp 61) (.tmp 64) 24 rfl el_Itm (v := .slice A' L.length c') rfl hoM rfl rfl hrd (by simp [Value.oneCell']) (by unfold maxLen; omega) (by omega) (Nat.le_trans hhs hbM.size) ?_; intro A2 c2 w5 h5 hg5 _; have hl2 : L.length + 1 = (L ++ [(⟨wrap64 (id + 1), ⟨#[120]⟩, 1, -1⟩ : Itm)]).length := (by simp); have h5' := own_snocM (m := (⟨wrap64 (id + 1), ⟨#[120]⟩, 1, -1⟩ : Itm)) h5; have hl3 : (L ++ [(⟨wrap64 (id + 1), ⟨#[120]⟩, 1, -1⟩ : Itm)]).length ≤ L.length + 1 := Nat.le_of_eq hl2.symm; have hl6 : L.length + 1 ≤ (L ++ [(⟨wrap64 (id + 1), ⟨#[120]⟩, 1, -1⟩ : Itm)]).length := Nat.le_of_eq hl2; have HN : Hid (∀ s ∈ L ++ [(⟨wrap64 (id + 1), ⟨#[120]⟩, 1, -1⟩ : Itm)], s.title.size ≤ 11) := titles_snoc HL.out hm; rw [hl2]; clear hl2 h5; have hc5 := hcM.own hg5 hoM hlt; have hg5' := grown_own hgM hoM hg5 hrw; clear hg5 hbM hrd hoM hcM hgM hm; generalize L ++ [(⟨wrap64 (id + 1), ⟨#[120]⟩, 1, -1⟩ : Itm)] = LL at *))
                go_roundw
                case rel => exact ⟨A2, c2, LL, _, rfl, rfl, by omega, HN, hc5.more (by omega), h5', hg5'⟩
                case measure => simp [lenOf]; omega
              · go_wp2_with fail
                go_ret
                exact ⟨A', c', L, rfl, by omega, HL.out, own_base ho hrw, hc.more (by omega), hg⟩
        | true =>
          obtain ⟨m, hm⟩ : ∃ m, m + 1 = L.length := ⟨L.length - 1, by omega⟩
          have hmw : IntKind.i64.wrap ((L.length : Int) - 1) = (m : Int) := by rw [IntKind.wrap_i64]; omega
          have hmI : (m : Int) < (L.length : Int) := by omega
          have hmJ : (m : Int) ≤ (L.length : Int) := by omega
          have hl0I : (0 : Int) < (L.length : Int) := by omega
          obtain ⟨q, rfl⟩ : ∃ q, A' = some ⟨q, 0, none⟩ := by
            rcases ho.2 with ⟨h2, h0⟩ | ⟨q, cap, cur, hv, _⟩
            · omega
            · simp only [Value.slice.injEq] at hv
              exact ⟨q, hv.1⟩
          have hqr : r ≤ q := (ho.lt q rfl).1
          have hgq : g < q := by omega
          have hwq : w.heap.size ≤ q := by omega
          obtain ⟨LB, hB, _, _, _, hLc, _⟩ := own_blk' ho
          have hmc : m ≤ c' := by omega
          have z0 := blk_frozen hB 0
          have z1 := blk_frozen hB 1
          have z2 := blk_frozen hB 2
          have z3 := blk_frozen hB 3
          clear hB
          obtain ⟨b1, o1, e1, c0, c1, c2, c3⟩ := Rd.itm (own_rd ho) (k := m) (by omega)
          cases e1
          obtain ⟨b2, o2, e2, d0, d1, d2, d3⟩ := Rd.itm (own_rd ho) (k := 0) (by omega)
          cases e2
          simp only [Nat.zero_add, Nat.zero_mul] at c0 c1 c2 c3 d0 d1 d2 d3
          have hs11 := HL.out L[m] (List.getElem_mem (by omega))
          generalize L[m] = s at *
          have ho1 := own_set (own_set (own_set (own_set ho 0 (.int .i64 s.id)) 1 (.string s.title)) 2 (.int .i64 s.mins)) 3 (.int .i64 s.time)
          rw [itm_put (by omega)] at ho1
          have ho2 := own_take ho1 (k := m) (by omega) (by simp)
          rw [itmCells_take _ m (by simp; omega)] at ho2
          have hc1 := (((hc.set hgq 0 (.int .i64 s.id)).set hgq 1 (.string s.title)).set hgq 2 (.int .i64 s.mins)).set hgq 3 (.int .i64 s.time)
          have hg1 := grown_set_new (grown_set_new (grown_set_new (grown_set_new hg hwq 0 (.int .i64 s.id)) hwq 1 (.string s.title)) hwq 2 (.int .i64 s.mins)) hwq 3 (.int .i64 s.time)
          have HL2 : Hid (∀ y ∈ (L.set 0 s).take m, y.title.size ≤ 11) := by
            intro y hy
            rcases List.mem_or_eq_of_mem_set (List.mem_of_mem_take hy) with hy | rfl
            · exact HL.out y hy
            · exact hs11
          have hl2 : ((L.set 0 s).take m).length = m := by simp; omega
          clear ho ho1 hc hg HL
          generalize (L.set 0 s).take m = L2 at *
          go_wp2_with fail
          generalize (((W.setCell ⟨q, 0, none⟩ (.int .i64 s.id)).setCell ⟨q, 1, none⟩ (.string s.title)).setCell ⟨q, 2, none⟩ (.int .i64 s.mins)).setCell ⟨q, 3, none⟩ (.int .i64 s.time) = W2 at *
          clear c0 c1 c2 c3 d0 d1 d2 d3 z0 z1 z2 z3 hmw hmI hmJ hl0I hl1I hl1
          clear hmc
          subst hl2
          have hL62 : L2.length ≤ 6 := by omega
          clear hm hL6
          have hc := hc1
          have hg := hg1
          have ho := ho2
          clear hc1 hg1 ho2
          generalize W2 = W at *
          refine (one_any g _ 24 _ hc (by omega)).mono ?_
          rintro e w9 ⟨b, rfl, hc9, hg9⟩
          replace ho := World.ownsRow.kept ho hg9 (.inr (Ne.symm (own_ne ho hlt)))
          replace hg := grown_trans hg hg9
          replace hc := hc9
          clear hc9 hg9
          generalize w9 = W at *
          cases b with
          | false =>
            go_wp2
            go_ret
            exact ⟨(some ⟨q, 0, none⟩), c', L2, rfl, by omega, HL2.out, own_base ho hrw, hc.more (by omega), hg⟩
          | true =>
            go_wp2_with fail
            go_loopw [3, 4] (fun l u wr => ∃ (A' : Option Addr) (c' : Nat) (L : List Itm) (id : Int), l = .slice A' L.length c' ∧ u = .int .i64 id ∧ L.length ≤ 11 ∧ Hid (∀ s ∈ L, s.title.size ≤ 11) ∧ Cur wr g (N + 210 + 2 * L.length) 47 ∧ wr.ownsRow r 34 4 (.slice A' L.length c') L.length (itmCells L) ∧ w.grownBy wr (some g)) (fun l _ _ => 12 - (lenOf l))
            case atStart => exact ⟨(some ⟨q, 0, none⟩), c', L2, nu, rfl, rfl, by omega, HL2, hc.more (by omega), ho, hg⟩
            case round =>
              clear hc ho hg HL2 hL62
              obtain ⟨A', c', L, id, rfl, rfl, hL11, HL, hc, ho, hg⟩ := hrel
              generalize wr = W at *
              go_wp2_with fail
              refine (pick_any g _ 2 _ hc (by omega)).mono ?_
              rintro e w9 ⟨y, rfl, hy, hc9, hg9⟩
              replace ho := World.ownsRow.kept ho hg9 (.inr (Ne.symm (own_ne ho hlt)))
              replace hg := grown_trans hg hg9
              replace hc := hc9
              clear hc9 hg9
              generalize w9 = W at *
              have hyw : IntKind.i64.wrap (10 + y) = 10 + y := by rw [IntKind.wrap_i64]; omega
              by_cases hle : (L.length : Int) < 10 + y
              · have hl10 : L.length ≤ 10 := by omega
                have hm : (⟨wrap64 (id + 1), ⟨#[120]⟩, 1, -1⟩ : Itm).title.size ≤ 11 := by show (1 : Nat) ≤ 11; omega
                have hbM := bnew (Below.refl W.heap.size W) (.cells #[.int .i64 (wrap64 (id + 1)), .string ⟨#[120]⟩, .int .i64 1, .int .i64 (-1)] 34)
                have hoM := own_below ho hbM
                have hcM := hc.below hbM
                have hgM := grown_below hg hbM
                have hrd : Rd (W.alloc (.cells #[.int .i64 (wrap64 (id + 1)), .string ⟨#[120]⟩, .int .i64 1, .int .i64 (-1)] 34)) (some ⟨W.heap.size, 0, none⟩) [.int .i64 (wrap64 (id + 1)), .string ⟨#[120]⟩, .int .i64 1, .int .i64 (-1)] := Rd.made
                have hhs : r ≤ W.heap.size := by have := hg.size; omega
                go_wp2_with (at_builtin; go_must (refine wpl_app rfl (.tmp 61) (.tmp 64) 24 rfl el_Itm (v := .slice A' L.length c') rfl hoM rfl rfl hrd (by simp [Value.oneCell']) (by unfold maxLen; omega) (by omega) (Nat.le_trans hhs hbM.size) ?_; intro A2 c2 w5 h5 hg5 _; have hl2 : L.length + 1 = (L ++ [(⟨wrap64 (id + 1), ⟨#[120]⟩, 1, -1⟩ : Itm)]).length := (by simp); have h5' := own_snocM (m := (⟨wrap64 (id + 1), ⟨#[120]⟩, 1, -1⟩ : Itm)) h5; have hl3 : (L ++ [(⟨wrap64 (id + 1), ⟨#[120]⟩, 1, -1⟩ : Itm)]).length ≤ L.length + 1 := Nat.le_of_eq hl2.symm; have hl6 : L.length + 1 ≤ (L ++ [(⟨wrap64 (id + 1), ⟨#[120]⟩, 1, -1⟩ : Itm)]).length := Nat.le_of_eq hl2; have HN : Hid (∀ s ∈ L ++ [(⟨wrap64 (id + 1), ⟨#[120]⟩, 1, -1⟩ : Itm)], s.title.size ≤ 11) := titles_snoc HL.out hm; rw [hl2]; clear hl2 h5; have hc5 := hcM.own hg5 hoM hlt; have hg5' := grown_own hgM hoM hg5 hrw; clear hg5 hbM hrd hoM hcM hgM hm; generalize L ++ [(⟨wrap64 (id + 1), ⟨#[120]⟩, 1, -1⟩ : Itm)] = LL at *))
                go_roundw
                case rel => exact ⟨A2, c2, LL, _, rfl, rfl, by omega, HN, hc5.more (by omega), h5', hg5'⟩
                case measure => simp [lenOf]; omega
              · go_wp2_with fail
                go_ret
                exact ⟨A', c', L, rfl, by omega, HL.out, own_base ho hrw, hc.more (by omega), hg⟩

      · have hl1I : ¬ (1 : Int) < (L.length : Int) := by omega
        go_wp2_with fail
        refine (one_any g _ 24 _ hc (by omega)).mono ?_
        rintro e w9 ⟨b, rfl, hc9, hg9⟩
        replace ho := World.ownsRow.kept ho hg9 (.inr (Ne.symm (own_ne ho hlt)))
        replace hg := grown_trans hg hg9
        replace hc := hc9
        clear hc9 hg9
        generalize w9 = W at *
        cases b with
        | false =>
          go_wp2
          go_ret
          exact ⟨A', c', L, rfl, by omega, HL.out, own_base ho hrw, hc.more (by omega), hg⟩
        | true =>
          go_wp2_with fail
          go_loopw [3, 4] (fun l u wr => ∃ (A' : Option Addr) (c' : Nat) (L : List Itm) (id : Int), l = .slice A' L.length c' ∧ u = .int .i64 id ∧ L.length ≤ 11 ∧ Hid (∀ s ∈ L, s.title.size ≤ 11) ∧ Cur wr g (N + 210 + 2 * L.length) 47 ∧ wr.ownsRow r 34 4 (.slice A' L.length c') L.length (itmCells L) ∧ w.grownBy wr (some g)) (fun l _ _ => 12 - (lenOf l))
          case atStart => exact ⟨A', c', L, nu, rfl, rfl, by omega, HL, hc.more (by omega), ho, hg⟩
          case round =>
            clear hc ho hg HL hL6
            obtain ⟨A', c', L, id, rfl, rfl, hL11, HL, hc, ho, hg⟩ := hrel
            generalize wr = W at *
            go_wp2_with fail
            refine (pick_any g _ 2 _ hc (by omega)).mono ?_
            rintro e w9 ⟨y, rfl, hy, hc9, hg9⟩
            replace ho := World.ownsRow.kept ho hg9 (.inr (Ne.symm (own_ne ho hlt)))
            replace hg := grown_trans hg hg9
            replace hc := hc9
            clear hc9 hg9
            generalize w9 = W at *
            have hyw : IntKind.i64.wrap (10 + y) = 10 + y := by rw [IntKind.wrap_i64]; omega
            by_cases hle : (L.length : Int) < 10 + y
            · have hl10 : L.length ≤ 10 := by omega
              have hm : (⟨wrap64 (id + 1), ⟨#[120]⟩, 1, -1⟩ : Itm).title.size ≤ 11 := by show (1 : Nat) ≤ 11; omega
              have hbM := bnew (Below.refl W.heap.size W) (.cells #[.int .i64 (wrap64 (id + 1)), .string ⟨#[120]⟩, .int .i64 1, .int .i64 (-1)] 34)
              have hoM := own_below ho hbM
              have hcM := hc.below hbM
              have hgM := grown_below hg hbM
              have hrd : Rd (W.alloc (.cells #[.int .i64 (wrap64 (id + 1)), .string ⟨#[120]⟩, .int .i64 1, .int .i64 (-1)] 34)) (some ⟨W.heap.size, 0, none⟩) [.int .i64 (wrap64 (id + 1)), .string ⟨#[120]⟩, .int .i64 1, .int .i64 (-1)] := Rd.made
              have hhs : r ≤ W.heap.size := by have := hg.size; omega
              go_wp2_with (at_builtin; go_must (refine wpl_app rfl (.tmp 61) (.tmp 64) 24 rfl el_Itm (v := .slice A' L.length c') rfl hoM rfl rfl hrd (by simp [Value.oneCell']) (by unfold maxLen; omega) (by omega) (Nat.le_trans hhs hbM.size) ?_; intro A2 c2 w5 h5 hg5 _; have hl2 : L.length + 1 = (L ++ [(⟨wrap64 (id + 1), ⟨#[120]⟩, 1, -1⟩ : Itm)]).length := (by simp); have h5' := own_snocM (m := (⟨wrap64 (id + 1), ⟨#[120]⟩, 1, -1⟩ : Itm)) h5; have hl3 : (L ++ [(⟨wrap64 (id + 1), ⟨#[120]⟩, 1, -1⟩ : Itm)]).length ≤ L.length + 1 := Nat.le_of_eq hl2.symm; have hl6 : L.length + 1 ≤ (L ++ [(⟨wrap64 (id + 1), ⟨#[120]⟩, 1, -1⟩ : Itm)]).length := Nat.le_of_eq hl2; have HN : Hid (∀ s ∈ L ++ [(⟨wrap64 (id + 1), ⟨#[120]⟩, 1, -1⟩ : Itm)], s.title.size ≤ 11) := titles_snoc HL.out hm; rw [hl2]; clear hl2 h5; have hc5 := hcM.own hg5 hoM hlt; have hg5' := grown_own hgM hoM hg5 hrw; clear hg5 hbM hrd hoM hcM hgM hm; generalize L ++ [(⟨wrap64 (id + 1), ⟨#[120]⟩, 1, -1⟩ : Itm)] = LL at *))
              go_roundw
              case rel => exact ⟨A2, c2, LL, _, rfl, rfl, by omega, HN, hc5.more (by omega), h5', hg5'⟩
              case measure => simp [lenOf]; omega
            · go_wp2_with fail
              go_ret
              exact ⟨A', c', L, rfl, by omega, HL.out, own_base ho hrw, hc.more (by omega), hg⟩
end Go.Proofs.YtfpjelpbeicdoaaGreatDoor
