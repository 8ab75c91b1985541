/-
  ParseAgenda: the reference's own reading of a whole text. Conditions: none.
-/
import Derived.Test.YtfpjelpbeicdoaaGreatDoorAgPar2
namespace Go.Proofs.YtfpjelpbeicdoaaGreatDoor
open Go.RowKit Go.My
set_option maxHeartbeats 8000000 in
set_option maxRecDepth 100000 in
theorem specParseAgenda_any (s : ByteArray) (w : World) (hs : s.size ≤ 1048576) :
    Calls Tryz.prog 21 #[.string s] w fun e w' => ∃ (L : List Itm) (b : Bool) (A' : Option Addr) (c' : Nat), e = .returned (.tuple #[.slice A' L.length c', .bool b]) ∧ w'.ownsRow w.heap.size 34 4 (.slice A' L.length c') L.length (itmCells L) ∧ IsParseG lineA goodItm s L b ∧ Below w.heap.size w w' := by
  have HX := Lib.hid (splitL_bl s 10)
  have HSZ : Hid (∀ x ∈ splitL s 10, x.size ≤ s.size) := splitL_sz s 10
  have hXp := splitL_pos s 10
  have hXM : (splitL s 10).length ≤ 1048577 := Nat.le_trans (splitL_len s 10) (by omega)
  have HO : Hid (∀ x w1, x.size ≤ 1048576 → Calls Tryz.prog 44 #[.string x] w1 fun e w' => ∃ (r : Itm) (b : Bool), e = .returned (.tuple #[.agg #[.int .i64 r.id, .string r.title, .int .i64 r.mins, .int .i64 r.time], .bool b]) ∧ IsPA x r b ∧ Below w1.heap.size w1 w') := fun x w1 hx => l5Parse_any x w1 hx
  have HS : Hid (∀ w1, Calls Tryz.prog 43 #[.string s, .int .u8 10] w1 fun e w' => ∃ A' c', e = .returned (.slice A' (splitL s 10).length c') ∧ w'.ownsRow w1.heap.size 9 1 (.slice A' (splitL s 10).length c') (splitL s 10).length (sCells (splitL s 10)) ∧ Below w1.heap.size w1 w') := fun w1 => l1Split_any s 10 w1 hs
  generalize splitL s 10 = X at *
  go_enter Tryz.func21, Tryz.ntmps21
  go_wp2_with fail
  have hoE := own_lit (e := 34) (size := 4) (B := w.heap.size) (w := w) #[] 0 (Nat.le_refl _) (by unfold maxLen; omega) rfl
  have hbE := bnew (Below.refl w.heap.size w) (.cells #[] 34)
  have hwW : w.heap.size < (w.alloc (.cells #[] 34)).heap.size := by simp
  generalize w.alloc (.cells #[] 34) = W0 at *
  refine (HS.out W0).mono ?_
  rintro e w1 ⟨A1, cc, rfl, ho1, hb01⟩
  have hb1 := btr hbE hb01
  have hoE1 := own_below hoE hb01
  obtain ⟨gx, rfl, hlogx, HCgx⟩ : ∃ gx, A1 = some ⟨gx, 0, none⟩ ∧ W0.heap.size ≤ gx ∧ Hid (∀ j (hj : j < X.length), w1.cell? ⟨gx, j, none⟩ = some (.string X[j])) := by
    obtain ⟨b, off, rfl, _⟩ := Rd.strs (own_rd ho1) hXp
    rcases ho1.2 with ⟨h2, _⟩ | ⟨g, cap, cur, hv, hg, hh, hc, _⟩
    · simp at h2
    · simp only [Value.slice.injEq, Option.some.injEq, Addr.mk.injEq, and_true, true_and] at hv
      obtain ⟨⟨rfl, rfl⟩, rfl⟩ := hv
      refine ⟨b, rfl, hg, fun j hj => ?_⟩
      obtain ⟨b', off', e', c0⟩ := Rd.strs (own_rd ho1) hj
      simp only [Option.some.injEq, Addr.mk.injEq, and_true] at e'
      obtain ⟨rfl, rfl⟩ := e'
      simpa using c0
  have hgx0 : w.heap.size < gx := by omega
  clear ho1 HS hb01 hoE hbE
  by_cases h7 : s.size ≤ 600
  rotate_left
  · have h7I : (600 : Int) < (s.size : Int) := by omega
    go_wp2
    exact bodyPost_ret (v := .tuple #[.slice (some ⟨w.heap.size, 0, none⟩) 0 0, .bool false]) (by simp [results, Tryz.results21, go_sem]) rfl (by first | exact ⟨[], false, _, _, rfl, hoE1, linesA_long (by omega), hb1⟩ | exact ⟨[], .inl ⟨_, _, rfl, hoE1, linesA_long (by omega), hb1⟩⟩)
  have h7I : ¬ (600 : Int) < (s.size : Int) := by omega
  obtain ⟨n, hn⟩ : ∃ n, X.length = n + 1 := ⟨X.length - 1, by omega⟩
  have hn1 : (X.length : Int) - 1 = (n : Int) := by omega
  have hnw : IntKind.i64.wrap ((X.length : Int) - 1) = (n : Int) := by rw [IntKind.wrap_i64]; omega
  have hnX : (n : Int) < (X.length : Int) := by omega
  have hnX2 : (n : Int) ≤ (X.length : Int) := by omega
  have Hn := Lib.hid hn
  have cn : w1.cell? ⟨gx, n, none⟩ = some (.string (at_ X n)) := by rw [at_eq (by omega)]; exact HCgx.out n _
  clear hn
  by_cases hl : at_ X n = ⟨#[]⟩
  rotate_left
  · have hl3 := ne_beq3 hl
    have HF : Hid (IsParseG lineA goodItm s [] false) := linesS_last HX.out Hn.out hl
    clear hl
    generalize at_ X n = z at *
    go_wp2
    exact bodyPost_ret (v := .tuple #[.slice (some ⟨w.heap.size, 0, none⟩) 0 0, .bool false]) (by simp [results, Tryz.results21, go_sem]) rfl (by first | exact ⟨[], false, _, _, rfl, hoE1, HF.out, hb1⟩ | exact ⟨[], .inl ⟨_, _, rfl, hoE1, HF.out, hb1⟩⟩)
  have Hlast := Lib.hid hl
  rw [hl] at cn
  clear hl
  have hne0 : some gx ≠ (Value.slice (some ⟨w.heap.size, 0, none⟩) 0 0).ownBlock := by simp [Value.ownBlock]; omega
  go_wp2_with fail
  go_loopw [4, 6] (fun ov i wr => ∃ (k : Nat) (L : List Itm) (A' : Option Addr) (c' : Nat), k ≤ n ∧ Hid (L.length = k) ∧ i = .int .i64 k ∧ ov = .slice A' L.length c' ∧ Hid (LinesA X L) ∧ wr.ownsRow w.heap.size 34 4 (.slice A' L.length c') L.length (itmCells L) ∧ some gx ≠ (Value.slice A' L.length c').ownBlock ∧ Hid (∀ j (hj : j < X.length), wr.cell? ⟨gx, j, none⟩ = some (.string X[j])) ∧ Below w.heap.size w wr) (fun _ i _ => n - (intOf i).toNat)
  case atStart => exact ⟨0, [], _, _, by omega, rfl, rfl, rfl, LinesA.nil X, hoE1, hne0, HCgx, hb1⟩
  case round =>
    clear hoE1 hb1 HCgx hne0 cn
    obtain ⟨k, L, A', c', hk, HLk, rfl, rfl, HL, ho, hne, HCr, hb⟩ := hrel
    by_cases hlt : k < n
    · have hkI : (k : Int) < (n : Int) := by omega
      have hkX : k < X.length := by have := Hn.out; omega
      have cx := HCr.out k hkX
      have hxs : X[k].size ≤ 1048576 := Nat.le_trans (HSZ.out _ (List.getElem_mem _)) hs
      have hat := at_eq hkX
      have HOx := Lib.hid (fun w1 => HO.out X[k] w1 hxs)
      rw [← hat] at HOx cx
      clear hxs hat
      generalize hxe : at_ X k = x at *
      go_wp2_with fail
      refine (HOx.out _).mono ?_
      rintro e w3 ⟨r, b, rfl, hPA, hb3⟩
      have HP := Lib.hid hPA
      clear hPA
      have hbA := btr hb hb3
      have hoA := own_below ho hb3
      have hbB := bnew hbA (.cells #[.int .i64 r.id, .string r.title, .int .i64 r.mins, .int .i64 r.time] 34)
      have hoB := own_below hoA (bnew (Below.refl w3.heap.size w3) (.cells #[.int .i64 r.id, .string r.title, .int .i64 r.mins, .int .i64 r.time] 34))
      cases b with
      | false =>
        have HF : Hid (IsParseG lineA goodItm s [] false) := linesA_bad HX.out (k := k) (by have := Hn.out; omega) (by
          rcases HP.out with ⟨h, _⟩ | ⟨_, _, h⟩
          · cases h
          · rw [hxe]; exact h)
        clear HP HOx HCr HL
        have hoF := own_lit (e := 34) (size := 4) (B := w.heap.size) (w := (w3.alloc (.cells #[.int .i64 r.id, .string r.title, .int .i64 r.mins, .int .i64 r.time] 34))) #[] 0 (hbB).size (by unfold maxLen; omega) rfl
        have hbF := bnew (hbB) (.cells #[] 34)
        go_wp2
        exact bodyPost_ret (v := .tuple #[.slice (some ⟨(w3.alloc (.cells #[.int .i64 r.id, .string r.title, .int .i64 r.mins, .int .i64 r.time] 34)).heap.size, 0, none⟩) 0 0, .bool false]) (by simp [results, Tryz.results21, go_sem]) rfl (by first | exact ⟨[], false, _, _, rfl, hoF, HF.out, hbF⟩ | exact ⟨[], .inl ⟨_, _, rfl, hoF, HF.out, hbF⟩⟩)
      | true =>
        have HG : Hid (itmOk r = true ∧ lineA r = x) := by
          rcases HP.out with ⟨_, h1, h2⟩ | ⟨h, _⟩
          · exact ⟨h1, h2⟩
          · cases h
        have HL2 : Hid (LinesA X (L ++ [r])) := HL.out.snoc HG.out.1 (by rw [HG.out.2, HLk.out, hxe])
        have HC4 : Hid (∀ j (hj : j < X.length), (w3.alloc (.cells #[.int .i64 r.id, .string r.title, .int .i64 r.mins, .int .i64 r.time] 34)).cell? ⟨gx, j, none⟩ = some (.string X[j])) := fun j hj => cell_bw (HCr.out j hj) (btr hb3 (bnew (Below.refl _ _) _))
        have z0 : (w3.alloc (.cells #[.int .i64 r.id, .string r.title, .int .i64 r.mins, .int .i64 r.time] 34)).cell? ⟨w3.heap.size, 0, none⟩ = some (.int .i64 r.id) := (World.cell?_alloc_at _ _ _ _ rfl).trans rfl
        have z1 : (w3.alloc (.cells #[.int .i64 r.id, .string r.title, .int .i64 r.mins, .int .i64 r.time] 34)).cell? ⟨w3.heap.size, 1, none⟩ = some (.string r.title) := (World.cell?_alloc_at _ _ _ _ rfl).trans rfl
        have z2 : (w3.alloc (.cells #[.int .i64 r.id, .string r.title, .int .i64 r.mins, .int .i64 r.time] 34)).cell? ⟨w3.heap.size, 2, none⟩ = some (.int .i64 r.mins) := (World.cell?_alloc_at _ _ _ _ rfl).trans rfl
        have z3 : (w3.alloc (.cells #[.int .i64 r.id, .string r.title, .int .i64 r.mins, .int .i64 r.time] 34)).cell? ⟨w3.heap.size, 3, none⟩ = some (.int .i64 r.time) := (World.cell?_alloc_at _ _ _ _ rfl).trans rfl
        clear HP HOx HCr HL HG hoA
        have hoW := own_below hoB (bnew (Below.refl (w3.alloc (.cells #[.int .i64 r.id, .string r.title, .int .i64 r.mins, .int .i64 r.time] 34)).heap.size (w3.alloc (.cells #[.int .i64 r.id, .string r.title, .int .i64 r.mins, .int .i64 r.time] 34))) (.cells #[.int .i64 r.id, .string r.title, .int .i64 r.mins, .int .i64 r.time] 34))
        have hbW := bnew hbB (.cells #[.int .i64 r.id, .string r.title, .int .i64 r.mins, .int .i64 r.time] 34)
        have hrd : Rd ((w3.alloc (.cells #[.int .i64 r.id, .string r.title, .int .i64 r.mins, .int .i64 r.time] 34)).alloc (.cells #[.int .i64 r.id, .string r.title, .int .i64 r.mins, .int .i64 r.time] 34)) (some ⟨w3.heap.size + 1, 0, none⟩) [.int .i64 r.id, .string r.title, .int .i64 r.mins, .int .i64 r.time] := by have := rd_new (w3.alloc (.cells #[.int .i64 r.id, .string r.title, .int .i64 r.mins, .int .i64 r.time] 34)) #[.int .i64 r.id, .string r.title, .int .i64 r.mins, .int .i64 r.time] 34; simpa using this
        have hszB : w.heap.size ≤ ((w3.alloc (.cells #[.int .i64 r.id, .string r.title, .int .i64 r.mins, .int .i64 r.time] 34)).alloc (.cells #[.int .i64 r.id, .string r.title, .int .i64 r.mins, .int .i64 r.time] 34)).heap.size := hbW.size
        have hL8 : L.length ≤ 1048577 := by have := HLk.out; omega
        go_wp2_with (at_builtin; refine wpl_app rfl (.tmp 43) (.tmp 45) 24 rfl el_Itm (v := .slice A' L.length c') rfl hoW rfl rfl hrd (by simp [Value.oneCell']) (by unfold maxLen; omega) (by omega) hszB ?_; intro A5 c5 w5 ho5 hg5 hd5)
        have hgl : gx < ((w3.alloc (.cells #[.int .i64 r.id, .string r.title, .int .i64 r.mins, .int .i64 r.time] 34)).alloc (.cells #[.int .i64 r.id, .string r.title, .int .i64 r.mins, .int .i64 r.time] 34)).heap.size := by
          have h1 := World.block_lt_of_cell? _ _ (HC4.out 0 hXp)
          have h2 := (bnew (Below.refl (w3.alloc (.cells #[.int .i64 r.id, .string r.title, .int .i64 r.mins, .int .i64 r.time] 34)).heap.size (w3.alloc (.cells #[.int .i64 r.id, .string r.title, .int .i64 r.mins, .int .i64 r.time] 34))) (.cells #[.int .i64 r.id, .string r.title, .int .i64 r.mins, .int .i64 r.time] 34)).size
          exact Nat.lt_of_lt_of_le h1 h2
        have hne5 : some gx ≠ (Value.slice A5 (L.length + 1) c5).ownBlock := fun e => by
          rcases hd5 with h | h
          · exact hne (e.trans h)
          · have h9 := Option.some.inj (e.trans h); rw [h9] at hgl; exact absurd hgl (Nat.lt_irrefl _)
        have hb5 : Below w.heap.size w w5 := hbW.grown hg5 hbW.size (fun k hk => (hoW.lt k hk).1)
        have HC5 : Hid (∀ j (hj : j < X.length), w5.cell? ⟨gx, j, none⟩ = some (.string X[j])) := fun j hj => hg5.cell (cell_bw (HC4.out j hj) (bnew (Below.refl _ _) _)) hne
        go_roundw
        case rel => exact ⟨k + 1, L ++ [r], A5, c5, by omega, (by have := HLk.out; show (L ++ [r]).length = k + 1; simp; omega), by go_num, by simp, HL2, by (rw [itmCells_snoc]; simpa using ho5), by simpa using hne5, HC5, hb5⟩
        case measure => simp [intOf]; omega
    · have hkn : k = n := by omega
      have hkI : ¬ (k : Int) < (n : Int) := by omega
      have HE := Lib.hid (linesS_end HX.out HL.out (by have := Hn.out; have := HLk.out; omega) (by rw [show L.length = n from by have := HLk.out; omega]; exact Hlast.out))
      have hLb : L.length ≤ 1048577 := by have := HLk.out; omega
      have hok := HL.out.ok
      have hle : L.length ≤ c' := by obtain ⟨_, _, e, h⟩ := own_form ho; cases e; exact h
      have Hv : Hid (∀ w1, Below wr.heap.size wr w1 → Calls Tryz.prog 31 #[.slice A' L.length c'] w1 fun e w' => e = .returned (.bool (goodItm L)) ∧ Below w1.heap.size w1 w') := fun w1 hb => l5Good_any A' c' L w1 (by unfold maxLen; omega) hle ((own_rd ho).below hb) (fun y hy => by have := (word_size (itm_parts (hok y hy)).2.1).2; unfold maxLen; omega)
      clear HL HCr HO hok hle
      cases hg : goodItm L with
      | false =>
        have HF : Hid (IsParseG lineA goodItm s [] false) := HE.out.2 hg
        rw [hg] at Hv
        clear HE
        go_wp2_with fail
        refine (Hv.out _ (Below.refl _ _)).mono ?_
        rintro e w6 ⟨rfl, hb6⟩
        have hbE := btr hb hb6
        have hoF := own_lit (e := 34) (size := 4) (B := w.heap.size) (w := w6) #[] 0 (hbE).size (by unfold maxLen; omega) rfl
        have hbF := bnew (hbE) (.cells #[] 34)
        go_wp2
        exact bodyPost_ret (v := .tuple #[.slice (some ⟨w6.heap.size, 0, none⟩) 0 0, .bool false]) (by simp [results, Tryz.results21, go_sem]) rfl (by first | exact ⟨[], false, _, _, rfl, hoF, HF.out, hbF⟩ | exact ⟨[], .inl ⟨_, _, rfl, hoF, HF.out, hbF⟩⟩)
      | true =>
        have HF : Hid (IsParseG lineA goodItm s L true) := HE.out.1 hg
        rw [hg] at Hv
        clear HE
        go_wp2_with fail
        refine (Hv.out _ (Below.refl _ _)).mono ?_
        rintro e w6 ⟨rfl, hb6⟩
        have ho7 := own_below ho hb6
        have hb70 := btr hb hb6
        go_wp2
        exact bodyPost_ret (v := .tuple #[.slice A' L.length c', .bool true]) (by simp [results, Tryz.results21, go_sem]) rfl (by first | exact ⟨L, true, A', c', rfl, ho7, HF.out, hb70⟩ | exact ⟨L, .inr ⟨A', c', rfl, ho7, HF.out, hb70⟩⟩)
end Go.Proofs.YtfpjelpbeicdoaaGreatDoor
