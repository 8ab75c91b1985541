/-
  The reference's growing list of the kinds to which a kind yields. Conditions: the pairs lie within the kinds.
-/
import Derived.Test.YtdbcbaahjhaonaaReach
namespace Go.My
open Go.RowKit
def insAt {α : Type} (xs : List α) (k : Nat) (x : α) : List α := xs.take k ++ x :: xs.drop k
theorem insAt_len {α : Type} (xs : List α) (k : Nat) (x : α) (hk : k ≤ xs.length) : (insAt xs k x).length = xs.length + 1 := by
  simp [insAt]; omega
theorem insAt_mem {α : Type} {xs : List α} {k : Nat} {x y : α} (h : y ∈ insAt xs k x) : y = x ∨ y ∈ xs := by
  unfold insAt at h
  rcases List.mem_append.1 h with h | h
  · exact .inr (List.mem_of_mem_take h)
  · rcases List.mem_cons.1 h with h | h
    · exact .inl h
    · exact .inr (List.mem_of_mem_drop h)
theorem rd_new' (w : World) (cs : Array Value) (e : TypeId) : Rd (w.alloc (.cells cs e)) (some ⟨w.heap.size, 0, none⟩) cs.toList := by
  refine .inr ⟨_, _, rfl, fun j hj => ?_⟩
  rw [Nat.zero_add, World.cell?_alloc_at _ _ _ _ rfl]
  simp only [Array.length_toList] at hj
  simp [hj]
theorem own_le {w : World} {B : Nat} {e : TypeId} {size n c : Nat} {A : Option Addr} {cells : List Value} (h : w.ownsRow B e size (.slice A n c) n cells) : n ≤ c := by
  obtain ⟨A0, c0, e0, hnc⟩ := own_form h
  simp only [Value.slice.injEq, true_and] at e0
  obtain ⟨rfl, rfl⟩ := e0
  exact hnc
theorem own_ne2 {w : World} {B : Nat} {e : TypeId} {size n : Nat} {v : Value} {xs : List Value} (h : w.ownsRow B e size v n xs) : some w.heap.size ≠ v.ownBlock := fun e => by have := (h.lt _ e.symm).2; omega
theorem intCells_take (xs : List Int) (k : Nat) (_ : k ≤ xs.length) : (intCells xs).take (k * 1) = intCells (xs.take k) := by simp [intCells]
theorem intCells_drop (xs : List Int) (k : Nat) (_ : k ≤ xs.length) : (intCells xs).drop (k * 1) = intCells (xs.drop k) := by simp [intCells]
theorem putAt_ins (l : List Int) (n : Int) (k : Nat) : insAt l k n = putAt l n k := rfl
/-- What a growing list of reached kinds keeps. -/
structure Grow (xs : List Pr) (s : Int) (K : Nat) (L : List Int) : Prop where
  asc : L.Pairwise (· < ·)
  snd : ∀ k ∈ L, Plus xs s k ∧ 0 ≤ k ∧ k < K
theorem Grow.len {xs : List Pr} {s : Int} {K : Nat} {L : List Int} (h : Grow xs s K L) : L.length ≤ K := by
  have := asc_len (lo := 0) (n := K) h.asc (fun k hk => (h.snd k hk).2) (by omega)
  omega
theorem Grow.put {xs : List Pr} {s : Int} {K : Nat} {L : List Int} (h : Grow xs s K L) {x : Pr} (hx : x ∈ xs) (hin : InK xs K) (ha : x.a = s ∨ x.a ∈ L) {k : Nat} (h1 : ∀ y ∈ L.take k, y < x.b) (h2 : ∀ y ∈ L.drop k, x.b < y) : Grow xs s K (putAt L x.b k) where
  asc := putAt_asc h.asc h1 h2
  snd := by
    intro j hj
    rcases putAt_mem.1 hj with rfl | hj
    · refine ⟨?_, (hin x hx).2⟩
      rcases ha with e | ha
      · exact plus_one hx e
      · exact plus_snoc (h.snd _ ha).1 hx
    · exact h.snd j hj
theorem Grow.done {xs : List Pr} {s : Int} {K : Nat} {L : List Int} (h : Grow xs s K L) (hc : ∀ x ∈ xs, (x.a = s ∨ x.a ∈ L) → x.b ∈ L) : L = selTo (reachB xs s) K :=
  asc_sel h.asc fun k => ⟨fun hk => ⟨(h.snd k hk).2.1, (h.snd k hk).2.2, reachB_true.2 (h.snd k hk).1⟩, fun ⟨_, _, hp⟩ =>
    plus_closed (fun j => j ∈ L) (fun x hx ha => hc x hx (.inl ha)) (fun x hx ha => hc x hx (.inr ha)) (reachB_true.1 hp)⟩
end Go.My
namespace Go.Proofs.Ytdbcbaahjhaonaa
open Go.RowKit Go.My
set_option maxHeartbeats 400000 in
theorem l1Has_any (A : Option Addr) (c : Nat) (xs : List Int) (i : Int) (w : World) (hn : xs.length ≤ maxLen) (hx : Rd w A (intCells xs)) :
    Calls Try.prog 62 #[.slice A xs.length c, .int .i64 i] w fun e w' => e = .returned (.bool (xs.any fun y => y == i)) ∧ w = w' := by
  unfold maxLen at hn
  have HT : Hid ((xs.take 0).any (fun y : Int => y == i) = false) := rfl
  go_enter Try.func62, Try.ntmps62
  go_wp2
  go_loop [5] (fun q => ∃ k : Nat, k ≤ xs.length ∧ q = .int .i64 k ∧ Hid ((xs.take k).any (fun y : Int => y == i) = false)) (fun q => xs.length - (intOf q).toNat)
  case atStart => exact ⟨0, by omega, rfl, HT⟩
  case round =>
    obtain ⟨k, hk, rfl, H⟩ := hrel
    by_cases hlt : k < xs.length
    · obtain ⟨b, off, rfl, c0⟩ := Rd.ints hx hlt
      have Hn := Lib.hid (any_take_succ (fun y : Int => y == i) xs k hlt)
      generalize xs[k] = s at *
      by_cases hq : (s == i) = true
      · have Hf : Hid (xs.any (fun y : Int => y == i) = true) := by
          have := any_take_mono (p := fun y : Int => y == i) (xs := xs) (show k + 1 ≤ xs.length by omega) (by rw [Hn.out, hq]; simp)
          rwa [List.take_length] at this
        clear Hn H HT
        go_wp2
        go_ret
        exact ⟨by rw [Hf.out]; rfl, rfl⟩
      · have hq' : (s == i) = false := by simpa using hq
        have Hf : Hid ((xs.take (k + 1)).any (fun y : Int => y == i) = false) := Hn.out.trans (by rw [H.out, hq']; rfl)
        clear Hn H hq HT
        go_wp2
        go_round
        case rel => exact ⟨k + 1, by omega, by go_num, Hf⟩
        case measure => simp [intOf]; omega
    · have Hf : Hid (xs.any (fun y : Int => y == i) = false) := by have := H.out; rwa [List.take_of_length_le (by omega)] at this
      clear H HT
      go_wp2
      go_ret
      exact ⟨by rw [Hf.out]; rfl, rfl⟩
set_option maxHeartbeats 4000000 in
set_option maxRecDepth 100000 in
theorem l1Put_any (A : Option Addr) (c : Nat) (xs : List Int) (n : Int) (w : World) (hn : xs.length ≤ 64) (hlc : xs.length ≤ c) (hx : Rd w A (intCells xs)) (hasc : xs.Pairwise (· < ·)) (hno : n ∉ xs) :
    Calls Try.prog 86 #[.slice A xs.length c, .int .i64 n] w fun e w' => ∃ k A' c', e = .returned (.slice A' (xs.length + 1) c') ∧ w'.ownsRow w.heap.size 3 1 (.slice A' (xs.length + 1) c') (xs.length + 1) (intCells (putAt xs n k)) ∧ Below w.heap.size w w' ∧ k ≤ xs.length ∧ (∀ y ∈ xs.take k, y < n) ∧ ∀ y ∈ xs.drop k, n < y := by
  have HA := Lib.hid hasc
  have HN := Lib.hid hno
  clear hasc hno
  go_enter Try.func86, Try.ntmps86
  go_wp2
  go_loop [5] (fun q => ∃ k : Nat, k ≤ xs.length ∧ q = .int .i64 k ∧ Hid (∀ y ∈ xs.take k, y < n)) (fun q => xs.length - (intOf q).toNat)
  case atStart => exact ⟨0, by omega, rfl, by show ∀ y ∈ xs.take 0, _; simp⟩
  case round =>
    obtain ⟨k, hk, rfl, HT⟩ := hrel
    have done : Hid ((∀ h : k < xs.length, ¬ xs[k] < n) → ∀ y ∈ xs.drop k, n < y) := fun h => by
      refine asc_drop HA.out (fun x hx => ?_)
      obtain ⟨h1, rfl⟩ := List.getElem?_eq_some_iff.1 hx
      have h2 := h h1
      have h3 : xs[k] ≠ n := fun e => HN.out (e ▸ List.getElem_mem h1)
      omega
    by_cases hlt : k < xs.length
    · obtain ⟨b, off, eA, c0⟩ := Rd.ints hx hlt
      have hkI : (k : Int) < (xs.length : Int) := by omega
      have HS : Hid (xs[k] < n → ∀ y ∈ xs.take (k + 1), y < n) := fun h y hy => by
        rw [List.take_succ_eq_append_getElem hlt] at hy
        rcases List.mem_append.1 hy with hy | hy
        · exact HT.out y hy
        · simp only [List.mem_singleton] at hy; subst hy; exact h
      have hne : xs[k] ≠ n := fun e => HN.out (e ▸ List.getElem_mem hlt)
      have HD : Hid (¬ xs[k] < n → ∀ y ∈ xs.drop k, n < y) := fun h => done.out (fun _ => h)
      clear done
      generalize xs[k] = s at *
      by_cases hq : s < n
      · have HS2 := Lib.hid (HS.out hq)
        subst eA
        clear HS HD HT
        go_wp2
        go_round
        case rel => exact ⟨k + 1, by omega, by go_num, HS2⟩
        case measure => simp [intOf]; omega
      · have HD2 := Lib.hid (HD.out hq)
        have hne' : (s == n) = false := by simp [hne]
        clear HS HD hne
        subst eA
        go_wp2_with fail
        generalize hA : (some ⟨b, off, none⟩ : Option Addr) = A at *
        have HYC : Hid (intCells (putAt xs n k) = intCells (xs.take k) ++ [.int .i64 n] ++ intCells (xs.drop k)) := by show _ = _; simp [putAt, intCells]
        have hpre := run_pre el_Int A (n := xs.length) (c := c) (k := k) (by omega)
        have hcut := run_cut el_Int A (n := xs.length) (c := c) (k := k) (by omega)
        have hT : Rd w A (intCells (xs.take k)) := by have := hx.take (k * 1); rwa [intCells_take xs k (by omega)] at this
        have hD : Rd w (cutA A c k 1) (intCells (xs.drop k)) := by
          have := hx.cutA k 1 c (by intro h; rw [intCells_len]; rw [Nat.mul_one]; omega)
          rwa [intCells_drop xs k (by omega)] at this
        have hT1 := intCells_one (xs.take k)
        have hTl : (intCells (xs.take k)).length = k * 1 := by rw [intCells_len, List.length_take, Nat.min_eq_left (by omega)]
        have hD1 := intCells_one (xs.drop k)
        have hDl : (intCells (xs.drop k)).length = (xs.length - k) * 1 := by rw [intCells_len, List.length_drop]
        generalize intCells (xs.take k) = TC at *
        generalize intCells (xs.drop k) = DC at *
        generalize cutA A c k 1 = DA at *
        have hrf := Below.refl w.heap.size w
        have HX1 : ∀ u ∈ ([.int .i64 n] : List Value), u.oneCell' = true := by simp [Value.oneCell']
        have bA := (bnew (Below.refl w.heap.size w) (.cells #[] 3)).drew
        have bB := (bnew (bnew (Below.refl w.heap.size w) (.cells #[] 3)) (.cells #[.int .i64 n] 3)).drew
        have bC := (bnew (bnew (Below.refl w.heap.size w) (.cells #[.int .i64 n] 3)) (.cells #[] 3)).drew
        have oA := (own_lit (e := 3) (size := 1) (B := w.heap.size) (w := w) #[] 0 (Nat.le_refl _) (by unfold maxLen; omega) rfl).drew
        have oB := (own_below (own_lit (e := 3) (size := 1) (B := w.heap.size) (w := w) #[] 0 (Nat.le_refl _) (by unfold maxLen; omega) rfl) (bnew (Below.refl (w.alloc (.cells #[] 3)).heap.size (w.alloc (.cells #[] 3))) (.cells #[.int .i64 n] 3))).drew
        have oC : ((w.alloc (.cells #[.int .i64 n] 3)).alloc (.cells #[] 3)).drew.ownsRow w.heap.size 3 1 (.slice (some ⟨w.heap.size + 1, 0, none⟩) 0 0) 0 [] := by
          have := (own_lit (e := 3) (size := 1) (B := w.heap.size) (w := w.alloc (.cells #[.int .i64 n] 3)) #[] 0 (by simp) (by unfold maxLen; omega) rfl).drew
          simpa using this
        have xB : Rd ((w.alloc (.cells #[] 3)).alloc (.cells #[.int .i64 n] 3)).drew (some ⟨w.heap.size + 1, 0, none⟩) [.int .i64 n] := by
          have := (rd_new' (w.alloc (.cells #[] 3)) #[.int .i64 n] 3).drew
          simpa using this
        have xC : Rd ((w.alloc (.cells #[.int .i64 n] 3)).alloc (.cells #[] 3)).drew (some ⟨w.heap.size, 0, none⟩) [.int .i64 n] := ((rd_new' w #[.int .i64 n] 3).alloc (.cells #[] 3)).drew
        have tW := hT.below hrf
        have tA := tW.below bA; have tB := tW.below bB; have tC := tW.below bC
        go_region_held3 (fun _ => True) (trivial) ((first | (refine step_app (by rfl) (.tmp 40) (.tmp 43) 33 (by rfl) el_Int (v := .slice A2 (k + 1) c2) (by (first | rfl | exact congrArg (fun q => Value.slice A2 q c2) (Nat.zero_add k))) ho3 (by rfl) hDl hD4 hD1 (by unfold maxLen; omega) (by omega) hb4.size ?_; intro A5 c5 w5 ho5 hg5 _; have hb5 := hb4.grown hg5 hb4.size (fun q hq => (ho3.lt q hq).1)) | (refine step_app (by rfl) (.tmp 37) (.tmp 39) 33 (by rfl) el_Int (v := .slice A1 k c1) (by (first | rfl | exact congrArg (fun q => Value.slice A1 q c1) (Nat.zero_add k))) o2 (by rfl) rfl x2 HX1 (by unfold maxLen; omega) (by omega) b2.size ?_; intro A2 c2 w4 ho3 hg2 _; have hb4 := b2.grown hg2 b2.size (fun q hq => (o2.lt q hq).1); have hD4 := (hD.below hrf).below hb4) | (refine step_app (by rfl) (.tmp 33) (.tmp 36) 33 (by rfl) el_Int (v := .slice (some ⟨w.heap.size, 0, none⟩) 0 0) (by (first | rfl | exact congrArg (fun q => Value.slice none q 0) (Nat.zero_add 0))) oB (by rfl) hTl tB hT1 (by unfold maxLen; omega) (by omega) bB.size ?_; intro A1 c1 w3 ho1 hg1 _; have b2 := bB.grown hg1 bB.size (fun q hq => (oB.lt q hq).1); simp only [Nat.zero_add, List.nil_append] at ho1; have o2 := ho1; have x2 := xB.grown hg1 (fun ad h => by cases h; simp [Value.ownBlock]); clear ho1) | (refine step_app (by rfl) (.tmp 33) (.tmp 36) 33 (by rfl) el_Int (v := .slice (some ⟨w.heap.size + 1, 0, none⟩) 0 0) (by (first | rfl | exact congrArg (fun q => Value.slice none q 0) (Nat.zero_add 0))) oC (by rfl) hTl tC hT1 (by unfold maxLen; omega) (by omega) bC.size ?_; intro A1 c1 w3 ho1 hg1 _; have b2 := bC.grown hg1 bC.size (fun q hq => (oC.lt q hq).1); simp only [Nat.zero_add, List.nil_append] at ho1; have o2 := ho1; have x2 := xC.grown hg1 (fun ad h => by cases h; simp [Value.ownBlock]); clear ho1) | (refine step_app (by rfl) (.tmp 33) (.tmp 36) 33 (by rfl) el_Int (v := .slice (some ⟨w.heap.size, 0, none⟩) 0 0) (by (first | rfl | exact congrArg (fun q => Value.slice none q 0) (Nat.zero_add 0))) oA (by rfl) hTl tA hT1 (by unfold maxLen; omega) (by omega) bA.size ?_; intro A1 c1 w3 ho1 hg1 _; have hb3 := bA.grown hg1 bA.size (fun q hq => (oA.lt q hq).1); simp only [Nat.zero_add, List.nil_append] at ho1; have b2 := bnew hb3 (.cells #[.int .i64 n] 3); have o2 := own_below ho1 (bnew (Below.refl w3.heap.size w3) (.cells #[.int .i64 n] 3)); have x2 := rd_new' w3 #[.int .i64 n] 3; clear ho1)))
        all_goals
          have hL5 : k + 1 + (xs.length - k) = xs.length + 1 := by omega
          rw [← HYC.out] at ho5
          have HL5 := Lib.hid hL5
          clear hL5
          go_wp2
          exact bodyPost_ret (v := .slice A5 (k + 1 + (xs.length - k)) c5) (by simp [results, Try.results86, go_sem]) rfl ⟨k, A5, c5, by rw [HL5.out], by rw [← HL5.out]; exact ho5, hb5, hk, HT.out, HD2.out⟩
    · have HD2 := Lib.hid (done.out (fun h => absurd h hlt))
      clear done
      go_wp2_with fail
      have HYC : Hid (intCells (putAt xs n k) = intCells (xs.take k) ++ [.int .i64 n] ++ intCells (xs.drop k)) := by show _ = _; simp [putAt, intCells]
      have hpre := run_pre el_Int A (n := xs.length) (c := c) (k := k) (by omega)
      have hcut := run_cut el_Int A (n := xs.length) (c := c) (k := k) (by omega)
      have hT : Rd w A (intCells (xs.take k)) := by have := hx.take (k * 1); rwa [intCells_take xs k (by omega)] at this
      have hD : Rd w (cutA A c k 1) (intCells (xs.drop k)) := by
        have := hx.cutA k 1 c (by intro h; rw [intCells_len]; rw [Nat.mul_one]; omega)
        rwa [intCells_drop xs k (by omega)] at this
      have hT1 := intCells_one (xs.take k)
      have hTl : (intCells (xs.take k)).length = k * 1 := by rw [intCells_len, List.length_take, Nat.min_eq_left (by omega)]
      have hD1 := intCells_one (xs.drop k)
      have hDl : (intCells (xs.drop k)).length = (xs.length - k) * 1 := by rw [intCells_len, List.length_drop]
      generalize intCells (xs.take k) = TC at *
      generalize intCells (xs.drop k) = DC at *
      generalize cutA A c k 1 = DA at *
      have hrf := Below.refl w.heap.size w
      have HX1 : ∀ u ∈ ([.int .i64 n] : List Value), u.oneCell' = true := by simp [Value.oneCell']
      have bA := (bnew (Below.refl w.heap.size w) (.cells #[] 3)).drew
      have bB := (bnew (bnew (Below.refl w.heap.size w) (.cells #[] 3)) (.cells #[.int .i64 n] 3)).drew
      have bC := (bnew (bnew (Below.refl w.heap.size w) (.cells #[.int .i64 n] 3)) (.cells #[] 3)).drew
      have oA := (own_lit (e := 3) (size := 1) (B := w.heap.size) (w := w) #[] 0 (Nat.le_refl _) (by unfold maxLen; omega) rfl).drew
      have oB := (own_below (own_lit (e := 3) (size := 1) (B := w.heap.size) (w := w) #[] 0 (Nat.le_refl _) (by unfold maxLen; omega) rfl) (bnew (Below.refl (w.alloc (.cells #[] 3)).heap.size (w.alloc (.cells #[] 3))) (.cells #[.int .i64 n] 3))).drew
      have oC : ((w.alloc (.cells #[.int .i64 n] 3)).alloc (.cells #[] 3)).drew.ownsRow w.heap.size 3 1 (.slice (some ⟨w.heap.size + 1, 0, none⟩) 0 0) 0 [] := by
        have := (own_lit (e := 3) (size := 1) (B := w.heap.size) (w := w.alloc (.cells #[.int .i64 n] 3)) #[] 0 (by simp) (by unfold maxLen; omega) rfl).drew
        simpa using this
      have xB : Rd ((w.alloc (.cells #[] 3)).alloc (.cells #[.int .i64 n] 3)).drew (some ⟨w.heap.size + 1, 0, none⟩) [.int .i64 n] := by
        have := (rd_new' (w.alloc (.cells #[] 3)) #[.int .i64 n] 3).drew
        simpa using this
      have xC : Rd ((w.alloc (.cells #[.int .i64 n] 3)).alloc (.cells #[] 3)).drew (some ⟨w.heap.size, 0, none⟩) [.int .i64 n] := ((rd_new' w #[.int .i64 n] 3).alloc (.cells #[] 3)).drew
      have tW := hT.below hrf
      have tA := tW.below bA; have tB := tW.below bB; have tC := tW.below bC
      go_region_held3 (fun _ => True) (trivial) ((first | (refine step_app (by rfl) (.tmp 40) (.tmp 43) 33 (by rfl) el_Int (v := .slice A2 (k + 1) c2) (by (first | rfl | exact congrArg (fun q => Value.slice A2 q c2) (Nat.zero_add k))) ho3 (by rfl) hDl hD4 hD1 (by unfold maxLen; omega) (by omega) hb4.size ?_; intro A5 c5 w5 ho5 hg5 _; have hb5 := hb4.grown hg5 hb4.size (fun q hq => (ho3.lt q hq).1)) | (refine step_app (by rfl) (.tmp 37) (.tmp 39) 33 (by rfl) el_Int (v := .slice A1 k c1) (by (first | rfl | exact congrArg (fun q => Value.slice A1 q c1) (Nat.zero_add k))) o2 (by rfl) rfl x2 HX1 (by unfold maxLen; omega) (by omega) b2.size ?_; intro A2 c2 w4 ho3 hg2 _; have hb4 := b2.grown hg2 b2.size (fun q hq => (o2.lt q hq).1); have hD4 := (hD.below hrf).below hb4) | (refine step_app (by rfl) (.tmp 33) (.tmp 36) 33 (by rfl) el_Int (v := .slice (some ⟨w.heap.size, 0, none⟩) 0 0) (by (first | rfl | exact congrArg (fun q => Value.slice none q 0) (Nat.zero_add 0))) oB (by rfl) hTl tB hT1 (by unfold maxLen; omega) (by omega) bB.size ?_; intro A1 c1 w3 ho1 hg1 _; have b2 := bB.grown hg1 bB.size (fun q hq => (oB.lt q hq).1); simp only [Nat.zero_add, List.nil_append] at ho1; have o2 := ho1; have x2 := xB.grown hg1 (fun ad h => by cases h; simp [Value.ownBlock]); clear ho1) | (refine step_app (by rfl) (.tmp 33) (.tmp 36) 33 (by rfl) el_Int (v := .slice (some ⟨w.heap.size + 1, 0, none⟩) 0 0) (by (first | rfl | exact congrArg (fun q => Value.slice none q 0) (Nat.zero_add 0))) oC (by rfl) hTl tC hT1 (by unfold maxLen; omega) (by omega) bC.size ?_; intro A1 c1 w3 ho1 hg1 _; have b2 := bC.grown hg1 bC.size (fun q hq => (oC.lt q hq).1); simp only [Nat.zero_add, List.nil_append] at ho1; have o2 := ho1; have x2 := xC.grown hg1 (fun ad h => by cases h; simp [Value.ownBlock]); clear ho1) | (refine step_app (by rfl) (.tmp 33) (.tmp 36) 33 (by rfl) el_Int (v := .slice (some ⟨w.heap.size, 0, none⟩) 0 0) (by (first | rfl | exact congrArg (fun q => Value.slice none q 0) (Nat.zero_add 0))) oA (by rfl) hTl tA hT1 (by unfold maxLen; omega) (by omega) bA.size ?_; intro A1 c1 w3 ho1 hg1 _; have hb3 := bA.grown hg1 bA.size (fun q hq => (oA.lt q hq).1); simp only [Nat.zero_add, List.nil_append] at ho1; have b2 := bnew hb3 (.cells #[.int .i64 n] 3); have o2 := own_below ho1 (bnew (Below.refl w3.heap.size w3) (.cells #[.int .i64 n] 3)); have x2 := rd_new' w3 #[.int .i64 n] 3; clear ho1)))
      all_goals
        have hL5 : k + 1 + (xs.length - k) = xs.length + 1 := by omega
        rw [← HYC.out] at ho5
        have HL5 := Lib.hid hL5
        clear hL5
        go_wp2
        exact bodyPost_ret (v := .slice A5 (k + 1 + (xs.length - k)) c5) (by simp [results, Try.results86, go_sem]) rfl ⟨k, A5, c5, by rw [HL5.out], by rw [← HL5.out]; exact ho5, hb5, hk, HT.out, HD2.out⟩
set_option maxHeartbeats 8000000 in
set_option maxRecDepth 100000 in
theorem l4Reach_any (A : Option Addr) (c K : Nat) (xs : List Pr) (s : Int) (w : World) (hK : 1 ≤ K ∧ K ≤ 8) (hn : xs.length ≤ 16) (hx : Rd w A (prCells xs)) (hin : InK xs K) :
    Calls Try.prog 60 #[.agg #[.int .i64 K, .slice A xs.length c], .int .i64 s] w fun e w' => ∃ A' c', e = .returned (.slice A' (selTo (reachB xs s) K).length c') ∧ w'.ownsRow w.heap.size 3 1 (.slice A' (selTo (reachB xs s) K).length c') (selTo (reachB xs s) K).length (intCells (selTo (reachB xs s) K)) ∧ Below w.heap.size w w' := by
  obtain ⟨hK1, hK8⟩ := hK
  have hb0 : Below w.heap.size w (w.alloc (.cells #[.int .i64 K, .slice A xs.length c] 27)) := bnew (Below.refl _ _) _
  have m1 : (w.alloc (.cells #[.int .i64 K, .slice A xs.length c] 27)).cell? ⟨w.heap.size, 1, none⟩ = some (.slice A xs.length c) := (World.cell?_alloc_at _ _ _ _ rfl).trans rfl
  have hx0 := hx.below hb0
  have HIN := Lib.hid hin
  have ho0 := own_lit (e := 3) (size := 1) (B := w.heap.size) (w := w.alloc (.cells #[.int .i64 K, .slice A xs.length c] 27)) #[] 0 hb0.size (by unfold maxLen; omega) rfl
  have hbE := bnew (Below.refl (w.alloc (.cells #[.int .i64 K, .slice A xs.length c] 27)).heap.size (w.alloc (.cells #[.int .i64 K, .slice A xs.length c] 27))) (.cells #[] 3)
  clear hx hin
  go_enter Try.func60, Try.ntmps60
  go_wp2_with fail
  have hW0 : (w.alloc (.cells #[.int .i64 K, .slice A xs.length c] 27)).heap.size = w.heap.size + 1 := by simp
  generalize w.alloc (.cells #[.int .i64 K, .slice A xs.length c] 27) = W0 at *
  generalize W0.alloc (.cells #[] 3) = W1 at *
  go_loopg [5, 6] (2 * K + 1) (fun gk q m wr => ∃ (A' : Option Addr) (c' : Nat) (L : List Int) (mb : Bool), q = .slice A' L.length c' ∧ m = .bool mb ∧ Hid (Grow xs s K L) ∧ Hid (mb = false → ∀ x ∈ xs, (x.a = s ∨ x.a ∈ L) → x.b ∈ L) ∧ Hid (2 * (K - L.length) + (if mb = true then 1 else 0) ≤ gk) ∧ wr.ownsRow w.heap.size 3 1 (.slice A' L.length c') L.length (intCells L) ∧ Below W0.heap.size W0 wr)
  case atStart => exact ⟨some ⟨w.heap.size + 1, 0, none⟩, 0, [], true, by simp, rfl, ⟨by simp, by simp⟩, (fun h => by cases h), by show _ ≤ _; simp, (by rw [← hW0]; exact ho0), hbE⟩
  case round =>
    obtain ⟨A', c', L, mb, rfl, rfl, HG, HC, HM, ho, hb⟩ := hrel
    clear ho0 hbE
    cases mb with
    | false =>
      have HE := Lib.hid (HG.out.done (HC.out rfl))
      clear HG HC HM
      go_wp2
      exact bodyPost_ret (v := .slice A' L.length c') (by simp [results, Try.results60, go_sem]) rfl ⟨A', c', by rw [← HE.out], by rw [← HE.out]; exact ho, btr hb0 hb⟩
    | true =>
      have m1r := cell_below' m1 hb
      have HM' : Hid (2 * (K - L.length) + (if false = true then 1 else 0) + 1 ≤ gk) := by have := HM.out; show _ ≤ _; simp at this ⊢; omega
      clear HC HM
      go_wp2_with fail
      obtain ⟨wo, hwo⟩ : ∃ q, q = wr := ⟨_, rfl⟩
      subst hwo
      go_loopw [5, 6, 7] (fun q m i wr => ∃ j : Nat, ∃ (A' : Option Addr) (c' : Nat) (L : List Int) (mb : Bool), j ≤ xs.length ∧ i = .int .i64 j ∧ q = .slice A' L.length c' ∧ m = .bool mb ∧ Hid (Grow xs s K L) ∧ Hid (mb = false → ∀ x ∈ xs.take j, (x.a = s ∨ x.a ∈ L) → x.b ∈ L) ∧ Hid (2 * (K - L.length) + (if mb = true then 1 else 0) + 1 ≤ gk) ∧ wr.ownsRow w.heap.size 3 1 (.slice A' L.length c') L.length (intCells L) ∧ Below W0.heap.size W0 wr) (fun _ _ i _ => xs.length - (intOf i).toNat)
      case atStart => exact ⟨0, A', c', L, false, by omega, rfl, rfl, rfl, HG, fun _ => by simp, HM', ho, hb⟩
      case round =>
        clear HG HM' ho hb m1r
        obtain ⟨j, A', c', L, mb, hj, rfl, rfl, rfl, HG, HC, HM, ho, hb⟩ := hrel
        have m1r := cell_below' m1 hb
        by_cases hjl : j < xs.length
        · obtain ⟨b, off, rfl, c0, c1⟩ := Rd.pr (hx0.below hb) hjl
          obtain ⟨x, hxe⟩ : ∃ x, x = xs[j] := ⟨_, rfl⟩
          have HXM : Hid (x ∈ xs) := by show x ∈ xs; rw [hxe]; exact List.getElem_mem hjl
          have HCx : Hid ((∀ x ∈ xs.take j, (x.a = s ∨ x.a ∈ L) → x.b ∈ L) → ((x.a = s ∨ x.a ∈ L) → x.b ∈ L) → ∀ x ∈ xs.take (j + 1), (x.a = s ∨ x.a ∈ L) → x.b ∈ L) := fun h h2 y hy => by
            rw [List.take_succ_eq_append_getElem hjl, ← hxe] at hy
            rcases List.mem_append.1 hy with hy | hy
            · exact h y hy
            · simp only [List.mem_singleton] at hy; subst hy; exact h2
          rw [← hxe] at c0 c1
          clear hxe
          obtain ⟨xa, xb⟩ := x
          simp only at c0 c1
          have hL8 := HG.out.len
          have hbw := bnew (Below.refl wr.heap.size wr) (.cells #[.int .i64 xa, .int .i64 xb] 52)
          have n0 : (wr.alloc (.cells #[.int .i64 xa, .int .i64 xb] 52)).cell? ⟨wr.heap.size, 0, none⟩ = some (.int .i64 xa) := (World.cell?_alloc_at _ _ _ _ rfl).trans rfl
          have n1 : (wr.alloc (.cells #[.int .i64 xa, .int .i64 xb] 52)).cell? ⟨wr.heap.size, 1, none⟩ = some (.int .i64 xb) := (World.cell?_alloc_at _ _ _ _ rfl).trans rfl
          replace ho := own_below ho hbw
          have hbn := btr hb hbw
          have hjI : (j : Int) < (xs.length : Int) := by omega
          clear hb hbw
          have HAB : Hid (∀ (w1 : World) (y : Int) (b : Bool), Rd w1 A' (intCells L) → hasK L y = b → Calls Try.prog 62 #[.slice A' L.length c', .int .i64 y] w1 fun e w' => e = .returned (.bool b) ∧ w1 = w') := fun w1 y b hr h => by subst h; exact l1Has_any A' c' L y w1 (by unfold maxLen; omega) hr
          by_cases h1 : xa = s
          · have h1' : (xa == s) = true := by simp [h1]
            have hact : xa = s ∨ xa ∈ L := .inl h1
            by_cases h3 : hasK L xb = true
            · have HB1 : Hid (hasK L xb = true) := h3
              have HA1 := HB1
              have h3m := hasK_iff.1 h3
              have HCn : Hid (mb = false → ∀ x ∈ xs.take (j + 1), (x.a = s ∨ x.a ∈ L) → x.b ∈ L) := fun h => HCx.out (HC.out h) (fun _ => h3m)
              clear HC HCx hact h3m h1 h3
              go_wp2_with ((first | (go_at_call 62; refine (HAB.out _ _ _ (own_rd ho) (by first | exact HA1.out | exact HB1.out)).mono ?_; rintro e w9 ⟨rfl, rfl⟩) | (go_at_call 86; refine (HP.out _ ho).mono ?_; rintro e w5 ⟨kk, A5, c5, rfl, ho5, hb5, hkk, hp1, hp2⟩)))
              go_roundw
              case rel => exact ⟨j + 1, A', c', L, mb, by omega, by go_num, rfl, rfl, HG, HCn, HM, ho, hbn⟩
              case measure => simp [intOf]; omega
            · have h3 : hasK L xb = false := by simpa using h3
              have HB1 : Hid (hasK L xb = false) := h3
              have HA1 := HB1
              have HP : Hid (∀ w1 : World, w1.ownsRow w.heap.size 3 1 (.slice A' L.length c') L.length (intCells L) → _) := fun w1 ho => l1Put_any A' c' L xb w1 (by omega) (own_le ho) (own_rd ho) HG.out.asc (fun hm => by rw [hasK_iff.2 hm] at h3; cases h3)
              have HGn : Hid (∀ k, (∀ y ∈ L.take k, y < xb) → (∀ y ∈ L.drop k, xb < y) → Grow xs s K (putAt L xb k)) := fun k a b => HG.out.put HXM.out HIN.out hact a b
              have HL1 : Hid (∀ k, k ≤ L.length → (putAt L xb k).length = L.length + 1) := fun k hk => putAt_len L xb k hk
              clear hact HC HG HCx h3 h1
              go_wp2_with ((first | (go_at_call 62; refine (HAB.out _ _ _ (own_rd ho) (by first | exact HA1.out | exact HB1.out)).mono ?_; rintro e w9 ⟨rfl, rfl⟩) | (go_at_call 86; refine (HP.out _ ho).mono ?_; rintro e w5 ⟨kk, A5, c5, rfl, ho5, hb5, hkk, hp1, hp2⟩)))
              have HG2 := Lib.hid (HGn.out kk hp1 hp2)
              have hl2 := HL1.out kk hkk
              have hK2 := HG2.out.len
              have HMn : Hid (2 * (K - (putAt L xb kk).length) + (if true = true then 1 else 0) + 1 ≤ gk) := by have := HM.out; show _ ≤ _; rw [hl2] at hK2 ⊢; simp; omega
              have ho6 := own_base ho5 (Nat.le_trans hb0.size hbn.size)
              rw [← hl2] at ho6
              have HL2 := Lib.hid hl2
              clear hp1 hp2 HGn HL1 HM ho5 hl2
              go_roundw
              case rel => exact ⟨j + 1, A5, c5, putAt L xb kk, true, by omega, by go_num, by rw [HL2.out], rfl, HG2, (fun h => by cases h), HMn, ho6, btr hbn hb5⟩
              case measure => simp [intOf]; omega
          · have h1' : (xa == s) = false := by simp [h1]
            by_cases h2 : hasK L xa = true
            · have hact : xa = s ∨ xa ∈ L := .inr (hasK_iff.1 h2)
              have HA1 : Hid (hasK L xa = true) := h2
              by_cases h3 : hasK L xb = true
              · have HB1 : Hid (hasK L xb = true) := h3
                have h3m := hasK_iff.1 h3
                have HCn : Hid (mb = false → ∀ x ∈ xs.take (j + 1), (x.a = s ∨ x.a ∈ L) → x.b ∈ L) := fun h => HCx.out (HC.out h) (fun _ => h3m)
                clear HC HCx hact h3m h1 h2 h3
                go_wp2_with ((first | (go_at_call 62; refine (HAB.out _ _ _ (own_rd ho) (by first | exact HA1.out | exact HB1.out)).mono ?_; rintro e w9 ⟨rfl, rfl⟩) | (go_at_call 86; refine (HP.out _ ho).mono ?_; rintro e w5 ⟨kk, A5, c5, rfl, ho5, hb5, hkk, hp1, hp2⟩)))
                go_roundw
                case rel => exact ⟨j + 1, A', c', L, mb, by omega, by go_num, rfl, rfl, HG, HCn, HM, ho, hbn⟩
                case measure => simp [intOf]; omega
              · have h3 : hasK L xb = false := by simpa using h3
                have HB1 : Hid (hasK L xb = false) := h3
                have HP : Hid (∀ w1 : World, w1.ownsRow w.heap.size 3 1 (.slice A' L.length c') L.length (intCells L) → _) := fun w1 ho => l1Put_any A' c' L xb w1 (by omega) (own_le ho) (own_rd ho) HG.out.asc (fun hm => by rw [hasK_iff.2 hm] at h3; cases h3)
                have HGn : Hid (∀ k, (∀ y ∈ L.take k, y < xb) → (∀ y ∈ L.drop k, xb < y) → Grow xs s K (putAt L xb k)) := fun k a b => HG.out.put HXM.out HIN.out hact a b
                have HL1 : Hid (∀ k, k ≤ L.length → (putAt L xb k).length = L.length + 1) := fun k hk => putAt_len L xb k hk
                clear hact HC HG HCx h3 h1 h2
                go_wp2_with ((first | (go_at_call 62; refine (HAB.out _ _ _ (own_rd ho) (by first | exact HA1.out | exact HB1.out)).mono ?_; rintro e w9 ⟨rfl, rfl⟩) | (go_at_call 86; refine (HP.out _ ho).mono ?_; rintro e w5 ⟨kk, A5, c5, rfl, ho5, hb5, hkk, hp1, hp2⟩)))
                have HG2 := Lib.hid (HGn.out kk hp1 hp2)
                have hl2 := HL1.out kk hkk
                have hK2 := HG2.out.len
                have HMn : Hid (2 * (K - (putAt L xb kk).length) + (if true = true then 1 else 0) + 1 ≤ gk) := by have := HM.out; show _ ≤ _; rw [hl2] at hK2 ⊢; simp; omega
                have ho6 := own_base ho5 (Nat.le_trans hb0.size hbn.size)
                rw [← hl2] at ho6
                have HL2 := Lib.hid hl2
                clear hp1 hp2 HGn HL1 HM ho5 hl2
                go_roundw
                case rel => exact ⟨j + 1, A5, c5, putAt L xb kk, true, by omega, by go_num, by rw [HL2.out], rfl, HG2, (fun h => by cases h), HMn, ho6, btr hbn hb5⟩
                case measure => simp [intOf]; omega
            · have hact : ¬ (xa = s ∨ xa ∈ L) := fun h => h.elim h1 (fun h => h2 (hasK_iff.2 h))
              have h2 : hasK L xa = false := by simpa using h2
              have HA1 : Hid (hasK L xa = false) := h2
              have HB1 := HA1
              have HCn : Hid (mb = false → ∀ x ∈ xs.take (j + 1), (x.a = s ∨ x.a ∈ L) → x.b ∈ L) := fun h => HCx.out (HC.out h) (fun h => absurd h hact)
              clear HC HCx hact h1 h2
              go_wp2_with ((first | (go_at_call 62; refine (HAB.out _ _ _ (own_rd ho) (by first | exact HA1.out | exact HB1.out)).mono ?_; rintro e w9 ⟨rfl, rfl⟩) | (go_at_call 86; refine (HP.out _ ho).mono ?_; rintro e w5 ⟨kk, A5, c5, rfl, ho5, hb5, hkk, hp1, hp2⟩)))
              go_roundw
              case rel => exact ⟨j + 1, A', c', L, mb, by omega, by go_num, rfl, rfl, HG, HCn, HM, ho, hbn⟩
              case measure => simp [intOf]; omega
        · have HCn : Hid (mb = false → ∀ x ∈ xs, (x.a = s ∨ x.a ∈ L) → x.b ∈ L) := fun h => by have := HC.out h; rwa [List.take_of_length_le (by omega)] at this
          have HMn : Hid (2 * (K - L.length) + (if mb = true then 1 else 0) ≤ gk - 1) := by have := HM.out; show _ ≤ _; omega
          have hgk : 1 ≤ gk := by have := HM.out; omega
          clear HC HM
          go_wp2_with fail
          go_roundg (gk - 1)
          case measure => omega
          case rel => exact ⟨A', c', L, mb, rfl, rfl, HG, HCn, HMn, ho, hb⟩
end Go.Proofs.Ytdbcbaahjhaonaa
