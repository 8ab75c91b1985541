/-
  Contracts of PresidingMember. Conditions: lengths within Go's range.
-/
import Derived.Test.YtidmdppcamgaoaaIntF
import Derived.Test.YtidmdppcamgaoaaMemb2
import Derived.Test.YtidmdppcamgaoaaFindMem
namespace Go.My
open Go.RowKit
def hasI (ps : List Int) (n : Int) : Bool := ps.any fun y => y == n
def absentB (xs : List Mem) (n : Int) : Bool := decide (idxOf (fun s : Mem => s.num == n) xs < 0)
def presB (xs : List Mem) (ps : List Int) : Bool := risB 1 99 ps && !(ps.any (absentB xs))
def whoFrom (xs : List Mem) (ps : List Int) : List Int → Int
  | [] => ps.headD 0
  | o :: r => if hasI ps (holdL o xs) = true then holdL o xs else whoFrom xs ps r
def whoK (xs : List Mem) (ps : List Int) (k : Nat) : Int := whoFrom xs ps (([1, 2, 3] : List Int).drop k)
def presR (xs : List Mem) (ps : List Int) : Int × Bool := if (goodMem xs && presB xs ps && decide (ps.length ≠ 0)) = true then (whoK xs ps 0, true) else (0, false)
theorem whoK_at {xs : List Mem} {ps : List Int} {k : Nat} (hk : k < 3) : whoK xs ps k = if hasI ps (holdL ((k : Int) + 1) xs) = true then holdL ((k : Int) + 1) xs else whoK xs ps (k + 1) := by
  match k, hk with
  | 0, _ => rfl
  | 1, _ => rfl
  | 2, _ => rfl
theorem whoK_end (xs : List Mem) (ps : List Int) : whoK xs ps 3 = ps.headD 0 := rfl
theorem ris_no0 {ps : List Int} (h : risB 1 99 ps = true) : hasI ps 0 = false := by
  unfold hasI
  rw [List.any_eq_false]
  intro x hx
  obtain ⟨ys, hy⟩ := goodPre_all h x hx
  simp only [risP, Bool.and_eq_true, inB, decide_eq_true_eq] at hy
  simp; omega
end Go.My
namespace Go.Proofs.Ytidmdppcamgaoaa
open Go.RowKit Go.My
set_option maxHeartbeats 400000 in
theorem closP_any (n : Int) (q : Nat) (A : Option Addr) (c : Nat) (xs : List Mem) (w : World) (hn : xs.length ≤ maxLen) (hq : w.cell? ⟨q, 0, none⟩ = some (.slice A xs.length c)) (hx : Rd w A (memCells xs)) :
    Calls Try.prog 75 #[.int .i64 n, .pointer (some ⟨q, 0, none⟩)] w fun e w' => e = .returned (.bool (absentB xs n)) ∧ Below w.heap.size w w' := by
  have Hx := Lib.hid (memberIndex_any A c xs n w hn hx)
  have HT : Hid (absentB xs n = decide (idxOf (fun s : Mem => s.num == n) xs < 0)) := rfl
  clear hx
  generalize absentB xs n = u at *
  generalize idxOf (fun s : Mem => s.num == n) xs = v at *
  go_enter Try.func75, Try.ntmps75
  go_wp2_with (go_at_call 41; refine Hx.out.mono ?_; rintro e w' ⟨rfl, hb⟩)
  go_ret
  exact ⟨by rw [HT.out]; rfl, hb⟩
def TellsInt (w : World) (q : Addr) (p : Int → Bool) (ps : List Int) : Prop := ∀ w1 : World, Below w.heap.size w w1 → ∀ s ∈ ps, Calls Try.prog 75 #[.int .i64 s, .pointer (some q)] w1 fun e w' => e = .returned (.bool (p s)) ∧ Below w1.heap.size w1 w'
set_option maxHeartbeats 400000 in
theorem indexIntF_any (q : Addr) (p : Int → Bool) (A : Option Addr) (c : Nat) (xs : List Int) (w : World) (hn : xs.length ≤ maxLen) (hx : Rd w A (intCells xs)) (hp : Hid (TellsInt w q p xs)) :
    Calls Try.prog 85 #[.slice A xs.length c, .func (.func 75) #[] #[.pointer (some q)]] w fun e w' => e = .returned (.int .i64 (idxOf p xs)) ∧ Below w.heap.size w w' := by
  unfold maxLen at hn
  go_enter Try.func85, Try.ntmps85
  go_wp2
  go_loopw [8] (fun i wr => ∃ k : Nat, k ≤ xs.length ∧ i = .int .i64 k ∧ Hid (idxOf p xs = idxFrom p k (xs.drop k)) ∧ Below w.heap.size w wr) (fun i _ => xs.length - (intOf i).toNat)
  case atStart => exact ⟨0, by omega, rfl, rfl, Below.refl _ _⟩
  case round =>
    obtain ⟨k, hk, rfl, H, hb⟩ := hrel
    by_cases hlt : k < xs.length
    · obtain ⟨b, off, rfl, c0⟩ := Rd.ints (hx.below hb) hlt
      have hcall := hp.out _ hb xs[k] (List.getElem_mem _)
      have Hn := Lib.hid (H.out.trans (idxFrom_at hlt))
      clear H
      generalize xs[k] = s at *
      have Hc := Lib.hid hcall
      clear hcall
      by_cases hps : p s = true
      · have Hf := Lib.hid (Hn.out.trans (if_pos hps))
        clear Hn
        rw [hps] at Hc
        go_wp2_with (go_at_call 75; refine Hc.out.mono ?_; rintro e w1 ⟨rfl, hb1⟩)
        go_ret
        exact ⟨by rw [Hf.out]; rfl, btr hb hb1⟩
      · have Hf := Lib.hid (Hn.out.trans (if_neg hps))
        clear Hn
        have hps' : p s = false := by simpa using hps
        rw [hps'] at Hc
        go_wp2_with (go_at_call 75; refine Hc.out.mono ?_; rintro e w1 ⟨rfl, hb1⟩)
        go_roundw
        case rel => exact ⟨k + 1, by omega, by go_num, Hf, btr hb hb1⟩
        case measure => simp [intOf]; omega
    · have Hf := Lib.hid (H.out.trans (by rw [List.drop_eq_nil_of_le (by omega)]))
      clear H
      go_wp2
      go_ret
      exact ⟨by rw [Hf.out]; rfl, hb⟩
set_option maxHeartbeats 400000 in
theorem containsIntF_any (q : Addr) (p : Int → Bool) (A : Option Addr) (c : Nat) (xs : List Int) (w : World) (hn : xs.length ≤ maxLen) (hx : Rd w A (intCells xs)) (hp : Hid (TellsInt w q p xs)) :
    Calls Try.prog 74 #[.slice A xs.length c, .func (.func 75) #[] #[.pointer (some q)]] w fun e w' => e = .returned (.bool (xs.any p)) ∧ Below w.heap.size w w' := by
  have hc := Lib.hid (indexIntF_any q p A c xs w hn hx hp)
  have HE := Lib.hid (idxOf_any p xs)
  clear hn hx hp
  generalize idxOf p xs = v at *
  generalize xs.any p = u at *
  go_enter Try.func74, Try.ntmps74
  go_wp2_with fail
  refine hc.out.mono ?_
  rintro e w1 ⟨rfl, hb1⟩
  go_wp2
  go_ret
  exact ⟨by rw [← HE.out]; rfl, hb1⟩
set_option maxHeartbeats 400000 in
theorem arePresent_any (A : Option Addr) (c : Nat) (xs : List Mem) (B : Option Addr) (d : Nat) (ps : List Int) (w : World) (hn : xs.length ≤ maxLen) (hm : ps.length ≤ maxLen) (hx : Rd w A (memCells xs)) (hy : Rd w B (intCells ps)) :
    Calls Try.prog 50 #[.slice A xs.length c, .slice B ps.length d] w fun e w' => e = .returned (.bool (presB xs ps)) ∧ Below w.heap.size w w' := by
  have hbw := bnew (Below.refl w.heap.size w) (.cells #[.slice A xs.length c] 24)
  have Hr := Lib.hid (ascending_any B d ps 1 99 (w.alloc (.cells #[.slice A xs.length c] 24)) hm (hy.alloc _))
  have Hc : Hid (∀ w1 : World, Below (w.alloc (.cells #[.slice A xs.length c] 24)).heap.size (w.alloc (.cells #[.slice A xs.length c] 24)) w1 → Calls Try.prog 74 #[.slice B ps.length d, .func (.func 75) #[] #[.pointer (some ⟨w.heap.size, 0, none⟩)]] w1 fun e w' => e = .returned (.bool (ps.any (absentB xs))) ∧ Below w1.heap.size w1 w') := by
    intro w1 hb1
    refine containsIntF_any ⟨w.heap.size, 0, none⟩ (absentB xs) B d ps w1 hm (hy.below (btr hbw hb1)) (fun w2 hb2 s _ => ?_)
    exact closP_any s w.heap.size A c xs w2 hn (((btr hb1 hb2).cell (by simp)).trans ((World.cell?_alloc_at _ _ _ _ rfl).trans rfl)) (hx.below (btr hbw (btr hb1 hb2)))
  have HT : Hid (presB xs ps = (risB 1 99 ps && !(ps.any (absentB xs)))) := rfl
  clear hx hy
  generalize presB xs ps = r at *
  generalize (ps.any (absentB xs)) = u at *
  by_cases hg : risB 1 99 ps = true
  · rw [hg] at HT Hr
    go_enter Try.func50, Try.ntmps50
    go_wp2_with (first | (go_at_call 73; refine Hr.out.mono ?_; rintro e w1 ⟨rfl, hb1⟩) | (go_at_call 74; refine (Hc.out _ hb1).mono ?_; rintro e w2 ⟨rfl, hb2⟩))
    go_ret
    exact ⟨by rw [HT.out]; rfl, btr hbw (btr hb1 hb2)⟩
  · have hg' : risB 1 99 ps = false := by simpa using hg
    rw [hg'] at HT Hr
    clear hg
    go_enter Try.func50, Try.ntmps50
    go_wp2_with (go_at_call 73; refine Hr.out.mono ?_; rintro e w1 ⟨rfl, hb1⟩)
    go_ret
    exact ⟨by rw [HT.out]; rfl, btr hbw hb1⟩
set_option maxHeartbeats 1000000 in
theorem l3Present_any (A : Option Addr) (c : Nat) (xs : List Mem) (B : Option Addr) (d : Nat) (ps : List Int) (w : World) (hn : xs.length ≤ maxLen) (hm : ps.length ≤ maxLen) (hx : Rd w A (memCells xs)) (hy : Rd w B (intCells ps)) :
    Calls Try.prog 47 #[.slice A xs.length c, .slice B ps.length d] w fun e w' => e = .returned (.bool (presB xs ps)) ∧ Below w.heap.size w w' := by
  have HT : Hid (presB xs ps = (risB 1 99 ps && !(ps.any (absentB xs)))) := rfl
  have Hr := Lib.hid (fun (w1 : World) (hb : Below w.heap.size w w1) => l1Rising_any B d ps 1 99 w1 hm (hy.below hb))
  unfold maxLen at hm
  go_enter Try.func47, Try.ntmps47
  go_wp2
  go_loopw [5] (fun q wr => ∃ k : Nat, k ≤ ps.length ∧ q = .int .i64 k ∧ Hid ((ps.take k).any (absentB xs) = false) ∧ Below w.heap.size w wr) (fun q _ => ps.length - (intOf q).toNat)
  case atStart => exact ⟨0, by omega, rfl, rfl, Below.refl _ _⟩
  case round =>
    obtain ⟨k, hk, rfl, H, hb⟩ := hrel
    by_cases hlt : k < ps.length
    · obtain ⟨b, off, rfl, c0⟩ := Rd.ints (hy.below hb) hlt
      have Hn := Lib.hid (any_take_succ (absentB xs) ps k hlt)
      generalize ps[k] = s at *
      have Hx := Lib.hid (findMem_any A c xs s wr hn (hx.below hb))
      have Hq : Hid (absentB xs s = decide (idxOf (fun y : Mem => y.num == s) xs < 0)) := rfl
      generalize idxOf (fun y : Mem => y.num == s) xs = v at *
      by_cases hq : v < 0
      · have hqd : decide (v < 0) = true := by simpa using hq
        have Hf : Hid (presB xs ps = false) := by
          have := any_take_mono (p := absentB xs) (xs := ps) (show k + 1 ≤ ps.length by omega) (by rw [Hn.out, Hq.out, hqd]; simp)
          rw [List.take_length] at this
          exact HT.out.trans (by rw [this]; simp)
        clear Hn H Hq HT
        go_wp2_with (go_at_call 38; refine Hx.out.mono ?_; rintro e w1 ⟨rfl, hb1⟩)
        go_ret
        exact ⟨by rw [Hf.out]; rfl, btr hb hb1⟩
      · have hqd : decide (v < 0) = false := by simpa using hq
        have Hf : Hid ((ps.take (k + 1)).any (absentB xs) = false) := Hn.out.trans (by rw [H.out, Hq.out, hqd]; rfl)
        clear Hn H Hq
        go_wp2_with (go_at_call 38; refine Hx.out.mono ?_; rintro e w1 ⟨rfl, hb1⟩)
        go_roundw
        case rel => exact ⟨k + 1, by omega, by go_num, Hf, btr hb hb1⟩
        case measure => simp [intOf]; omega
    · have Hf : Hid (presB xs ps = risB 1 99 ps) := by
        have := H.out
        rw [List.take_of_length_le (by omega)] at this
        exact HT.out.trans (by rw [this]; simp)
      clear H HT
      generalize risB 1 99 ps = u at *
      go_wp2_with (go_at_call 72; refine (Hr.out _ hb).mono ?_; rintro e w1 ⟨rfl, hb1⟩)
      go_ret
      exact ⟨by rw [Hf.out]; rfl, btr hb hb1⟩
set_option maxHeartbeats 2000000 in
theorem specPres_any (A : Option Addr) (c : Nat) (xs : List Mem) (B : Option Addr) (d : Nat) (ps : List Int) (w : World) (hn : xs.length ≤ maxLen) (hlc : xs.length ≤ c) (hx : Rd w A (memCells xs)) (hs : ∀ y ∈ xs, y.name.size ≤ maxLen) (hm : ps.length ≤ maxLen) (hy : Rd w B (intCells ps)) :
    Calls Try.prog 18 #[.slice A xs.length c, .slice B ps.length d] w fun en w' => en = .returned (.tuple #[.int .i64 (presR xs ps).1, .bool (presR xs ps).2]) ∧ Below w.heap.size w w' := by
  obtain ⟨r, hr⟩ : ∃ r, r = presR xs ps := ⟨_, rfl⟩
  rw [← hr]
  have Hv := Lib.hid (l3Good_any A c xs w hn hlc hx hs)
  have Hp := Lib.hid (fun (w1 : World) (hb : Below w.heap.size w w1) => l3Present_any A c xs B d ps w1 hn hm (hx.below hb) (hy.below hb))
  unfold maxLen at hm
  by_cases hg : goodMem xs = true
  · by_cases hp : presB xs ps = true
    · by_cases h0 : ps.length = 0
      · have HR : Hid (r = (0, false)) := hr.trans (if_neg (by simp [h0]))
        have h0b : (((ps.length : Nat) : Int) == 0) = true := by simp [h0]
        clear hr hx hy hs hn h0
        go_enter Try.func18, Try.ntmps18
        go_wp2_with (first | (go_at_call 39; refine Hv.out.mono ?_; rintro en w1 ⟨rfl, hb1⟩) | (go_at_call 47; refine (Hp.out _ hb1).mono ?_; rintro en w2 ⟨rfl, hb2⟩; have hb02 := btr hb1 hb2))
        exact bodyPost_ret (v := .tuple #[.int .i64 0, .bool false]) (by simp [results, Try.results18, go_sem]) rfl ⟨by rw [HR.out], hb02⟩
      · have HR : Hid (r = (whoK xs ps 0, true)) := hr.trans (if_pos (by simp [hg, hp, h0]))
        have h0b : (((ps.length : Nat) : Int) == 0) = false := by rw [beq_eq_false_iff_ne]; omega
        have hris : risB 1 99 ps = true := by simp only [presB, Bool.and_eq_true] at hp; exact hp.1
        have H0 := Lib.hid (ris_no0 hris)
        have h0p : 0 < ps.length := by omega
        obtain ⟨bp, op, rfl, -⟩ := Rd.ints hy h0p
        have Hf : Hid (∀ w1, Below w.heap.size w w1 → w1.cell? ⟨bp, op, none⟩ = some (.int .i64 (ps.headD 0))) := by
          intro w1 hb
          obtain ⟨b', off', e, c0⟩ := Rd.ints (hy.below hb) h0p
          have k9 : b' = bp ∧ off' = op := by simpa using e.symm
          obtain ⟨rfl, rfl⟩ := k9
          have e2 : ps.headD 0 = ps[0] := by cases ps with
            | nil => simp at h0p
            | cons y r => rfl
          rw [e2]; exact c0
        clear hr hris
        go_enter Try.func18, Try.ntmps18
        go_wp2_with (first | (go_at_call 39; refine Hv.out.mono ?_; rintro en w1 ⟨rfl, hb1⟩) | (go_at_call 47; refine (Hp.out _ hb1).mono ?_; rintro en w2 ⟨rfl, hb2⟩; have hb02 := btr hb1 hb2))
        go_loopw [6] (fun q wr => ∃ k : Nat, k ≤ 3 ∧ q = .int .i64 ((k : Int) + 1) ∧ Hid (whoK xs ps 0 = whoK xs ps k) ∧ Below w2.heap.size w2 wr) (fun q _ => 4 - (intOf q).toNat)
        case atStart => exact ⟨0, by omega, by simp, rfl, Below.refl _ _⟩
        case round =>
          obtain ⟨k, hk, rfl, H, hb⟩ := hrel
          have hb0 := btr hb02 hb
          by_cases hlt : k < 3
          · have hkI : (k : Int) + 1 ≤ 3 := by omega
            have Hn := Lib.hid (H.out.trans (whoK_at hlt))
            clear H
            have Hh := Lib.hid (l3Holder_any A c xs ((k : Int) + 1) wr hn (hx.below hb0))
            have Hs := Lib.hid (fun (n : Int) (w9 : World) (hb9 : Below w.heap.size w w9) => l1Has_any (some ⟨bp, op, none⟩) d ps n w9 (by unfold maxLen; omega) (hy.below hb9))
            generalize holdL ((k : Int) + 1) xs = h at *
            have Hhas : Hid (hasI ps h = (ps.any fun y => y == h)) := rfl
            by_cases hq : hasI ps h = true
            · have HE : Hid (r = (h, true)) := HR.out.trans (by rw [Hn.out, if_pos hq])
              have hq2 : (ps.any fun y => y == h) = true := Hhas.out.symm.trans hq
              clear Hn HR Hhas hq
              go_wp2_with (first | (go_at_call 48; refine Hh.out.mono ?_; rintro en w3 ⟨rfl, hb3⟩; have hb03 := btr hb0 hb3) | (go_at_call 49; refine (Hs.out _ _ hb03).mono ?_; rintro en w4 ⟨rfl, rfl⟩))
              exact bodyPost_ret (v := .tuple #[.int .i64 h, .bool true]) (by simp [results, Try.results18, go_sem]) rfl ⟨by rw [HE.out], hb03⟩
            · have hq2 : (ps.any fun y => y == h) = false := Hhas.out.symm.trans (by simpa using hq)
              have Hn2 := Lib.hid (Hn.out.trans (if_neg hq))
              clear Hn Hhas hq
              go_wp2_with (first | (go_at_call 48; refine Hh.out.mono ?_; rintro en w3 ⟨rfl, hb3⟩; have hb03 := btr hb0 hb3) | (go_at_call 49; refine (Hs.out _ _ hb03).mono ?_; rintro en w4 ⟨rfl, rfl⟩))
              go_roundw
              case rel => exact ⟨k + 1, by omega, by go_num, Hn2, btr hb hb3⟩
              case measure => simp [intOf]; omega
          · have hk3 : k = 3 := by omega
            subst hk3
            have HE : Hid (r = (ps.headD 0, true)) := HR.out.trans (by rw [H.out, whoK_end])
            have c0 := Hf.out _ hb0
            have h0I : (0 : Int) < (ps.length : Int) := by omega
            clear HR H
            generalize ps.headD 0 = hd at *
            go_wp2
            exact bodyPost_ret (v := .tuple #[.int .i64 hd, .bool true]) (by simp [results, Try.results18, go_sem]) rfl ⟨by rw [HE.out], hb0⟩
    · have HR : Hid (r = (0, false)) := hr.trans (if_neg (by simp [hp]))
      have hp' : presB xs ps = false := by simpa using hp
      clear hr hx hy hs hn hp
      go_enter Try.func18, Try.ntmps18
      go_wp2_with (first | (go_at_call 39; refine Hv.out.mono ?_; rintro en w1 ⟨rfl, hb1⟩) | (go_at_call 47; refine (Hp.out _ hb1).mono ?_; rintro en w2 ⟨rfl, hb2⟩; have hb02 := btr hb1 hb2))
      exact bodyPost_ret (v := .tuple #[.int .i64 0, .bool false]) (by simp [results, Try.results18, go_sem]) rfl ⟨by rw [HR.out], hb02⟩
  · have HR : Hid (r = (0, false)) := hr.trans (if_neg (by simp [hg]))
    have hg' : goodMem xs = false := by simpa using hg
    clear hr hx hy hs hn hg
    go_enter Try.func18, Try.ntmps18
    go_wp2_with (first | (go_at_call 39; refine Hv.out.mono ?_; rintro en w1 ⟨rfl, hb1⟩))
    exact bodyPost_ret (v := .tuple #[.int .i64 0, .bool false]) (by simp [results, Try.results18, go_sem]) rfl ⟨by rw [HR.out], hb1⟩
set_option maxHeartbeats 2000000 in
theorem pres_any (A : Option Addr) (c : Nat) (xs : List Mem) (B : Option Addr) (d : Nat) (ps : List Int) (w : World) (hn : xs.length ≤ maxLen) (hlc : xs.length ≤ c) (hx : Rd w A (memCells xs)) (hs : ∀ y ∈ xs, y.name.size ≤ maxLen) (hm : ps.length ≤ maxLen) (hy : Rd w B (intCells ps)) :
    Calls Try.prog 20 #[.slice A xs.length c, .slice B ps.length d] w fun en w' => en = .returned (.tuple #[.int .i64 (presR xs ps).1, .bool (presR xs ps).2]) ∧ Below w.heap.size w w' := by
  obtain ⟨r, hr⟩ : ∃ r, r = presR xs ps := ⟨_, rfl⟩
  rw [← hr]
  have Hv := Lib.hid (isMembers_any A c xs w hn hlc hx hs)
  have Hp := Lib.hid (fun (w1 : World) (hb : Below w.heap.size w w1) => arePresent_any A c xs B d ps w1 hn hm (hx.below hb) (hy.below hb))
  unfold maxLen at hm
  by_cases hg : goodMem xs = true
  · by_cases hp : presB xs ps = true
    · by_cases h0 : ps.length = 0
      · have HR : Hid (r = (0, false)) := hr.trans (if_neg (by simp [h0]))
        have h0b : (((ps.length : Nat) : Int) == 0) = true := by simp [h0]
        clear hr hx hy hs hn h0
        go_enter Try.func20, Try.ntmps20
        go_wp2_with (first | (go_at_call 31; refine Hv.out.mono ?_; rintro en w1 ⟨rfl, hb1⟩) | (go_at_call 50; refine (Hp.out _ hb1).mono ?_; rintro en w2 ⟨rfl, hb2⟩; have hb02 := btr hb1 hb2))
        exact bodyPost_ret (v := .tuple #[.int .i64 0, .bool false]) (by simp [results, Try.results20, go_sem]) rfl ⟨by rw [HR.out], hb02⟩
      · have HR : Hid (r = (whoK xs ps 0, true)) := hr.trans (if_pos (by simp [hg, hp, h0]))
        have h0b : (((ps.length : Nat) : Int) == 0) = false := by rw [beq_eq_false_iff_ne]; omega
        have hris : risB 1 99 ps = true := by simp only [presB, Bool.and_eq_true] at hp; exact hp.1
        have H0 := Lib.hid (ris_no0 hris)
        have h0p : 0 < ps.length := by omega
        obtain ⟨bp, op, rfl, -⟩ := Rd.ints hy h0p
        have Hf : Hid (∀ w1, Below w.heap.size w w1 → w1.cell? ⟨bp, op, none⟩ = some (.int .i64 (ps.headD 0))) := by
          intro w1 hb
          obtain ⟨b', off', e, c0⟩ := Rd.ints (hy.below hb) h0p
          have k9 : b' = bp ∧ off' = op := by simpa using e.symm
          obtain ⟨rfl, rfl⟩ := k9
          have e2 : ps.headD 0 = ps[0] := by cases ps with
            | nil => simp at h0p
            | cons y r => rfl
          rw [e2]; exact c0
        clear hr hris
        go_enter Try.func20, Try.ntmps20
        go_wp2_with (first | (go_at_call 31; refine Hv.out.mono ?_; rintro en w1 ⟨rfl, hb1⟩) | (go_at_call 50; refine (Hp.out _ hb1).mono ?_; rintro en w2 ⟨rfl, hb2⟩; have hb02 := btr hb1 hb2))
        go_loopw [6] (fun q wr => ∃ k : Nat, k ≤ 3 ∧ q = .int .i64 ((k : Int) + 1) ∧ Hid (whoK xs ps 0 = whoK xs ps k) ∧ Below w2.heap.size w2 wr) (fun q _ => 4 - (intOf q).toNat)
        case atStart => exact ⟨0, by omega, by simp, rfl, Below.refl _ _⟩
        case round =>
          obtain ⟨k, hk, rfl, H, hb⟩ := hrel
          have hb0 := btr hb02 hb
          by_cases hlt : k < 3
          · have hkI : (k : Int) + 1 ≤ 3 := by omega
            have Hn := Lib.hid (H.out.trans (whoK_at hlt))
            clear H
            have HhR : Hid (holderR xs ((k : Int) + 1) = if holdL ((k : Int) + 1) xs ≠ 0 then (holdL ((k : Int) + 1) xs, true) else (0, false)) := by
              show _ = _
              unfold holderR
              have e1 : inB ((k : Int) + 1) 0 3 = true := inB_yes (by omega)
              have e2 : decide ((k : Int) + 1 ≠ 0) = true := by simp; omega
              rw [hg, e1, e2]
              simp
            have Hh := Lib.hid (holder_any A c xs ((k : Int) + 1) wr hn hlc (hx.below hb0) hs)
            have Hs := Lib.hid (fun (n : Int) (w9 : World) (hb9 : Below w.heap.size w w9) => containsInt_any (some ⟨bp, op, none⟩) d ps n w9 (by unfold maxLen; omega) (hy.below hb9))
            generalize holdL ((k : Int) + 1) xs = h at *
            generalize holderR xs ((k : Int) + 1) = hr at *
            have Hhas : Hid (hasI ps h = (ps.any fun y => y == h)) := rfl
            by_cases hz : h = 0
            · subst hz
              have e := HhR.out
              rw [if_neg (by simp)] at e
              subst e
              have Hn2 := Lib.hid (Hn.out.trans (if_neg (by rw [H0.out]; simp)))
              clear Hn Hhas HhR
              go_wp2_with (go_at_call 32; refine Hh.out.mono ?_; rintro en w3 ⟨rfl, hb3⟩)
              go_roundw
              case rel => exact ⟨k + 1, by omega, by go_num, Hn2, btr hb hb3⟩
              case measure => simp [intOf]; omega
            · have e := HhR.out
              rw [if_pos hz] at e
              subst e
              clear HhR hz
              by_cases hq : hasI ps h = true
              · have HE : Hid (r = (h, true)) := HR.out.trans (by rw [Hn.out, if_pos hq])
                have hq2 : (ps.any fun y => y == h) = true := Hhas.out.symm.trans hq
                clear Hn HR Hhas hq
                go_wp2_with (first | (go_at_call 32; refine Hh.out.mono ?_; rintro en w3 ⟨rfl, hb3⟩; have hb03 := btr hb0 hb3) | (go_at_call 51; refine (Hs.out _ _ hb03).mono ?_; rintro en w4 ⟨rfl, hb4⟩; have hb04 := btr hb03 hb4))
                exact bodyPost_ret (v := .tuple #[.int .i64 h, .bool true]) (by simp [results, Try.results20, go_sem]) rfl ⟨by rw [HE.out], hb04⟩
              · have hq2 : (ps.any fun y => y == h) = false := Hhas.out.symm.trans (by simpa using hq)
                have Hn2 := Lib.hid (Hn.out.trans (if_neg hq))
                clear Hn Hhas hq
                go_wp2_with (first | (go_at_call 32; refine Hh.out.mono ?_; rintro en w3 ⟨rfl, hb3⟩; have hb03 := btr hb0 hb3) | (go_at_call 51; refine (Hs.out _ _ hb03).mono ?_; rintro en w4 ⟨rfl, hb4⟩; have hb04 := btr hb03 hb4))
                go_roundw
                case rel => exact ⟨k + 1, by omega, by go_num, Hn2, btr hb (btr hb3 hb4)⟩
                case measure => simp [intOf]; omega
          · have hk3 : k = 3 := by omega
            subst hk3
            have HE : Hid (r = (ps.headD 0, true)) := HR.out.trans (by rw [H.out, whoK_end])
            have c0 := Hf.out _ hb0
            have h0I : (0 : Int) < (ps.length : Int) := by omega
            clear HR H
            generalize ps.headD 0 = hd at *
            go_wp2
            exact bodyPost_ret (v := .tuple #[.int .i64 hd, .bool true]) (by simp [results, Try.results20, go_sem]) rfl ⟨by rw [HE.out], hb0⟩
    · have HR : Hid (r = (0, false)) := hr.trans (if_neg (by simp [hp]))
      have hp' : presB xs ps = false := by simpa using hp
      clear hr hx hy hs hn hp
      go_enter Try.func20, Try.ntmps20
      go_wp2_with (first | (go_at_call 31; refine Hv.out.mono ?_; rintro en w1 ⟨rfl, hb1⟩) | (go_at_call 50; refine (Hp.out _ hb1).mono ?_; rintro en w2 ⟨rfl, hb2⟩; have hb02 := btr hb1 hb2))
      exact bodyPost_ret (v := .tuple #[.int .i64 0, .bool false]) (by simp [results, Try.results20, go_sem]) rfl ⟨by rw [HR.out], hb02⟩
  · have HR : Hid (r = (0, false)) := hr.trans (if_neg (by simp [hg]))
    have hg' : goodMem xs = false := by simpa using hg
    clear hr hx hy hs hn hg
    go_enter Try.func20, Try.ntmps20
    go_wp2_with (first | (go_at_call 31; refine Hv.out.mono ?_; rintro en w1 ⟨rfl, hb1⟩))
    exact bodyPost_ret (v := .tuple #[.int .i64 0, .bool false]) (by simp [results, Try.results20, go_sem]) rfl ⟨by rw [HR.out], hb1⟩
end Go.Proofs.Ytidmdppcamgaoaa
