/-
  Which kinds a kind yields to: the program's queue, the reference's growing list. Conditions: the pairs lie within the kinds.
-/
import Derived.Test.YtdbcbaahjhaonaaPrec
import Derived.Test.YtdbcbaahjhaonaaQue
import Derived.Deep.LoopGhost
namespace Go.My
open Go.RowKit
def bCells (xs : List Bool) : List Value := xs.map Value.bool
theorem bCells_len (xs : List Bool) : (bCells xs).length = xs.length * 1 := by simp [bCells]
theorem Rd.bools {w : World} {A : Option Addr} {xs : List Bool} (h : Rd w A (bCells xs)) {k : Nat} (hk : k < xs.length) :
    ∃ b off, A = some ⟨b, off, none⟩ ∧ w.cell? ⟨b, off + k, none⟩ = some (.bool xs[k]) := by
  rcases h with h | ⟨b, off, rfl, hc⟩
  · have : (bCells xs).length = 0 := by rw [h]; rfl
    rw [bCells_len] at this; omega
  · refine ⟨b, off, rfl, ?_⟩
    have := hc k (by rw [bCells_len]; omega)
    rw [this]; simp [bCells]
theorem own_low {w w' : World} {B C : Nat} {e : TypeId} {size n : Nat} {v : Value} {xs : List Value} (h : w.ownsRow B e size v n xs) (hb : Below C w w') (hv : ∀ k, v.ownBlock = some k → k < C) : w'.ownsRow B e size v n xs := by
  refine ⟨h.1, ?_⟩
  rcases h.2 with h2 | ⟨g, cap, cur, rfl, hbg, hg, r⟩
  · exact .inl h2
  · exact .inr ⟨g, cap, cur, rfl, hbg, (hb.block g (hv g rfl)).trans hg, r⟩
/-! ### The search -/
def Tr (out : List Bool) (b : Int) : Prop := ∃ k : Nat, b = (k : Int) ∧ out[k]? = some true
def Act (s : Int) (out : List Bool) (v : Int) : Prop := v = s ∨ Tr out v
def falses : List Bool → Nat
  | [] => 0
  | b :: r => (if b = true then 0 else 1) + falses r
theorem falses_set : ∀ {out : List Bool} {k : Nat}, out[k]? = some false → falses (out.set k true) + 1 = falses out
  | b :: r, 0, h => by simp at h; subst h; simp [falses]; omega
  | b :: r, k + 1, h => by
    simp only [List.set_cons_succ, falses]
    have := falses_set (out := r) (k := k) (by simpa using h)
    omega
theorem falses_all (K : Nat) : falses (List.replicate K false) = K := by
  induction K with
  | zero => rfl
  | succ K ih => simp only [List.replicate_succ, falses, ih]; simp; omega
theorem tr_set {out : List Bool} {k : Nat} (hk : k < out.length) {b : Int} : Tr (out.set k true) b ↔ b = (k : Int) ∨ Tr out b := by
  constructor
  · rintro ⟨j, rfl, h⟩
    by_cases e : k = j
    · exact .inl (by rw [e])
    · rw [List.getElem?_set_ne e] at h; exact .inr ⟨j, rfl, h⟩
  · rintro (rfl | ⟨j, rfl, h⟩)
    · exact ⟨k, rfl, by simp [hk]⟩
    · refine ⟨j, rfl, ?_⟩
      by_cases e : k = j
      · subst e; simp [hk]
      · rw [List.getElem?_set_ne e]; exact h
structure Bfs (xs : List Pr) (s : Int) (K : Nat) (out : List Bool) (Q : List Int) : Prop where
  len : out.length = K
  snd : ∀ b, Tr out b → Plus xs s b
  cls : ∀ v, Act s out v → v ∈ Q ∨ ∀ x ∈ xs, x.a = v → Tr out x.b
  act : ∀ v ∈ Q, Act s out v
theorem bfs_start (xs : List Pr) (s : Int) (K : Nat) : Bfs xs s K (List.replicate K false) [s] where
  len := by simp
  snd := by
    rintro b ⟨k, _, h⟩
    obtain ⟨h1, h2⟩ := List.getElem?_eq_some_iff.1 h
    simp at h2
  cls := by
    rintro v (rfl | ⟨k, _, h⟩)
    · exact .inl (by simp)
    · obtain ⟨h1, h2⟩ := List.getElem?_eq_some_iff.1 h
      simp at h2
  act := by intro v hv; exact .inl (by simpa using hv)
theorem bfs_put {xs : List Pr} {s : Int} {K : Nat} {out : List Bool} {Q : List Int} (h : Bfs xs s K out Q) {x : Pr} (hx : x ∈ xs) (hv : x.a ∈ Q) {k : Nat} (hk : k < K) (hb : x.b = (k : Int)) : Bfs xs s K (out.set k true) (Q ++ [x.b]) where
  len := by rw [List.length_set]; exact h.len
  snd := by
    intro b hb'
    rcases (tr_set (by rw [h.len]; exact hk)).1 hb' with rfl | h2
    · rw [← hb]
      rcases h.act _ hv with e | h3
      · exact plus_one hx e
      · exact plus_snoc (h.snd _ h3) hx
    · exact h.snd _ h2
  cls := by
    intro v ha
    have mono : ∀ b, Tr out b → Tr (out.set k true) b := fun b hb' => (tr_set (by rw [h.len]; exact hk)).2 (.inr hb')
    have old : Act s out v → v ∈ Q ++ [x.b] ∨ ∀ y ∈ xs, y.a = v → Tr (out.set k true) y.b := fun h2 => by
      rcases h.cls v h2 with h3 | h3
      · exact .inl (by simp [h3])
      · exact .inr fun y hy e => mono _ (h3 y hy e)
    rcases ha with rfl | h2
    · exact old (.inl rfl)
    · rcases (tr_set (by rw [h.len]; exact hk)).1 h2 with e | h3
      · exact .inl (by simp [e, hb])
      · exact old (.inr h3)
  act := by
    have mono : ∀ b, Tr out b → Tr (out.set k true) b := fun b hb' => (tr_set (by rw [h.len]; exact hk)).2 (.inr hb')
    intro v hv'
    rcases List.mem_append.1 hv' with h2 | h2
    · rcases h.act v h2 with e | h3
      · exact .inl e
      · exact .inr (mono _ h3)
    · simp only [List.mem_singleton] at h2
      subst h2
      exact .inr ((tr_set (by rw [h.len]; exact hk)).2 (.inl hb))
theorem bfs_drop {xs : List Pr} {s v : Int} {K : Nat} {out : List Bool} {Q : List Int} (h : Bfs xs s K out (v :: Q)) (hd : ∀ x ∈ xs, x.a = v → Tr out x.b) : Bfs xs s K out Q where
  len := h.len
  snd := h.snd
  cls := by
    intro u hu
    rcases h.cls u hu with h2 | h2
    · rcases List.mem_cons.1 h2 with rfl | h3
      · exact .inr hd
      · exact .inl h3
    · exact .inr h2
  act := fun u hu => h.act u (List.mem_cons_of_mem _ hu)
theorem bfs_end {xs : List Pr} {s : Int} {K : Nat} {out : List Bool} (h : Bfs xs s K out []) : out = rowB (reachB xs s) K := by
  have cls : ∀ v, Act s out v → ∀ x ∈ xs, x.a = v → Tr out x.b := fun v hv => by
    rcases h.cls v hv with h2 | h2
    · simp at h2
    · exact h2
  refine rowB_ext h.len fun k hk => ?_
  cases e : out[k] with
  | true => exact (reachB_true.2 (h.snd _ ⟨k, rfl, by rw [List.getElem?_eq_getElem hk, e]⟩)).symm
  | false =>
    refine (reachB_false.2 fun hp => ?_).symm
    obtain ⟨j, e1, e2⟩ := plus_closed (fun b => Tr out b) (fun x hx ha => cls s (.inl rfl) x hx ha) (fun x hx ha => cls x.a (.inr ha) x hx rfl) hp
    obtain rfl : k = j := by omega
    rw [List.getElem?_eq_getElem hk, e] at e2
    cases e2
theorem tr_get {out : List Bool} {k : Nat} (hk : k < out.length) (h : out[k] = true) : Tr out (k : Int) := ⟨k, rfl, by rw [List.getElem?_eq_getElem hk, h]⟩
theorem bCells_set (out : List Bool) (k : Nat) : (bCells out).set k (.bool true) = bCells (out.set k true) := by simp [bCells, List.map_set]
end Go.My
namespace Go.Proofs.Ytdbcbaahjhaonaa
open Go.RowKit Go.My
theorem zi_Bool : (Try.prog.info? 4).map (fun i => (i.zero, i.size, i.bytes)) = some (some (.bool false), 1, 1) := by kernel_rfl
set_option maxHeartbeats 8000000 in
set_option maxRecDepth 100000 in
theorem yieldsTo_any (A : Option Addr) (c K : Nat) (xs : List Pr) (s : Int) (w : World) (hK : 1 ≤ K ∧ K ≤ 8) (hn : xs.length ≤ 16) (hx : Rd w A (prCells xs)) (hin : InK xs K) :
    Calls Try.prog 61 #[.agg #[.int .i64 K, .slice A xs.length c], .int .i64 s] w fun e w' => ∃ A', e = .returned (.slice A' K K) ∧ w'.ownsRow w.heap.size 4 1 (.slice A' K K) K (bCells (rowB (reachB xs s) K)) ∧ Below w.heap.size w w' := by
  obtain ⟨hK1, hK8⟩ := hK
  have hb0 : Below w.heap.size w (w.alloc (.cells #[.int .i64 K, .slice A xs.length c] 27)) := bnew (Below.refl _ _) _
  have m0 : (w.alloc (.cells #[.int .i64 K, .slice A xs.length c] 27)).cell? ⟨w.heap.size, 0, none⟩ = some (.int .i64 K) := (World.cell?_alloc_at _ _ _ _ rfl).trans rfl
  have m1 : (w.alloc (.cells #[.int .i64 K, .slice A xs.length c] 27)).cell? ⟨w.heap.size, 1, none⟩ = some (.slice A xs.length c) := (World.cell?_alloc_at _ _ _ _ rfl).trans rfl
  have hx0 := hx.below hb0
  have hW0 : (w.alloc (.cells #[.int .i64 K, .slice A xs.length c] 27)).heap.size = w.heap.size + 1 := by simp
  have HF0 := Lib.hid (falses_all K)
  have HS := Lib.hid (bfs_start xs s K)
  have HIN := Lib.hid hin
  clear hx hin
  go_enter Try.func61, Try.ntmps61
  go_wp2_with (at_make; refine wpl_makez rfl (.tmp 10) (.tmp 10) 63 rfl Try.underlying63 zi_Bool rfl rfl rfl rfl rfl (by omega) (by unfold maxLen; omega) hb0.size ?_; intro w1 ho1 hg1)
  generalize w.alloc (.cells #[.int .i64 K, .slice A xs.length c] 27) = W0 at *
  have hb01 : Below W0.heap.size W0 w1 := below_grown hg1 (Nat.le_refl _) (by simp)
  have hlt1 : w.heap.size + 1 < w1.heap.size := by
    have := (ho1.lt (w.heap.size + 1) (by rw [← hW0]; rfl)).2
    omega
  rw [hW0] at ho1
  have ho2 := own_below ho1 (bnew (Below.refl w1.heap.size w1) (.cells #[.int .i64 s] 3))
  have hq2 : QRow (w1.alloc (.cells #[.int .i64 s] 3)) w1.heap.size 3 (some ⟨w1.heap.size, 0, none⟩) 1 1 (intCells [s]) := QRow.own (own_lit (e := 3) (size := 1) (B := w1.heap.size) (w := w1) #[.int .i64 s] 1 (Nat.le_refl _) (by unfold maxLen; omega) rfl)
  have hb2 := bnew hb01 (.cells #[.int .i64 s] 3)
  have hsz2 : w1.heap.size ≤ (w1.alloc (.cells #[.int .i64 s] 3)).heap.size := by simp
  have hrep : List.replicate K (Value.bool false) = bCells (List.replicate K false) := by simp [bCells]
  rw [hrep] at ho2
  clear ho1 hg1 hb01 hrep
  generalize w1.alloc (.cells #[.int .i64 s] 3) = w2 at *
  generalize hBq : w1.heap.size = Bq at *
  go_loopg [6] (K + 1) (fun gk q wr => ∃ (A' : Option Addr) (c' : Nat) (out : List Bool) (Q : List Int), q = .slice A' Q.length c' ∧ Hid (Bfs xs s K out Q) ∧ Hid (Q.length + falses out ≤ gk) ∧ gk ≤ K + 1 ∧ QRow wr Bq 3 A' Q.length c' (intCells Q) ∧ wr.ownsRow w.heap.size 4 1 (.slice (some ⟨w.heap.size + 1, 0, none⟩) K K) K (bCells out) ∧ Below W0.heap.size W0 wr ∧ Bq ≤ wr.heap.size)
  case atStart => exact ⟨some ⟨Bq, 0, none⟩, 1, List.replicate K false, [s], rfl, HS, by show _ ≤ _; rw [HF0.out]; simp; omega, Nat.le_refl _, hq2, ho2, hb2, hsz2⟩
  case round =>
    obtain ⟨A', c', out, Q, rfl, HB, HM, hgk, hq, ho, hb, hsz⟩ := hrel
    clear HS HF0 hq2 ho2 hb2 hsz2
    cases Q with
    | nil =>
      have HE := Lib.hid (bfs_end HB.out)
      clear HB HM
      go_wp2
      exact bodyPost_ret (v := .slice (some ⟨w.heap.size + 1, 0, none⟩) K K) (by simp [results, Try.results61, go_sem]) rfl ⟨_, rfl, by rw [← HE.out]; exact ho, btr hb0 hb⟩
    | cons v Q0 =>
      have hq0 : 0 < Q0.length + 1 := by omega
      rw [List.length_cons] at hq ⊢
      have HM' : Hid ((Q0.length + 1) + falses out ≤ gk) := HM.out
      have m0r := cell_below' m0 hb
      have m1r := cell_below' m1 hb
      go_wp2_with fail
      obtain ⟨wo, hwo⟩ : ∃ q, q = wr := ⟨_, rfl⟩
      subst hwo
      go_loopw [6, 22] (fun q i wr => ∃ j : Nat, ∃ (A' : Option Addr) (c' : Nat) (out : List Bool) (Q' : List Int), j ≤ xs.length ∧ i = .int .i64 j ∧ q = .slice A' (Q'.length + 1) c' ∧ Hid (Bfs xs s K out (v :: Q')) ∧ Hid (∀ x ∈ xs.take j, x.a = v → Tr out x.b) ∧ Hid ((Q'.length + 1) + falses out ≤ gk) ∧ QRow wr Bq 3 A' (Q'.length + 1) c' (intCells (v :: Q')) ∧ wr.ownsRow w.heap.size 4 1 (.slice (some ⟨w.heap.size + 1, 0, none⟩) K K) K (bCells out) ∧ Below W0.heap.size W0 wr ∧ Bq ≤ wr.heap.size) (fun _ i _ => xs.length - (intOf i).toNat)
      case atStart => exact ⟨0, A', c', out, Q0, by omega, rfl, rfl, HB, by show ∀ x ∈ xs.take 0, _; simp, HM', hq, ho, hb, hsz⟩
      case round =>
        clear HB HM HM' hq ho hb hsz hq0 m0r m1r
        obtain ⟨j, A', c', out, Q', hj, rfl, rfl, HB, HD, HM, hq, ho, hb, hsz⟩ := hrel
        have hQ9 : Q'.length + 1 ≤ 9 := by have := HM.out; omega
        by_cases hjl : j < xs.length
        · obtain ⟨b, off, rfl, c0, c1⟩ := Rd.pr (hx0.below hb) hjl
          obtain ⟨x, hxe⟩ : ∃ x, x = xs[j] := ⟨_, rfl⟩
          have hxm : x ∈ xs := by rw [hxe]; exact List.getElem_mem hjl
          have hxin := HIN.out x hxm
          have HXM := Lib.hid hxm
          have HD2 : Hid ((x.a = v → Tr out x.b) → ∀ y ∈ xs.take (j + 1), y.a = v → Tr out y.b) := fun h y hy => by
            rw [List.take_succ_eq_append_getElem hjl, ← hxe] at hy
            rcases List.mem_append.1 hy with hy | hy
            · exact HD.out y hy
            · simp only [List.mem_singleton] at hy; subst hy; exact h
          have HD3 : Hid (∀ o2 : List Bool, (∀ b, Tr out b → Tr o2 b) → Tr o2 x.b → ∀ y ∈ xs.take (j + 1), y.a = v → Tr o2 y.b) := fun o2 hm hn y hy e => by
            rw [List.take_succ_eq_append_getElem hjl, ← hxe] at hy
            rcases List.mem_append.1 hy with hy | hy
            · exact hm _ (HD.out y hy e)
            · simp only [List.mem_singleton] at hy; subst hy; exact hn
          rw [← hxe] at c0 c1
          clear hxe HD hxm
          obtain ⟨xa, xb⟩ := x
          simp only at c0 c1 hxin
          obtain ⟨kb, rfl⟩ : ∃ kb : Nat, xb = (kb : Int) := ⟨xb.toNat, by omega⟩
          have hkb : kb < K := by omega
          have hlen := HB.out.len
          have hkl : kb < out.length := by omega
          obtain ⟨bq, oq, rfl, q0⟩ := Rd.ints hq.rd (k := 0) (by simp)
          simp only [List.getElem_cons_zero, Nat.add_zero] at q0
          have hbw := bnew (Below.refl wr.heap.size wr) (.cells #[.int .i64 xa, .int .i64 kb] 52)
          have n0 : (wr.alloc (.cells #[.int .i64 xa, .int .i64 kb] 52)).cell? ⟨wr.heap.size, 0, none⟩ = some (.int .i64 xa) := (World.cell?_alloc_at _ _ _ _ rfl).trans rfl
          have n1 : (wr.alloc (.cells #[.int .i64 xa, .int .i64 kb] 52)).cell? ⟨wr.heap.size, 1, none⟩ = some (.int .i64 kb) := (World.cell?_alloc_at _ _ _ _ rfl).trans rfl
          replace q0 := cell_below' q0 hbw
          replace hq := hq.below hbw
          replace ho := own_below ho hbw
          have hszr := Nat.lt_of_lt_of_le hlt1 hsz
          replace hsz := Nat.le_trans hsz hbw.size
          have hbn := btr hb hbw
          have hjI : (j : Int) < (xs.length : Int) := by omega
          have hkbI : (kb : Int) < (K : Int) := by omega
          go_wp2_with fail
          generalize wr.alloc (.cells #[.int .i64 xa, .int .i64 kb] 52) = wN at *
          clear c0 c1 hb hxin
          have fb : wN.cell? ⟨w.heap.size + 1, kb, none⟩ = some (.bool out[kb]) := by
            rw [own_cell ho (by rw [bCells_len]; omega)]; simp [bCells]
          have g0 := cell_after n0
          have g1 := cell_after n1
          have gq := cell_after q0
          by_cases hv : xa = v
          · have hv' : (xa == v) = true := by simp [hv]
            by_cases hf : out[kb] = true
            · have HD4 := Lib.hid (HD2.out (fun _ => tr_get hkl hf))
              rw [hf] at fb
              have gf := cell_after fb
              clear HD2 HD3 fb
              refine wp_region_after (by kernel_rfl) (by kernel_rfl) ?_
              repeat (go_big_quiet_step (fail))
              refine wpQuiet_nil ?_
              intro nq
              go_wp2
              go_roundw
              case rel => exact ⟨j + 1, some ⟨bq, oq, none⟩, c', out, Q', by omega, by go_num, rfl, HB, HD4, HM, hq.below nq.bel, own_below ho nq.bel, btr hbn nq.bel, Nat.le_trans hsz nq.bel.size⟩
              case measure => simp [intOf]; omega
            · have hf' : out[kb] = false := by simpa using hf
              have hfg : out[kb]? = some false := by rw [List.getElem?_eq_getElem hkl, hf']
              have HBn : Hid (Bfs xs s K (out.set kb true) (v :: (Q' ++ [(kb : Int)]))) := bfs_put HB.out HXM.out (by simp [hv]) hkb rfl
              have HDn : Hid (∀ y ∈ xs.take (j + 1), y.a = v → Tr (out.set kb true) y.b) := HD3.out _ (fun b hb' => (tr_set hkl).2 (.inr hb')) ((tr_set hkl).2 (.inl rfl))
              have HMn : Hid (((Q' ++ [(kb : Int)]).length + 1) + falses (out.set kb true) ≤ gk) := by
                have h1 := falses_set hfg
                have h2 := HM.out
                show _ ≤ _
                simp only [List.length_append, List.length_cons, List.length_nil]; omega
              rw [hf'] at fb
              have gf := cell_after fb
              clear HD2 HD3 HB HM hfg hf hf' fb
              refine wp_region_after (by kernel_rfl) (by kernel_rfl) ?_
              repeat (go_big_quiet_step (fail))
              refine wpQuiet_nil ?_
              intro nq
              have e1 := cell_below' n1 nq.bel
              replace hq := hq.below nq.bel
              replace ho := own_below ho nq.bel
              replace hbn := btr hbn nq.bel
              replace hsz := Nat.le_trans hsz nq.bel.size
              clear g0 g1 gq gf n0 n1 q0
              generalize nq.val = wq at *
              clear nq
              obtain ⟨u2, f2⟩ := own_some ho kb (by omega)
              have z2 := ho.frozenAt kb
              have ho3 := own_set ho kb (.bool true)
              rw [bCells_set] at ho3
              have hg3 : wq.grownBy (wq.setCell ⟨w.heap.size + 1, kb, none⟩ (.bool true)) (some (w.heap.size + 1)) := grown_set (World.grownBy.refl wq (some (w.heap.size + 1))) kb _
              have hq3 := hq.grown hg3 (fun k hk => by cases hk; exact hlt1)
              have hb3 : Below W0.heap.size W0 (wq.setCell ⟨w.heap.size + 1, kb, none⟩ (.bool true)) := hbn.setCell (by simp; omega) _
              have hneb : wr.heap.size ≠ w.heap.size + 1 := by omega
              have e3 : (wq.setCell ⟨w.heap.size + 1, kb, none⟩ (.bool true)).cell? ⟨wr.heap.size, 1, none⟩ = some (.int .i64 kb) := hg3.cell e1 (by simpa using hneb)
              have hsz3 : Bq ≤ (wq.setCell ⟨w.heap.size + 1, kb, none⟩ (.bool true)).heap.size := Nat.le_trans hsz hg3.size
              clear hq ho hbn hg3 hneb
              have hb4 := bnew hb3 (.cells #[.int .i64 kb] 3)
              have ho4 := own_below ho3 (bnew (Below.refl _ _) (.cells #[.int .i64 kb] 3))
              have hq4 := hq3.below (bnew (Below.refl _ _) (.cells #[.int .i64 kb] 3))
              have hsz4 : Bq ≤ ((wq.setCell ⟨w.heap.size + 1, kb, none⟩ (.bool true)).alloc (.cells #[.int .i64 kb] 3)).heap.size := by simp; simp at hsz3; omega
              have hrd : Rd ((wq.setCell ⟨w.heap.size + 1, kb, none⟩ (.bool true)).alloc (.cells #[.int .i64 kb] 3)) (some ⟨wq.heap.size, 0, none⟩) [.int .i64 kb] := by
                have := Rd.made (w := wq.setCell ⟨w.heap.size + 1, kb, none⟩ (.bool true)) (cs := #[.int .i64 kb]) (t := 3)
                simpa using this
              clear hb3 hq3 ho3 hsz3 hsz
              go_wp2_with (at_builtin; go_must (refine wpl_qapp rfl (.tmp 44) (.tmp 47) 33 rfl el_Int rfl hq4 rfl hrd rfl (by unfold maxLen; omega) (by omega) hsz4 ?_); intro A5 c5 w5 hq5 hb5; have ho5 := own_low ho4 hb5 (fun k hk => by cases hk; exact hlt1); have hb6 := hb4.trans (hb5.mono (Nat.le_trans (Nat.le_of_eq hW0) (Nat.le_of_lt hlt1))); have hsz5 := Nat.le_trans hsz4 hb5.size)
              clear hb4 hq4 ho4 hsz4 hrd
              go_roundw
              case rel => exact ⟨j + 1, A5, c5, out.set kb true, Q' ++ [(kb : Int)], by omega, by go_num, by simp, HBn, HDn, HMn, by (have := hq5; simpa [intCells] using this), ho5, hb6, hsz5⟩
              case measure => simp [intOf]; omega
          · have hv' : (xa == v) = false := by simp [hv]
            have HD4 := Lib.hid (HD2.out (fun e => absurd e hv))
            clear HD2 HD3 fb hv
            refine wp_region_after (by kernel_rfl) (by kernel_rfl) ?_
            repeat (go_big_quiet_step (fail))
            refine wpQuiet_nil ?_
            intro nq
            go_wp2
            go_roundw
            case rel => exact ⟨j + 1, some ⟨bq, oq, none⟩, c', out, Q', by omega, by go_num, rfl, HB, HD4, HM, hq.below nq.bel, own_below ho nq.bel, btr hbn nq.bel, Nat.le_trans hsz nq.bel.size⟩
            case measure => simp [intOf]; omega
        · have HBn : Hid (Bfs xs s K out Q') := bfs_drop HB.out (by have := HD.out; rwa [List.take_of_length_le (by omega)] at this)
          have hcge : Q'.length + 1 ≤ c' := by obtain ⟨g, off, L, _, _, _, _, h5, _⟩ := hq; exact h5
          have hqn := hq.cut (by omega)
          have HMn := HM.out
          obtain ⟨bq, oq, rfl, _⟩ := Rd.ints hq.rd (k := 0) (by simp)
          have hqn2 : QRow wr Bq 3 (cutA (some ⟨bq, oq, none⟩) c' 1 1) Q'.length (c' - 1) (intCells Q') := hqn
          clear HB HD HM hqn hq
          by_cases hc1 : c' = 1
          · subst hc1
            obtain rfl : Q' = [] := List.eq_nil_of_length_eq_zero (by omega)
            rw [show cutA (some ⟨bq, oq, none⟩) 1 1 1 = some ⟨bq, oq, none⟩ by simp [cutA]] at hqn2
            go_wp2_with fail
            go_roundg (gk - 1)
            case measure => omega
            case rel => exact ⟨some ⟨bq, oq, none⟩, 0, out, [], rfl, HBn, by show _ ≤ _; simp at HMn ⊢; omega, by omega, hqn2, ho, hb, hsz⟩
          · rw [show cutA (some ⟨bq, oq, none⟩) c' 1 1 = some ⟨bq, oq + 1, none⟩ by simp [cutA, hc1, Addr.add]] at hqn2
            go_wp2_with fail
            go_roundg (gk - 1)
            case measure => omega
            case rel => exact ⟨some ⟨bq, oq + 1, none⟩, c' - 1, out, Q', rfl, HBn, by show _ ≤ _; omega, by omega, hqn2, ho, hb, hsz⟩
end Go.Proofs.Ytdbcbaahjhaonaa
