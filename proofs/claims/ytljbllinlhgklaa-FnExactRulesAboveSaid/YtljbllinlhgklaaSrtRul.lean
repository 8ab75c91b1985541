/-
  The library's sort at Rule, at 8 elements or fewer. Conditions: lengths within Go's range.
-/
import Derived.Test.YtljbllinlhgklaaStrRul
import Derived.Test.YtljbllinlhgklaaSrt
import Derived.Test.YtljbllinlhgklaaSrtL
namespace Go.Proofs.Ytljbllinlhgklaa
open Go.RowKit Go.My Go.Sort
theorem isNaNI_any (x : Int) (w : World) : Calls Try.prog 47 #[.int .i64 x] w fun e w' => e = .returned (.bool false) ∧ w = w' := by
  go_enter Try.func47, Try.ntmps47
  go_wp2
  go_ret
  exact ⟨rfl, rfl⟩
def cmpI (a b : Int) : Int := if a < b then -1 else if b < a then 1 else 0
set_option maxHeartbeats 1000000 in
theorem cmpI_any (a b : Int) (w : World) : Calls Try.prog 37 #[.int .i64 a, .int .i64 b] w fun e w' => e = .returned (.int .i64 (cmpI a b)) ∧ w = w' := by
  by_cases h1 : a < b
  · have HE : Hid (cmpI a b = -1) := if_pos h1
    go_enter Try.func37, Try.ntmps37
    go_wp2_with (go_at_call 47; refine (isNaNI_any _ _).mono ?_; rintro e w1 ⟨rfl, rfl⟩)
    go_ret
    exact ⟨by rw [HE.out]; rfl, rfl⟩
  · by_cases h2 : b < a
    · have HE : Hid (cmpI a b = 1) := (if_neg h1).trans (if_pos h2)
      go_enter Try.func37, Try.ntmps37
      go_wp2_with (go_at_call 47; refine (isNaNI_any _ _).mono ?_; rintro e w1 ⟨rfl, rfl⟩)
      go_ret
      exact ⟨by rw [HE.out]; rfl, rfl⟩
    · have HE : Hid (cmpI a b = 0) := (if_neg h1).trans (if_neg h2)
      go_enter Try.func37, Try.ntmps37
      go_wp2_with (go_at_call 47; refine (isNaNI_any _ _).mono ?_; rintro e w1 ⟨rfl, rfl⟩)
      go_ret
      exact ⟨by rw [HE.out]; rfl, rfl⟩
def rankCf (x y : Rul) : Int := cmpI y.rank x.rank
def rankLt : Rul → Rul → Bool := ltOf rankCf
instance : Inhabited Rul := ⟨⟨0, ⟨#[]⟩, 0, false, false, false, 0⟩⟩
set_option maxHeartbeats 1000000 in
theorem rankCmp_any (x y : Rul) (w : World) : Calls Try.prog 36 #[.agg #[.int .i64 x.id, .string x.name, .int .i64 x.rank, .bool x.sec, .bool x.deb, .bool x.am, .int .i64 x.need], .agg #[.int .i64 y.id, .string y.name, .int .i64 y.rank, .bool y.sec, .bool y.deb, .bool y.am, .int .i64 y.need]] w fun e w' => e = .returned (.int .i64 (rankCf x y)) ∧ ∃ q os', w' = grow (w.drewN q) os' := by
  have HC : Hid (∀ w1, Calls Try.prog 37 #[.int .i64 y.rank, .int .i64 x.rank] w1 fun e w' => e = .returned (.int .i64 (rankCf x y)) ∧ w1 = w') := fun w1 => cmpI_any y.rank x.rank w1
  generalize rankCf x y = v at *
  go_enter Try.func36, Try.ntmps36
  go_wp2_with (go_at_call 37; refine (HC.out _).mono ?_; rintro e w1 ⟨rfl, rfl⟩)
  go_ret
  exact ⟨rfl, 0, _, by rw [alloc_eq_grow, alloc_eq_grow, grow_grow]; rfl⟩
set_option maxHeartbeats 1000000 in
theorem rankIns_any (A : Option Addr) (c B : Nat) (xs : List Rul) (w : World) (hn : xs.length ≤ 8) (ho : w.ownsRow B 35 7 (.slice A xs.length c) xs.length (rulCells xs)) :
    Calls Try.prog 52 #[.slice A xs.length c, .int .i64 0, .int .i64 xs.length, .func (.func 36) #[] #[]] w fun e w' => e = .returned (.tuple #[]) ∧ w'.ownsRow B 35 7 (.slice A xs.length c) xs.length (rulCells (sortS rankLt xs)) ∧ w.grownBy w' (Value.slice A xs.length c).ownBlock := by
  by_cases h0 : xs = []
  · subst h0
    have H := Lib.hid ho
    clear ho
    go_enter Try.func52, Try.ntmps52
    go_wp2
    refine wp_loop_rounds 1 ?_
    rw [rounds_succ]
    go_wp2
    go_end0
    exact ⟨rfl, H.out, ⟨rfl, rfl, rfl, Nat.le_refl _, fun _ _ _ => rfl⟩⟩
  · have hp : 0 < xs.length := List.length_pos_iff.2 h0
    obtain ⟨g, rfl, _, _⟩ := own_at ho hp
    obtain ⟨L, hb, hl, ht, hB, hnc, hcm⟩ := own_blk' ho
    have eg : ∀ args w, (callFunc 36 args).run Try.prog w = .ok (.enter 36 args) w := enters_of Try.func36 (by kernel_rfl) rfl
    have hcon := AnyQ.insertionSortCmpFunc Try.ins52 7 Try.isAgg35 Try.sizeOf35 Rul.cells (fun _ => rfl) Rul.cells_one rankCf 36 #[] g 0 c 0 xs.length xs.toArray w eg (fun _ _ _ _ x y => rankCmp_any x y _) (holdsK_blk hb Rul.cells 7 (fun _ => rfl) ht) hb.lt (Nat.zero_le _) (by simp) (by simp; omega)
    refine hcon.mono ?_
    rintro e w' ⟨rfl, n, os, rfl⟩
    have hd : (insertionSort (ltOf rankCf) xs.toArray 0 xs.length).toList = sortS rankLt xs := insertionSort_list _ xs
    generalize insertionSort (ltOf rankCf) xs.toArray 0 xs.length = d at *
    have hds : d.size = xs.length := by rw [← sortS_len rankLt xs, ← hd]; simp
    have hle : d.size * 7 ≤ L.length := by rw [hl, hds]; exact Nat.mul_le_mul_right _ hnc
    have hbs := blk_sorted (n := n) hb Rul.cells (fun _ => rfl) d os hle
    have hown := Blk.own hbs hB hnc hcm (size := 7) (by rw [List.length_append, flat_length Rul.cells 7 (fun _ => rfl), List.length_drop]; simp only [Array.length_toList]; omega)
    rw [List.take_left' (by rw [flat_length Rul.cells 7 (fun _ => rfl)]; simp [hds]), hd] at hown
    exact ⟨rfl, hown, grown_sorted _ _ _⟩
set_option maxHeartbeats 1000000 in
theorem rankStb_any (A : Option Addr) (c B : Nat) (xs : List Rul) (w : World) (hn : xs.length ≤ 8) (ho : w.ownsRow B 35 7 (.slice A xs.length c) xs.length (rulCells xs)) :
    Calls Try.prog 46 #[.slice A xs.length c, .int .i64 xs.length, .func (.func 36) #[] #[]] w fun e w' => e = .returned (.tuple #[]) ∧ w'.ownsRow B 35 7 (.slice A xs.length c) xs.length (rulCells (sortS rankLt xs)) ∧ w.grownBy w' (Value.slice A xs.length c).ownBlock := by
  have hi := Lib.hid (rankIns_any A c B xs w hn ho)
  clear ho
  generalize rulCells (sortS rankLt xs) = ys at *
  have h20 : ¬ (20 : Int) ≤ (xs.length : Int) := by omega
  have h20' : ¬ (20 : Int) < (xs.length : Int) := by omega
  go_enter Try.func46, Try.ntmps46
  go_wp2
  refine wp_loop_rounds 1 ?_
  rw [rounds_succ]
  go_wp2_with (go_at_call 52; refine hi.out.mono ?_; rintro e w1 ⟨rfl, h1, h2⟩)
  refine wp_loop_rounds 1 ?_
  rw [rounds_succ]
  go_wp2
  go_end0
  exact ⟨rfl, h1, h2⟩
set_option maxHeartbeats 1000000 in
theorem rankSort_any (A : Option Addr) (c B : Nat) (xs : List Rul) (w : World) (hn : xs.length ≤ 8) (ho : w.ownsRow B 35 7 (.slice A xs.length c) xs.length (rulCells xs)) :
    Calls Try.prog 35 #[.slice A xs.length c, .func (.func 36) #[] #[]] w fun e w' => e = .returned (.tuple #[]) ∧ w'.ownsRow B 35 7 (.slice A xs.length c) xs.length (rulCells (sortS rankLt xs)) ∧ w.grownBy w' (Value.slice A xs.length c).ownBlock := by
  have hi := Lib.hid (rankStb_any A c B xs w hn ho)
  clear ho
  generalize rulCells (sortS rankLt xs) = ys at *
  go_enter Try.func35, Try.ntmps35
  go_wp2_with (go_at_call 46; refine hi.out.mono ?_; rintro e w1 ⟨rfl, h1, h2⟩)
  go_end0
  exact ⟨rfl, h1, h2⟩
end Go.Proofs.Ytljbllinlhgklaa
