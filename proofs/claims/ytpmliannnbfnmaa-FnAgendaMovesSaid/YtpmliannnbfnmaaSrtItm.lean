/-
  The library's stable sort of agenda items by their time, at 10 items or fewer. Conditions: lengths within Go's range.
-/
import Derived.Test.YtpmliannnbfnmaaItm
import Derived.Test.YtpmliannnbfnmaaSrt
import Derived.Test.YtpmliannnbfnmaaSrtL
namespace Go.Proofs.Ytpmliannnbfnmaa
open Go.RowKit Go.My Go.Sort
def timeCf (x y : Itm) : Int := wrap64 (x.time - y.time)
def timeLt : Itm → Itm → Bool := ltOf timeCf
instance : Inhabited Itm := ⟨⟨0, ⟨#[]⟩, 0, 0⟩⟩
theorem cmpI_any (x y : Itm) (w : World) : Calls Try.prog 39 #[.agg #[.int .i64 x.id, .string x.title, .int .i64 x.mins, .int .i64 x.time], .agg #[.int .i64 y.id, .string y.title, .int .i64 y.mins, .int .i64 y.time]] w fun e w' => e = .returned (.int .i64 (timeCf x y)) ∧ ∃ q os', w' = grow (w.drewN q) os' := by
  go_enter Try.func39, Try.ntmps39
  go_wp2
  go_ret
  exact ⟨rfl, 0, _, by rw [alloc_eq_grow, alloc_eq_grow, grow_grow]; rfl⟩
set_option maxHeartbeats 1000000 in
theorem insI_any (A : Option Addr) (c B : Nat) (xs : List Itm) (w : World) (hn : xs.length ≤ 10) (ho : w.ownsRow B 38 4 (.slice A xs.length c) xs.length (itmCells xs)) :
    Calls Try.prog 64 #[.slice A xs.length c, .int .i64 0, .int .i64 xs.length, .func (.func 39) #[] #[]] w fun e w' => e = .returned (.tuple #[]) ∧ w'.ownsRow B 38 4 (.slice A xs.length c) xs.length (itmCells (sortS timeLt xs)) ∧ w.grownBy w' (Value.slice A xs.length c).ownBlock := by
  by_cases h0 : xs = []
  · subst h0
    have H := Lib.hid ho
    clear ho
    go_enter Try.func64, Try.ntmps64
    go_wp2
    refine wp_loop_rounds 1 ?_
    rw [rounds_succ]
    go_wp2
    go_end0
    exact ⟨rfl, H.out, ⟨rfl, rfl, rfl, Nat.le_refl _, fun _ _ _ => rfl⟩⟩
  · have hp : 0 < xs.length := List.length_pos_iff.2 h0
    obtain ⟨g, rfl, _, _⟩ := own_at ho hp
    obtain ⟨L, hb, hl, ht, hB, hnc, hcm⟩ := own_blk' ho
    have eg : ∀ args w, (callFunc 39 args).run Try.prog w = .ok (.enter 39 args) w := enters_of Try.func39 (by kernel_rfl) rfl
    have hcon := AnyQ.insertionSortCmpFunc Try.ins64 4 Try.isAgg38 Try.sizeOf38 Itm.cells (fun _ => rfl) Itm.cells_one timeCf 39 #[] g 0 c 0 xs.length xs.toArray w eg (fun _ _ _ _ x y => cmpI_any x y _) (holdsK_blk hb Itm.cells 4 (fun _ => rfl) ht) hb.lt (Nat.zero_le _) (by simp) (by simp; omega)
    refine hcon.mono ?_
    rintro e w' ⟨rfl, n, os, rfl⟩
    have hd : (insertionSort (ltOf timeCf) xs.toArray 0 xs.length).toList = sortS timeLt xs := insertionSort_list _ xs
    generalize insertionSort (ltOf timeCf) xs.toArray 0 xs.length = d at *
    have hds : d.size = xs.length := by rw [← sortS_len timeLt xs, ← hd]; simp
    have hle : d.size * 4 ≤ L.length := by rw [hl, hds]; exact Nat.mul_le_mul_right _ hnc
    have hbs := blk_sorted (n := n) hb Itm.cells (fun _ => rfl) d os hle
    have hown := Blk.own hbs hB hnc hcm (size := 4) (by rw [List.length_append, flat_length Itm.cells 4 (fun _ => rfl), List.length_drop]; simp only [Array.length_toList]; omega)
    rw [List.take_left' (by rw [flat_length Itm.cells 4 (fun _ => rfl)]; simp [hds]), hd] at hown
    exact ⟨rfl, hown, grown_sorted _ _ _⟩
set_option maxHeartbeats 1000000 in
theorem stbI_any (A : Option Addr) (c B : Nat) (xs : List Itm) (w : World) (hn : xs.length ≤ 10) (ho : w.ownsRow B 38 4 (.slice A xs.length c) xs.length (itmCells xs)) :
    Calls Try.prog 59 #[.slice A xs.length c, .int .i64 xs.length, .func (.func 39) #[] #[]] w fun e w' => e = .returned (.tuple #[]) ∧ w'.ownsRow B 38 4 (.slice A xs.length c) xs.length (itmCells (sortS timeLt xs)) ∧ w.grownBy w' (Value.slice A xs.length c).ownBlock := by
  have hi := Lib.hid (insI_any A c B xs w hn ho)
  clear ho
  generalize itmCells (sortS timeLt xs) = ys at *
  have h20 : ¬ (20 : Int) ≤ (xs.length : Int) := by omega
  have h20' : ¬ (20 : Int) < (xs.length : Int) := by omega
  go_enter Try.func59, Try.ntmps59
  go_wp2
  refine wp_loop_rounds 1 ?_
  rw [rounds_succ]
  go_wp2_with (go_at_call 64; refine hi.out.mono ?_; rintro e w1 ⟨rfl, h1, h2⟩)
  refine wp_loop_rounds 1 ?_
  rw [rounds_succ]
  go_wp2
  go_end0
  exact ⟨rfl, h1, h2⟩
set_option maxHeartbeats 1000000 in
theorem sortI_any (A : Option Addr) (c B : Nat) (xs : List Itm) (w : World) (hn : xs.length ≤ 10) (ho : w.ownsRow B 38 4 (.slice A xs.length c) xs.length (itmCells xs)) :
    Calls Try.prog 38 #[.slice A xs.length c, .func (.func 39) #[] #[]] w fun e w' => e = .returned (.tuple #[]) ∧ w'.ownsRow B 38 4 (.slice A xs.length c) xs.length (itmCells (sortS timeLt xs)) ∧ w.grownBy w' (Value.slice A xs.length c).ownBlock := by
  have hi := Lib.hid (stbI_any A c B xs w hn ho)
  clear ho
  generalize itmCells (sortS timeLt xs) = ys at *
  go_enter Try.func38, Try.ntmps38
  go_wp2_with (go_at_call 59; refine hi.out.mono ?_; rintro e w1 ⟨rfl, h1, h2⟩)
  go_end0
  exact ⟨rfl, h1, h2⟩
end Go.Proofs.Ytpmliannnbfnmaa
