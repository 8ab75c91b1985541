/-
  The library's sort at Member, at 12 elements or fewer. Conditions: lengths within Go's range.
-/
import Derived.Test.YtngheildmhimoaaGreatDoorStrMem
import Derived.Lib.Bytealg
import Derived.Test.YtngheildmhimoaaGreatDoorSrt
import Derived.Test.YtngheildmhimoaaGreatDoorSrtL
namespace Go.Proofs.YtngheildmhimoaaGreatDoor
open Go.RowKit Go.My Go.Sort
open Go.Lib in
theorem cmpstr_run (a b : ByteArray) (w : World) : (callFunc 94 #[.string a, .string b]).run Tryz.prog w = .ok (.value (.int .i64 (compareBytes a.data.toList b.data.toList))) w := by
  rw [run_callFunc_extern Tryz.func94 (by kernel_rfl) (by kernel_rfl) (by kernel_rfl) (e := Extern.BytealgCompare.compare) (by kernel_rfl), run_compareString]
  rfl
theorem cmpS_any (a b : ByteArray) (w : World) : Calls Tryz.prog 54 #[.string a, .string b] w fun e w' => e = .returned (.int .i64 (Lib.compareBytes a.data.toList b.data.toList)) ∧ w = w' := by
  have h := cmpstr_run a b
  have h2 : Calls Tryz.prog 73 #[.string a, .string b] w fun e w' => e = .returned (.int .i64 (Lib.compareBytes a.data.toList b.data.toList)) ∧ w = w' := by
    go_enter Tryz.func73, Tryz.ntmps73
    go_wp2
    go_ret
    exact ⟨rfl, rfl⟩
  clear h
  generalize Lib.compareBytes a.data.toList b.data.toList = v at *
  have H2 := Lib.hid h2
  clear h2
  go_enter Tryz.func54, Tryz.ntmps54
  go_wp2_with (go_at_call 73; refine H2.out.mono ?_; rintro e w1 ⟨rfl, rfl⟩)
  go_ret
  exact ⟨rfl, rfl⟩
set_option maxHeartbeats 4000000 in
theorem len64_small (n : Nat) (h : n ≤ 12) (w : World) : Calls Tryz.prog 93 #[.int .u64 n] w fun e w' => (∃ l : Int, e = .returned (.int .i64 l)) ∧ w = w' := by
  have hc : n = 0 ∨ n = 1 ∨ n = 2 ∨ n = 3 ∨ n = 4 ∨ n = 5 ∨ n = 6 ∨ n = 7 ∨ n = 8 ∨ n = 9 ∨ n = 10 ∨ n = 11 ∨ n = 12 := by omega
  clear h
  rcases hc with rfl | rfl | rfl | rfl | rfl | rfl | rfl | rfl | rfl | rfl | rfl | rfl | rfl <;>
  · go_enter Tryz.func93, Tryz.ntmps93
    go_wp2
    go_ret
    exact ⟨⟨_, rfl⟩, rfl⟩
theorem len_small (n : Nat) (h : n ≤ 12) (w : World) : Calls Tryz.prog 72 #[.int .u64 n] w fun e w' => (∃ l : Int, e = .returned (.int .i64 l)) ∧ w = w' := by
  have h2 := Lib.hid (len64_small n h w)
  go_enter Tryz.func72, Tryz.ntmps72
  go_wp2_with (go_at_call 93; refine h2.out.mono ?_; rintro e w1 ⟨⟨l, rfl⟩, rfl⟩)
  go_ret
  exact ⟨⟨_, rfl⟩, rfl⟩
def nameCf (x y : Mem) : Int := Lib.compareBytes x.name.data.toList y.name.data.toList
def nameLt : Mem → Mem → Bool := ltOf nameCf
instance : Inhabited Mem := ⟨⟨0, ⟨#[]⟩, 0⟩⟩
set_option maxHeartbeats 1000000 in
theorem nameCmp_any (x y : Mem) (w : World) : Calls Tryz.prog 53 #[.agg #[.int .i64 x.num, .string x.name, .int .i64 x.off], .agg #[.int .i64 y.num, .string y.name, .int .i64 y.off]] w fun e w' => e = .returned (.int .i64 (nameCf x y)) ∧ ∃ q os', w' = grow (w.drewN q) os' := by
  have HC : Hid (∀ w1, Calls Tryz.prog 54 #[.string x.name, .string y.name] w1 fun e w' => e = .returned (.int .i64 (nameCf x y)) ∧ w1 = w') := fun w1 => cmpS_any x.name y.name w1
  generalize nameCf x y = v at *
  go_enter Tryz.func53, Tryz.ntmps53
  go_wp2_with (go_at_call 54; refine (HC.out _).mono ?_; rintro e w1 ⟨rfl, rfl⟩)
  go_ret
  exact ⟨rfl, 0, _, by rw [alloc_eq_grow, alloc_eq_grow, grow_grow]; rfl⟩
set_option maxHeartbeats 1000000 in
theorem nameIns_any (A : Option Addr) (c B : Nat) (xs : List Mem) (w : World) (hn : xs.length ≤ 12) (ho : w.ownsRow B 54 3 (.slice A xs.length c) xs.length (memCells xs)) :
    Calls Tryz.prog 84 #[.slice A xs.length c, .int .i64 0, .int .i64 xs.length, .func (.func 53) #[] #[]] w fun e w' => e = .returned (.tuple #[]) ∧ w'.ownsRow B 54 3 (.slice A xs.length c) xs.length (memCells (sortS nameLt xs)) ∧ w.grownBy w' (Value.slice A xs.length c).ownBlock := by
  by_cases h0 : xs = []
  · subst h0
    have H := Lib.hid ho
    clear ho
    go_enter Tryz.func84, Tryz.ntmps84
    go_wp2
    refine wp_loop_rounds 1 ?_
    rw [rounds_succ]
    go_wp2
    go_end0
    exact ⟨rfl, H.out, ⟨rfl, rfl, rfl, Nat.le_refl _, fun _ _ _ => rfl⟩⟩
  · have hp : 0 < xs.length := List.length_pos_iff.2 h0
    obtain ⟨g, rfl, _, _⟩ := own_at ho hp
    obtain ⟨L, hb, hl, ht, hB, hnc, hcm⟩ := own_blk' ho
    have eg : ∀ args w, (callFunc 53 args).run Tryz.prog w = .ok (.enter 53 args) w := enters_of Tryz.func53 (by kernel_rfl) rfl
    have hcon := AnyQ.insertionSortCmpFunc Tryz.ins84 3 Tryz.isAgg54 Tryz.sizeOf54 Mem.cells (fun _ => rfl) Mem.cells_one nameCf 53 #[] g 0 c 0 xs.length xs.toArray w eg (fun _ _ _ _ x y => nameCmp_any x y _) (holdsK_blk hb Mem.cells 3 (fun _ => rfl) ht) hb.lt (Nat.zero_le _) (by simp) (by simp; omega)
    refine hcon.mono ?_
    rintro e w' ⟨rfl, n, os, rfl⟩
    have hd : (insertionSort (ltOf nameCf) xs.toArray 0 xs.length).toList = sortS nameLt xs := insertionSort_list _ xs
    generalize insertionSort (ltOf nameCf) xs.toArray 0 xs.length = d at *
    have hds : d.size = xs.length := by rw [← sortS_len nameLt xs, ← hd]; simp
    have hle : d.size * 3 ≤ L.length := by rw [hl, hds]; exact Nat.mul_le_mul_right _ hnc
    have hbs := blk_sorted (n := n) hb Mem.cells (fun _ => rfl) d os hle
    have hown := Blk.own hbs hB hnc hcm (size := 3) (by rw [List.length_append, flat_length Mem.cells 3 (fun _ => rfl), List.length_drop]; simp only [Array.length_toList]; omega)
    rw [List.take_left' (by rw [flat_length Mem.cells 3 (fun _ => rfl)]; simp [hds]), hd] at hown
    exact ⟨rfl, hown, grown_sorted _ _ _⟩
set_option maxHeartbeats 2000000 in
set_option maxRecDepth 100000 in
theorem namePdq_any (A : Option Addr) (c B : Nat) (xs : List Mem) (w : World) (l : Int) (hn : xs.length ≤ 12) (ho : w.ownsRow B 54 3 (.slice A xs.length c) xs.length (memCells xs)) :
    Calls Tryz.prog 71 #[.slice A xs.length c, .int .i64 0, .int .i64 xs.length, .int .i64 l, .func (.func 53) #[] #[]] w fun e w' => e = .returned (.tuple #[]) ∧ w'.ownsRow B 54 3 (.slice A xs.length c) xs.length (memCells (sortS nameLt xs)) ∧ w.grownBy w' (Value.slice A xs.length c).ownBlock := by
  have hi := Lib.hid (nameIns_any A c B xs w hn ho)
  clear ho
  generalize memCells (sortS nameLt xs) = ys at *
  have h12 : (xs.length : Int) ≤ 12 := by omega
  go_enter Tryz.func71, Tryz.ntmps71
  go_wp2
  refine wp_loop_rounds 1 ?_
  rw [rounds_succ]
  go_wp2_with (go_at_call 84; refine hi.out.mono ?_; rintro e w1 ⟨rfl, h1, h2⟩)
  (try simp only [Exit.inBlock, Exit.then])
  refine bodyPost_ret (results_none rfl _ _ _) rfl ?_
  exact ⟨rfl, h1, h2⟩
set_option maxHeartbeats 2000000 in
theorem nameSort_any (A : Option Addr) (c B : Nat) (xs : List Mem) (w : World) (hn : xs.length ≤ 12) (ho : w.ownsRow B 54 3 (.slice A xs.length c) xs.length (memCells xs)) :
    Calls Tryz.prog 52 #[.slice A xs.length c, .func (.func 53) #[] #[]] w fun e w' => e = .returned (.tuple #[]) ∧ w'.ownsRow B 54 3 (.slice A xs.length c) xs.length (memCells (sortS nameLt xs)) ∧ w.grownBy w' (Value.slice A xs.length c).ownBlock := by
  have hi : Hid (∀ l : Int, _) := fun l => namePdq_any A c B xs w l hn ho
  have hl := Lib.hid (len_small xs.length hn w)
  clear ho
  generalize memCells (sortS nameLt xs) = ys at *
  go_enter Tryz.func52, Tryz.ntmps52
  go_wp2_with (first | (go_at_call 72; refine hl.out.mono ?_; rintro e w1 ⟨⟨l, rfl⟩, rfl⟩) | (go_at_call 71; refine (hi.out l).mono ?_; rintro e w1 ⟨rfl, h1, h2⟩))
  go_end0
  exact ⟨rfl, h1, h2⟩
end Go.Proofs.YtngheildmhimoaaGreatDoor
