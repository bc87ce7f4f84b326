/- The contract of slices.SortFunc at 12 elements of one cell, or fewer, and a comparison that may make memory. -/
import Derived.Test.YtgdagknjnidmiaaGreatDoorMem
import Derived.Test.YtgdagknjnidmiaaGreatDoorShelf
set_option linter.unusedVariables false
namespace Go.Proofs.YtgdagknjnidmiaaGreatDoor
open Go.RowKit Go.Shelf Go.Lib Go.Sort

theorem sw_start {α : Type} [Inhabited α] {enc : α → Value} {blk off : Nat} {d : Array α} {w : World} (h : Holds enc w blk off d) : SW enc w blk off d w := by
  refine ⟨0, #[], ?_⟩
  unfold sortWorld
  rw [grow_empty]
  exact (putRow_self enc w blk off d h).symm

set_option maxRecDepth 100000 in
theorem pdqCmp_small {α : Type} [Inhabited α] (enc : α → Value) (cf : α → α → Int) (g : Nat) (cb : Array Value) (blk off cap n : Nat) (l : Int) (d : Array α) (w : World)
    (eg : ∀ args w, (callFunc g args).run Tryz.prog w = .ok (.enter g args) w) (hcmp : CmpLays1 Tryz.prog g cb enc cf blk off d.size w) (R : Row1 enc w blk off d) (hn : d.size = n) (hn1 : n ≤ 12) :
    Calls Tryz.prog 139 #[.slice (some ⟨blk, off, none⟩) n cap, .int .i64 0, .int .i64 n, .int .i64 l, .func (.func g) #[] cb] w fun e w' => e = .returned (.tuple #[]) ∧ SW enc w blk off (Sort.insertionSort (ltOf cf) d 0 n) w' := by
  subst hn
  have C0 := Tryz.insertionSortCmpFunc_s enc cf g cb blk off cap 0 d.size d d w w eg hcmp R rfl (sw_start R.hH) (Nat.zero_le _) (Nat.le_refl _) (by omega)
  rw [show ((0 : Nat) : Int) = 0 from rfl] at C0
  have C := Lib.hid C0
  clear C0 hcmp R eg
  generalize d.size = n at *
  go_enter Tryz.func139, Tryz.ntmps139
  go_wp2_with fail
  refine wp_loop_rounds 1 ?_
  rw [rounds_succ]
  go_wp2_with fail
  with_reducible refine C.out.mono ?_
  rintro e w' ⟨rfl, hS⟩
  have HS := Lib.hid hS
  clear hS
  go_wp2
  refine bodyPost_ret (results_none rfl _ _ _) rfl ?_
  exact ⟨rfl, HS.out⟩
theorem sortFunc_small {α : Type} [Inhabited α] (enc : α → Value) (cf : α → α → Int) (g : Nat) (cb : Array Value) (blk off cap n : Nat) (d : Array α) (w : World)
    (eg : ∀ args w, (callFunc g args).run Tryz.prog w = .ok (.enter g args) w) (hcmp : CmpLays1 Tryz.prog g cb enc cf blk off d.size w) (R : Row1 enc w blk off d) (hn : d.size = n) (hn1 : n ≤ 12) :
    Calls Tryz.prog 109 #[.slice (some ⟨blk, off, none⟩) n cap, .func (.func g) #[] cb] w fun e w' => e = .returned (.tuple #[]) ∧ SW enc w blk off (Sort.insertionSort (ltOf cf) d 0 n) w' := by
  have C := Lib.hid (fun l => pdqCmp_small enc cf g cb blk off cap n l d w eg hcmp R hn hn1)
  have C2 := Lib.hid (Tryz.bits_Len n w (by omega) (by omega))
  clear hcmp R eg hn
  go_enter Tryz.func109, Tryz.ntmps109
  go_wp2_with fail
  with_reducible refine C2.out.mono ?_
  rintro e w' ⟨rfl, hw⟩
  rw [hw]
  clear hw w'
  go_wp2_with fail
  with_reducible refine (C.out _).mono ?_
  rintro e w' ⟨rfl, hS⟩
  have HS := Lib.hid hS
  clear hS
  go_wp2
  go_end0
  exact ⟨rfl, HS.out⟩
end Go.Proofs.YtgdagknjnidmiaaGreatDoor
