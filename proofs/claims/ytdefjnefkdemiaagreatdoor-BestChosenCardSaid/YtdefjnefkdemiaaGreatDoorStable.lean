/- The contract of slices.SortStableFunc at fewer than 20 elements of one cell. -/
import Derived.Test.YtdefjnefkdemiaaGreatDoorMem
import Derived.Test.YtdefjnefkdemiaaGreatDoorShelf
set_option linter.unusedVariables false
namespace Go.Proofs.YtdefjnefkdemiaaGreatDoor
open Go.RowKit Go.Shelf Go.Lib Go.Sort

theorem stableCmp_small {α : Type} [Inhabited α] (enc : α → Value) (hO : OneCell enc) (cf : α → α → Int) (g : Nat) (cb : Array Value) (blk off cap n : Nat) (d : Array α) (w : World)
    (eg : ∀ args w, (callFunc g args).run Tryz.prog w = .ok (.enter g args) w) (hcmp : CmpReads Tryz.prog g cb enc cf blk off d.size w) (hH : Holds enc w blk off d) (hn : d.size = n) (hn1 : n < 20) :
    Calls Tryz.prog 136 #[.slice (some ⟨blk, off, none⟩) n cap, .int .i64 n, .func (.func g) #[] cb] w fun e w' => e = .returned (.tuple #[]) ∧ ∃ m, w' = (putRow enc w blk off (Sort.insertionSort (ltOf cf) d 0 n)).drewN m := by
  subst hn
  have C0 := Tryz.insertionSortCmpFunc_one enc hO cf g cb blk off cap 0 d.size d w eg hcmp hH (Nat.zero_le _) (Nat.le_refl _) (by omega)
  rw [show ((0 : Nat) : Int) = 0 from rfl] at C0
  have C := Lib.hid C0
  clear C0
  clear hcmp hH eg
  generalize d.size = n at *
  go_enter Tryz.func136, Tryz.ntmps136
  go_wp2_with fail
  refine wp_loop_rounds 1 ?_
  rw [rounds_succ]
  go_wp2_with fail
  with_reducible refine C.out.mono ?_
  rintro e w' ⟨rfl, m, rfl⟩
  go_wp2_with fail
  refine wp_loop_rounds 1 ?_
  rw [rounds_succ]
  go_wp2
  go_end0
  exact ⟨rfl, m, rfl⟩
theorem stable_small {α : Type} [Inhabited α] (enc : α → Value) (hO : OneCell enc) (cf : α → α → Int) (g : Nat) (cb : Array Value) (blk off cap n : Nat) (d : Array α) (w : World)
    (eg : ∀ args w, (callFunc g args).run Tryz.prog w = .ok (.enter g args) w) (hcmp : CmpReads Tryz.prog g cb enc cf blk off d.size w) (hH : Holds enc w blk off d) (hn : d.size = n) (hn1 : n < 20) :
    Calls Tryz.prog 126 #[.slice (some ⟨blk, off, none⟩) n cap, .func (.func g) #[] cb] w fun e w' => e = .returned (.tuple #[]) ∧ ∃ m, w' = (putRow enc w blk off (Sort.insertionSort (ltOf cf) d 0 n)).drewN m := by
  have C := Lib.hid (stableCmp_small enc hO cf g cb blk off cap n d w eg hcmp hH hn hn1)
  clear hcmp hH eg hn
  go_enter Tryz.func126, Tryz.ntmps126
  go_wp2_with fail
  with_reducible refine C.out.mono ?_
  rintro e w' ⟨rfl, m, rfl⟩
  go_wp2
  go_end0
  exact ⟨rfl, m, rfl⟩
end Go.Proofs.YtdefjnefkdemiaaGreatDoor
