/- maps.Keys and slices.Sorted at a map of rows: the shelf's contracts, laid by hand (printed by gen_rw.py). -/
import Derived.Shelf.SlIter.Nil
import Derived.Test.YtgdagknjnidmiaaGreatDoorShelf
import Derived.Test.YtgdagknjnidmiaaGreatDoorVKeys
set_option linter.unusedVariables false
namespace Go.Proofs.YtgdagknjnidmiaaGreatDoor
open Go.RowKit Go.Maps Go.Sort Go.Shelf

def kwRen : Go.Shelf.Ren := ⟨fun | 7 => 33 | 10 => 64 | n => n, fun | 23 => 72 | 26 => 9 | 3 => 73 | 28 => 78 | 0 => 0 | 27 => 77 | 33 => 118 | 4 => 4 | n => n, fun | n => n⟩
theorem lays_kw : Go.Proofs.SlLaysZ.n7 Tryz.prog kwRen := {
  mixed := by kernel_rfl
  f7 := ⟨"maps.Keys[map[string]*handbill/api.Row,string,*handbill/api.Row]", by decide, Tryz.func33.trans (congrArg some (by kernel_rfl))⟩
  f10 := ⟨"maps.Keys[map[string]*handbill/api.Row,string,*handbill/api.Row]$1", by decide, Tryz.func64.trans (congrArg some (by kernel_rfl))⟩
  t0 := Tryz.underlying0
  a0 := Tryz.isAgg0
  z0 := Tryz.sizeOf0
  v0 := Tryz.zeroValue0
  t4 := Tryz.underlying4
  a4 := Tryz.isAgg4
  z4 := Tryz.sizeOf4
  v4 := Tryz.zeroValue4
  t23 := Tryz.underlying72
  a23 := Tryz.isAgg72
  z23 := Tryz.sizeOf72
  v23 := Tryz.zeroValue72
  t26 := Tryz.underlying9
  a26 := Tryz.isAgg9
  z26 := Tryz.sizeOf9
  v26 := Tryz.zeroValue9
  t27 := Tryz.underlying77
  a27 := Tryz.isAgg77
  z27 := Tryz.sizeOf77
  v27 := Tryz.zeroValue77
  t28 := Tryz.underlying78
  a28 := Tryz.isAgg78
  z28 := Tryz.sizeOf78
  v28 := Tryz.zeroValue78
  t33 := Tryz.underlying118
  a33 := Tryz.isAgg118
  z33 := Tryz.sizeOf118
  v33 := Tryz.zeroValue118 }
def swRen : Go.Shelf.Ren := ⟨fun | 6 => 32 | 8 => 62 | 9 => 63 | 11 => 91 | n => n, fun | 26 => 9 | 28 => 78 | 24 => 75 | 0 => 0 | 33 => 118 | n => n, fun | n => n⟩
theorem lays_sw : Go.Proofs.SlLaysZ.n6 Tryz.prog swRen := {
  mixed := by kernel_rfl
  f6 := ⟨"slices.Sorted[string]", by decide, Tryz.func32.trans (congrArg some (by kernel_rfl))⟩
  f8 := ⟨"slices.Collect[string]", by decide, Tryz.func62.trans (congrArg some (by kernel_rfl))⟩
  f11 := ⟨"slices.AppendSeq[[]string,string]", by decide, Tryz.func91.trans (congrArg some (by kernel_rfl))⟩
  t0 := Tryz.underlying0
  a0 := Tryz.isAgg0
  z0 := Tryz.sizeOf0
  v0 := Tryz.zeroValue0
  t24 := Tryz.underlying75
  a24 := Tryz.isAgg75
  z24 := Tryz.sizeOf75
  v24 := Tryz.zeroValue75
  t26 := Tryz.underlying9
  a26 := Tryz.isAgg9
  z26 := Tryz.sizeOf9
  v26 := Tryz.zeroValue9
  t28 := Tryz.underlying78
  a28 := Tryz.isAgg78
  z28 := Tryz.sizeOf78
  v28 := Tryz.zeroValue78
  i26 := by kernel_rfl }
theorem sorts_sw (m : Nat) : AnyZ.SortsIn Tryz.prog swRen Fence.wide m :=
  ⟨fun blk off cap ss W hH hblk hsz => callsIn_wide.2 (Tryz.slices_Sort_string blk off cap ss W hH hblk hsz), fun p cap W => callsIn_wide.2 (Tryz.slices_Sort_string_none p cap W)⟩
/-- maps.Keys -/
theorem keysW_any (mb : Option Nat) (W : World) : Calls Tryz.prog 33 #[.map mb] W fun e w' => e = .returned (.func (.func 64) #[] #[.pointer (some ⟨W.heap.size, 0, none⟩)]) ∧ w' = W.alloc (.cells #[.map mb] 72) :=
  callsIn_wide.1 (AnyZ.keys_in lays_kw Fence.wide 5 trivial rfl mb W)
set_option maxHeartbeats 1000000 in
/-- slices.Sorted at a map's keys -/
theorem sortedW_keys (w : World) (z : Value) (b nn : Nat) (ks : List ByteArray) (g : ByteArray → Value) (h : VM w z b nn ks g) (hnd : ks.Nodup) (hk : ks.length ≤ 1000000) :
    Calls Tryz.prog 32 #[.func (.func 64) #[] #[.pointer (some ⟨w.heap.size, 0, none⟩)]] (w.alloc (.cells #[.map (some b)] 72)) fun e w' => ∃ v, e = .returned v ∧
      w'.ownsRow (w.heap.size + 1) 9 1 v ks.length ((ordK ks).map Value.string) ∧ Below (w.heap.size + 1) (w.alloc (.cells #[.map (some b)] 72)) w' := by
  obtain ⟨D, hown, hD, hat⟩ := h
  have hsz := vm_size hown (fun s => (hat s).1) hnd
  have hpm := vm_perm hown (fun s => (hat s).1) hnd
  have hbl := hown.lt
  have hseq : SeqGives Fence.wide 2 Tryz.prog 64 #[.pointer (some ⟨w.heap.size, 0, none⟩)] encStr (fun ss => ss.Perm (strKeys D)) (Maps.size D) (w.alloc (.cells #[.map (some b)] 72)) :=
    AnyZ.keys_gives (ρ := kwRen) { lays_kw with } Fence.wide _ trivial rfl (by omega) w.heap.size b nn D _ (by simp) (by simp) (by
      obtain ⟨es, clock, hb, Ft, hs, hD⟩ := hown
      exact ⟨es, clock, (Below.heap_alloc _ _ b hbl).trans hb, Ft, hs, hD⟩)
  have h := callsIn_wide.1 (AnyZ.sorted_in lays_sw Fence.wide 5 trivial trivial trivial trivial rfl (by omega) (sorts_sw _) (enters_of Tryz.func63 (by kernel_rfl) rfl) 64 #[.pointer (some ⟨w.heap.size, 0, none⟩)] trivial (enters_of Tryz.func64 (by kernel_rfl) rfl) _ _ (by rw [hsz]; unfold maxLen; omega) (by rw [hsz]; omega) _ hseq)
  have hz : (w.alloc (.cells #[.map (some b)] 72)).heap.size = w.heap.size + 1 := by simp
  refine h.mono ?_
  rintro e w' ⟨v, ss, rfl, hS, hrow, -, hb⟩
  rw [hz] at hrow hb
  have hl : ss.length = ks.length := by
    have := (hS.trans hpm.symm).length_eq
    rwa [List.length_map] at this
  rw [hl, show (fun x y : List UInt8 => decide (x ≤ y)) = leB from rfl, ordK_row ks (hS.trans hpm.symm)] at hrow
  exact ⟨v, rfl, hrow, hb⟩
end Go.Proofs.YtgdagknjnidmiaaGreatDoor
