/- The sort inside measure.divide: the places, by greatest rest, of equal rests the last. -/
import Derived.Test.YtgdagknjnidmiaaGreatDoorSortSmall
import Derived.Test.YtgdagknjnidmiaaGreatDoorM2
import Derived.Deep.RegionHeld3
import Derived.IntWalk
import Derived.StillTailTactics
set_option linter.unusedVariables false
namespace Go.Proofs.YtgdagknjnidmiaaGreatDoor
open Go.RowKit Go.Shelf Go.Lib Go.Sort Deal

/-- how two places are compared -/
def cmpPl (rx ry x y : Int) : Int := if ry = rx then Frac.cmpI y x else Frac.cmpI ry rx
theorem cmpI_zero (a b : Int) : Frac.cmpI a b = 0 ↔ a = b := by
  unfold Frac.cmpI
  split <;> (try split) <;> omega
theorem cmpI_neg (a b : Int) : Frac.cmpI a b < 0 ↔ a < b := by
  unfold Frac.cmpI
  split <;> (try split) <;> omega
theorem orF_two (a b c d : Int) : orF [Frac.cmpI a b, Frac.cmpI c d] = if a = b then Frac.cmpI c d else Frac.cmpI a b := by
  simp only [orF]
  by_cases h : a = b
  · rw [if_pos h, if_pos ((cmpI_zero a b).2 h)]
    split <;> omega
  · rw [if_neg h, if_neg (fun h' => h ((cmpI_zero a b).1 h'))]

set_option maxRecDepth 100000 in
set_option maxHeartbeats 1000000 in
theorem cmpDivide (n bc bw bs p off cp x y : Nat) (c wx wy s : Nat) (w : World) (hx : x < n) (hy : y < n) (hn : n ≤ 1000) (hc : c ≤ 1000000000000) (hwx : wx ≤ 1000000) (hwy : wy ≤ 1000000) (hs0 : 0 < s) (hs1 : s ≤ 1000000000000)
    (h1 : w.cell? ⟨bc, 0, none⟩ = some (.int .i64 c)) (h2 : w.cell? ⟨bw, 0, none⟩ = some (.slice (some ⟨p, off, none⟩) n cp)) (h3 : w.cell? ⟨bs, 0, none⟩ = some (.int .i64 s))
    (h4 : w.cell? ⟨p, off + x, none⟩ = some (.int .i64 wx)) (h5 : w.cell? ⟨p, off + y, none⟩ = some (.int .i64 wy)) :
    Calls Tryz.prog 110 #[.int .i64 x, .int .i64 y, .pointer (some ⟨bc, 0, none⟩), .pointer (some ⟨bw, 0, none⟩), .pointer (some ⟨bs, 0, none⟩)] w fun e w' =>
      e = .returned (.int .i64 (cmpPl ((c * wx % s : Nat) : Int) ((c * wy % s : Nat) : Int) x y)) ∧ ∃ q os', w' = grow (w.drewN q) os' := by
  have hx' : (x : Int) < n := by omega
  have hy' : (y : Int) < n := by omega
  have hx0 : (0 : Int) ≤ x := by omega
  have hy0 : (0 : Int) ≤ y := by omega
  have m1 : c * wx ≤ 1000000000000 * 1000000 := Nat.mul_le_mul hc hwx
  have m2 : c * wy ≤ 1000000000000 * 1000000 := Nat.mul_le_mul hc hwy
  have e1 : IntKind.i64.wrap ((c : Int) * (wx : Int)) = ((c * wx : Nat) : Int) := by rw [← Int.natCast_mul, IntKind.wrap_i64]; omega
  have e2 : IntKind.i64.wrap ((c : Int) * (wy : Int)) = ((c * wy : Nat) : Int) := by rw [← Int.natCast_mul, IntKind.wrap_i64]; omega
  have hsne : ¬ (s : Int) = 0 := by omega
  have hsnb : ¬ s = 0 := by omega
  generalize c * wx = mx at *
  generalize c * wy = my at *
  have t1 : ((mx : Int)).tmod (s : Int) = ((mx % s : Nat) : Int) := by rw [Int.tmod_eq_emod_of_nonneg (by omega)]; omega
  have t2 : ((my : Int)).tmod (s : Int) = ((my % s : Nat) : Int) := by rw [Int.tmod_eq_emod_of_nonneg (by omega)]; omega
  have q1 : mx % s < s := Nat.mod_lt _ hs0
  have q2 : my % s < s := Nat.mod_lt _ hs0
  have e3 : IntKind.i64.wrap ((mx % s : Nat) : Int) = ((mx % s : Nat) : Int) := by rw [IntKind.wrap_i64]; omega
  have e4 : IntKind.i64.wrap ((my % s : Nat) : Int) = ((my % s : Nat) : Int) := by rw [IntKind.wrap_i64]; omega
  have n1 : (0 : Int) ≤ (mx : Int) := by omega
  have n2 : (0 : Int) ≤ (my : Int) := by omega
  have n3 : (0 : Int) < (s : Int) := by omega
  go_enter Tryz.func110, Tryz.ntmps110
  go_wp2_with fail
  refine wp_region_still_tail 20 (by kernel_rfl) (by kernel_rfl) ?_
  change wpStill _ _ w.drew (fun a' => wpList _ _ _ _ a' w.drew) _ _
  simp only [List.take_succ_cons, List.take_zero, List.drop_succ_cons, List.drop_zero]
  obtain ⟨wd, hwd⟩ : ∃ wd : World, wd = w.drew := ⟨_, rfl⟩
  rw [← hwd]
  have HWD := Lib.hid hwd
  have k1 : wd.cell? ⟨bc, 0, none⟩ = some (.int .i64 c) := by rw [hwd]; exact h1
  have k2 : wd.cell? ⟨bw, 0, none⟩ = some (.slice (some ⟨p, off, none⟩) n cp) := by rw [hwd]; exact h2
  have k3 : wd.cell? ⟨bs, 0, none⟩ = some (.int .i64 s) := by rw [hwd]; exact h3
  have k4 : wd.cell? ⟨p, off + x, none⟩ = some (.int .i64 wx) := by rw [hwd]; exact h4
  have k5 : wd.cell? ⟨p, off + y, none⟩ = some (.int .i64 wy) := by rw [hwd]; exact h5
  clear hwd h1 h2 h3 h4 h5
  repeat (first | still_step | still_call ((compare_int _ _ _).mono (fun _ _ h => ⟨h.1, h.2.symm⟩)))
  refine wpStill_nil ?_
  go_wp2_with fail
  with_reducible refine (or_any _ [Frac.cmpI ((my : Int) % (s : Int)) ((mx : Int) % (s : Int)), Frac.cmpI (y : Int) (x : Int)] 2 _ _ rfl (by decide) ?hb).mono ?_
  case hb => exact heap_alloc_new wd _
  rintro e w' ⟨rfl, rfl⟩
  go_wp2
  go_ret
  refine ⟨ret_int ?_, 1, #[_], by rw [HWD.out]; exact alloc_eq_grow _ _⟩
  rw [orF_two]
  unfold cmpPl
  rw [Int.natCast_emod, Int.natCast_emod]

theorem grown_sw {α : Type} [Inhabited α] {enc : α → Value} {w W : World} {g : Nat} {d : Array α} (h : SW enc w g 0 d W) : w.grownBy W (some g) := by
  obtain ⟨n, os, rfl⟩ := h
  unfold sortWorld
  refine ⟨rfl, rfl, rfl, by simp, fun k hk hne => ?_⟩
  rw [heap_grow_old _ _ (by simpa using hk)]
  have : g ≠ k := fun e => hne (by rw [e])
  simp [putRow, mapBlock, Sort.ahead, Array.getElem?_modify, this]

/-- which places the sort leaves -/
theorem lasts_places (c : Nat) (ws : List Nat) [Inhabited (Fin ws.length)] (cf : Fin ws.length → Fin ws.length → Int) (hcf : ∀ x y, ltOf cf x y = prec true (rF c ws) x y) (j : Nat) (hj : j < ws.length) :
    (Sort.insertionSort (ltOf cf) (List.finRange ws.length).toArray 0 ws.length).size = ws.length ∧ ((Sort.insertionSort (ltOf cf) (List.finRange ws.length).toArray 0 ws.length)[j]!).val = nextN true c ws j := by
  have hd : (List.finRange ws.length).toArray.size = ws.length := by simp
  have he : ltOf cf = prec true (rF c ws) := by funext x y; exact hcf x y
  rw [he]
  have hp := insertionSort_holds (lt := prec true (rF c ws)) (prec_swo true (rF c ws)) (List.finRange ws.length).toArray 0 ws.length (Nat.zero_le _) (by rw [hd]; exact Nat.le_refl _)
  have hu := sorted_unique_holds (lt := prec true (rF c ws)) (prec_swo true (rF c ws)) (fun x y a b => prec_total true (rF c ws) x y a b) (List.finRange ws.length).toArray (insertionSort (prec true (rF c ws)) (List.finRange ws.length).toArray 0 ws.length) (by rw [hd]; exact hp.1) (by rw [hd]; exact hp.2)
  have ho : (insertionSort (prec true (rF c ws)) (List.finRange ws.length).toArray 0 ws.length).toList = order true (rF c ws) := hu
  have hlen : j < (order true (rF c ws)).length := by rw [order_len]; exact hj
  have hlen' : j < (insertionSort (prec true (rF c ws)) (List.finRange ws.length).toArray 0 ws.length).size := by
    rw [← Array.length_toList, ho]; exact hlen
  refine ⟨by rw [← Array.length_toList, ho, order_len], ?_⟩
  rw [getElem!_pos _ j hlen', ← Array.getElem_toList]
  simp only [ho]
  unfold nextN
  rw [dif_pos hlen]

theorem divide_sort (c : Nat) (ws : List Nat) (n : Nat) (w : World) (g2 cap2 bc bw bs p off cp S : Nat) (hn : ws.length = n) (hn0 : 0 < n) (hn1 : n ≤ 12) (hc : c ≤ 1000000000000) (hS : ws.sum = S) (hS0 : 0 < S) (hS1 : S ≤ 1000000000000) (hle : ∀ x ∈ ws, x ≤ 1000000)
    (hO : RowG w g2 n (fun j => .int .i64 (j : Nat))) (h1 : w.cell? ⟨bc, 0, none⟩ = some (.int .i64 c)) (h2 : w.cell? ⟨bw, 0, none⟩ = some (.slice (some ⟨p, off, none⟩) n cp)) (h3 : w.cell? ⟨bs, 0, none⟩ = some (.int .i64 S))
    (h4 : ∀ j (hj : j < ws.length), w.cell? ⟨p, off + j, none⟩ = some (.int .i64 (ws[j] : Int))) (n1 : g2 ≠ bc) (n2 : g2 ≠ bw) (n3 : g2 ≠ bs) (n4 : g2 ≠ p) :
    Calls Tryz.prog 109 #[.slice (some ⟨g2, 0, none⟩) n cap2, .func (.func 110) #[] #[.pointer (some ⟨bc, 0, none⟩), .pointer (some ⟨bw, 0, none⟩), .pointer (some ⟨bs, 0, none⟩)]] w fun e w' =>
      e = .returned (.tuple #[]) ∧ RowG w' g2 n (fun j => .int .i64 (nextN true c ws j : Nat)) ∧ w.grownBy w' (some g2) := by
  subst hn hS
  have : Inhabited (Fin ws.length) := ⟨⟨0, hn0⟩⟩
  have hd : (List.finRange ws.length).toArray.size = ws.length := by simp
  have hH : Holds (fun i : Fin ws.length => Value.int .i64 (i.val : Int)) w g2 0 (List.finRange ws.length).toArray := by
    intro j hj
    rw [hd] at hj
    rw [Nat.zero_add]
    refine ⟨?_, hO.free j hj⟩
    rw [hO.cell j hj]
    simp [hj]
  have R : Row1 (fun i : Fin ws.length => Value.int .i64 (i.val : Int)) w g2 0 (List.finRange ws.length).toArray := ⟨fun x => rfl, hH, hO.lt⟩
  refine (sortFunc_small (fun i : Fin ws.length => Value.int .i64 (i.val : Int)) (fun x y => cmpPl (rF c ws x : Nat) (rF c ws y : Nat) (x.val : Int) (y.val : Int)) _ _ g2 0 cap2 ws.length (List.finRange ws.length).toArray w (enters_of Tryz.func110 (by kernel_rfl) rfl) ?_ R hd hn1).mono ?_
  · intro m os dk hdk x y
    have hg := grown_sw (show SW (fun i : Fin ws.length => Value.int .i64 (i.val : Int)) w g2 0 dk (sortWorld (fun i : Fin ws.length => Value.int .i64 (i.val : Int)) w g2 0 m dk os) from ⟨m, os, rfl⟩)
    generalize sortWorld (fun i : Fin ws.length => Value.int .i64 (i.val : Int)) w g2 0 m dk os = W at *
    have e1 := hg.cell h1 (by simp; omega)
    have e2 := hg.cell h2 (by simp; omega)
    have e3 := hg.cell h3 (by simp; omega)
    have e4 := hg.cell (h4 x.val x.isLt) (by simp; omega)
    have e5 := hg.cell (h4 y.val y.isLt) (by simp; omega)
    have hx := hle _ (List.getElem_mem x.isLt)
    have hy := hle _ (List.getElem_mem y.isLt)
    have q1 : rF c ws x = c * ws[x.val] % ws.sum := by unfold rF rN; simp [x.isLt]
    have q2 : rF c ws y = c * ws[y.val] % ws.sum := by unfold rF rN; simp [y.isLt]
    simp only [q1, q2]
    exact cmpDivide ws.length bc bw bs p off cp x.val y.val c ws[x.val] ws[y.val] ws.sum W x.isLt y.isLt (by omega) hc hx hy hS0 hS1 e1 e2 e3 e4 e5
  · rintro e w' ⟨rfl, hW⟩
    have hcf : ∀ x y : Fin ws.length, ltOf (fun x y : Fin ws.length => cmpPl (rF c ws x : Nat) (rF c ws y : Nat) (x.val : Int) (y.val : Int)) x y = prec true (rF c ws) x y := fun x y => by
      unfold ltOf
      rw [Bool.eq_iff_iff, prec_iff]
      simp only [decide_eq_true_eq, if_true]
      unfold cmpPl
      split <;> rw [cmpI_neg] <;> omega
    have hpl := lasts_places c ws _ hcf
    refine ⟨rfl, ?_, grown_sw hW⟩
    have hh := hW.holds hO.lt hH (by rw [(hpl 0 hn0).1, hd])
    refine ⟨hW.lt hO.lt, fun j hj => ?_, fun j hj => ?_⟩
    · have := (hh j (by rw [(hpl j hj).1]; exact hj)).1
      rw [Nat.zero_add] at this
      rw [this]
      exact congrArg (fun x : Nat => some (Value.int .i64 (x : Int))) (hpl j hj).2
    · have := (hh j (by rw [(hpl j hj).1]; exact hj)).2
      rwa [Nat.zero_add] at this
end Go.Proofs.YtgdagknjnidmiaaGreatDoor
