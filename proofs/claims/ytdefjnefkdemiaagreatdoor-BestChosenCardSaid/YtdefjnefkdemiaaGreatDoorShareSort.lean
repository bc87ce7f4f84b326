/- The sort inside offer.share: the places, by greatest rest, of equal rests the first. -/
import Derived.Test.YtdefjnefkdemiaaGreatDoorStable
import Derived.Test.YtdefjnefkdemiaaGreatDoorRowG
import Derived.Test.YtdefjnefkdemiaaGreatDoorDeal2
import Derived.Test.YtdefjnefkdemiaaGreatDoorMeasure
set_option linter.unusedVariables false
namespace Go.Proofs.YtdefjnefkdemiaaGreatDoor
open Go.RowKit Go.Shelf Go.Lib Go.Sort Deal

theorem quiet_lft {P : Program} {f : FuncId} {args : Array Value} {w : World} {n : Nat} {v : Value} (h : Calls P f args (w.drewN n) fun e w' => e = .returned v ∧ w.drewN n = w') : Calls P f args (w.drewN n) fun e w'' => e = .returned v ∧ ∃ m, w'' = w.drewN m :=
  h.mono fun _ _ ⟨he, hm⟩ => ⟨he, n, hm.symm⟩
theorem cmpRests (n cb g3 cap3 x y : Nat) (rx ry : Nat) (w : World) (hx : x < n) (hy : y < n) (hn : n ≤ 1000) (hbox : w.cell? ⟨cb, 0, none⟩ = some (.slice (some ⟨g3, 0, none⟩) n cap3)) (h1 : w.cell? ⟨g3, x, none⟩ = some (.int .u64 rx)) (h2 : w.cell? ⟨g3, y, none⟩ = some (.int .u64 ry)) :
    Calls Tryz.prog 127 #[.int .i64 x, .int .i64 y, .pointer (some ⟨cb, 0, none⟩)] w fun e w' => e = .returned (.int .i64 (Frac.cmpI ry rx)) ∧ ∃ q, w' = w.drewN q := by
  have hx' : (x : Int) < n := by omega
  have hy' : (y : Int) < n := by omega
  have hx0 : (0 : Int) ≤ x := by omega
  have hy0 : (0 : Int) ≤ y := by omega
  go_enter Tryz.func127, Tryz.ntmps127
  go_wp2_with fail
  go_quiet ((go_at_call 128; exact quiet_lft (compare_u64 _ _ _)))
  go_wp2
  go_ret
  exact ⟨rfl, _, rfl⟩

theorem grown_sortWorld {α : Type} [Inhabited α] (enc : α → Value) {w : World} {g n : Nat} {os : Array Obj} (d : Array α) : w.grownBy (sortWorld enc w g 0 n d os) (some g) := by
  unfold sortWorld
  refine ⟨rfl, rfl, rfl, by simp, fun k hk hne => ?_⟩
  rw [heap_grow_old _ _ (by simpa using hk)]
  have : g ≠ k := fun e => hne (by rw [e])
  simp [putRow, mapBlock, Sort.ahead, Array.getElem?_modify, this]

theorem cmpI_lt (a b : Int) : Frac.cmpI a b < 0 ↔ a < b := by
  unfold Frac.cmpI
  split <;> (try split) <;> omega
theorem ahead_zero (w : World) : Sort.ahead w 0 = w := rfl

theorem sorted_eq (c : Nat) (ws : List Nat) [Inhabited (Fin ws.length)] (hn0 : 0 < ws.length) :
    Sort.insertionSort (ltOf fun x y : Fin ws.length => Frac.cmpI (rF c ws y : Nat) (rF c ws x : Nat)) (List.finRange ws.length).toArray 0 ws.length = Sort.insertionSort (prec false (rF c ws)) (List.finRange ws.length).toArray 0 ws.length := by
  have hd : (List.finRange ws.length).toArray.size = ws.length := by simp
  have hk : ∀ k, k < (List.finRange ws.length).toArray.size → ((List.finRange ws.length).toArray[k]!).val = k := fun k hk => by
    rw [hd] at hk
    simp [hk]
  have h1 := sort_eq (ltOf fun x y : Fin ws.length => Frac.cmpI (rF c ws y : Nat) (rF c ws x : Nat)) (prec false (rF c ws)) (fun x => x.val) (fun x y h => by
    unfold ltOf
    rw [Bool.eq_iff_iff, prec_iff]
    simp only [decide_eq_true_eq, cmpI_lt, Bool.false_eq_true, if_false]
    omega) (List.finRange ws.length).toArray (by rw [hd]; exact hn0) hk
  rw [hd] at h1
  exact h1
theorem sorted_size (c : Nat) (ws : List Nat) [Inhabited (Fin ws.length)] (hn0 : 0 < ws.length) :
    (Sort.insertionSort (ltOf fun x y : Fin ws.length => Frac.cmpI (rF c ws y : Nat) (rF c ws x : Nat)) (List.finRange ws.length).toArray 0 ws.length).size = (List.finRange ws.length).toArray.size := by
  have hd : (List.finRange ws.length).toArray.size = ws.length := by simp
  rw [sorted_eq c ws hn0]
  exact (insertionSort_holds (lt := prec false (rF c ws)) (prec_swo false (rF c ws)) (List.finRange ws.length).toArray 0 ws.length (Nat.zero_le _) (by rw [hd]; exact Nat.le_refl _)).1.1
/-- which places the sort leaves -/
theorem sorted_places (c : Nat) (ws : List Nat) [Inhabited (Fin ws.length)] (hn0 : 0 < ws.length) (j : Nat) (hj : j < ws.length) :
    ((Sort.insertionSort (ltOf fun x y : Fin ws.length => Frac.cmpI (rF c ws y : Nat) (rF c ws x : Nat)) (List.finRange ws.length).toArray 0 ws.length)[j]!).val = nextN false c ws j := by
  have hd : (List.finRange ws.length).toArray.size = ws.length := by simp
  rw [sorted_eq c ws hn0]
  have hp := insertionSort_holds (lt := prec false (rF c ws)) (prec_swo false (rF c ws)) (List.finRange ws.length).toArray 0 ws.length (Nat.zero_le _) (by rw [hd]; exact Nat.le_refl _)
  have hu := sorted_unique_holds (lt := prec false (rF c ws)) (prec_swo false (rF c ws)) (fun x y a b => prec_total false (rF c ws) x y a b) (List.finRange ws.length).toArray (insertionSort (prec false (rF c ws)) (List.finRange ws.length).toArray 0 ws.length) (by rw [hd]; exact hp.1) (by rw [hd]; exact hp.2)
  have ho : (insertionSort (prec false (rF c ws)) (List.finRange ws.length).toArray 0 ws.length).toList = order false (rF c ws) := hu
  have hlen : j < (order false (rF c ws)).length := by rw [order_len]; exact hj
  have hlen' : j < (insertionSort (prec false (rF c ws)) (List.finRange ws.length).toArray 0 ws.length).size := by
    rw [← Array.length_toList, ho]; exact hlen
  rw [getElem!_pos _ j hlen', ← Array.getElem_toList]
  simp only [ho]
  unfold nextN
  rw [dif_pos hlen]

theorem share_sort (c : Nat) (ws : List Nat) (n : Nat) (w : World) (g2 cap2 cb g3 cap3 : Nat) (t : TypeId) (hn : ws.length = n) (hn0 : 0 < n) (hn1 : n < 20)
    (hO : RowG w g2 n (fun j => .int .i64 (j : Nat))) (hbox : w.heap[cb]? = some (.cells #[.slice (some ⟨g3, 0, none⟩) n cap3] t (0, 0))) (hR : RowG w g3 n (fun j => .int .u64 (rN c ws j : Nat))) (h1 : g2 ≠ cb) (h2 : g2 ≠ g3) :
    Calls Tryz.prog 126 #[.slice (some ⟨g2, 0, none⟩) n cap2, .func (.func 127) #[] #[.pointer (some ⟨cb, 0, none⟩)]] w fun e w' =>
      e = .returned (.tuple #[]) ∧ RowG w' g2 n (fun j => .int .i64 (nextN false c ws j : Nat)) ∧ w.grownBy w' (some g2) := by
  subst hn
  have : Inhabited (Fin ws.length) := ⟨⟨0, hn0⟩⟩
  have hd : (List.finRange ws.length).toArray.size = ws.length := by simp
  have hH : Holds (fun i : Fin ws.length => Value.int .i64 (i.val : Int)) w g2 0 (List.finRange ws.length).toArray := by
    intro j hj
    rw [hd] at hj
    rw [Nat.zero_add]
    refine ⟨?_, hO.free j hj⟩
    rw [hO.cell j hj]
    simp [hj]
  refine (stable_small (fun i : Fin ws.length => Value.int .i64 (i.val : Int)) (fun x => rfl) (fun x y => Frac.cmpI (rF c ws y : Nat) (rF c ws x : Nat)) _ _ g2 0 cap2 ws.length (List.finRange ws.length).toArray w (enters_of Tryz.func127 (by kernel_rfl) rfl) ?_ hH hd hn1).mono ?_
  · intro m os dk hdk x y
    have hg := grown_sortWorld (fun i : Fin ws.length => Value.int .i64 (i.val : Int)) (w := w) (g := g2) (n := m) (os := os) dk
    generalize sortWorld (fun i : Fin ws.length => Value.int .i64 (i.val : Int)) w g2 0 m dk os = W at *
    have hc : W.cell? ⟨cb, 0, none⟩ = some (.slice (some ⟨g3, 0, none⟩) ws.length cap3) := hg.cell (show w.cell? ⟨cb, 0, none⟩ = _ by simp [World.cell?, hbox]) (by simp; omega)
    have hx := hg.cell (hR.cell x.val x.isLt) (by simp; omega)
    have hy := hg.cell (hR.cell y.val y.isLt) (by simp; omega)
    exact cmpRests ws.length cb g3 cap3 x.val y.val (rN c ws x.val) (rN c ws y.val) W x.isLt y.isLt (by omega) hc hx hy
  · rintro e w' ⟨rfl, m, rfl⟩
    refine ⟨rfl, ?_, ?_⟩
    · have hs : (insertionSort (ltOf fun x y : Fin ws.length => Frac.cmpI (rF c ws y : Nat) (rF c ws x : Nat)) (List.finRange ws.length).toArray 0 ws.length).size = (List.finRange ws.length).toArray.size := sorted_size c ws hn0
      have hh := holds_putRow (fun i : Fin ws.length => Value.int .i64 (i.val : Int)) w g2 0 _ _ hH hs
      refine RowG.drewN ⟨by simpa using hO.lt, fun j hj => ?_, fun j hj => ?_⟩ m
      · have := (hh j (by rw [hs, hd]; exact hj)).1
        rw [Nat.zero_add] at this
        rw [this]
        exact congrArg (fun x : Nat => some (Value.int .i64 (x : Int))) (sorted_places c ws hn0 j hj)
      · have := (hh j (by rw [hs, hd]; exact hj)).2
        rwa [Nat.zero_add] at this
    · have := grown_sortWorld (fun i : Fin ws.length => Value.int .i64 (i.val : Int)) (w := w) (g := g2) (n := 0) (os := #[]) (insertionSort (ltOf fun x y : Fin ws.length => Frac.cmpI (rF c ws y : Nat) (rF c ws x : Nat)) (List.finRange ws.length).toArray 0 ws.length)
      unfold sortWorld at this
      rw [grow_empty] at this
      exact grownBy_drewN this m
end Go.Proofs.YtdefjnefkdemiaaGreatDoor
