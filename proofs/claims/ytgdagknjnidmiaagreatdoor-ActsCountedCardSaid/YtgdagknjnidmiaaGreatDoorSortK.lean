/- Rows of records that are sorted, as lists (the generic part of XSortCe). -/
import Derived.Test.YtgdagknjnidmiaaGreatDoorM1
import Derived.Shelf.SlSortCmp.InsertionK
set_option linter.unusedVariables false
namespace Go.Proofs.YtgdagknjnidmiaaGreatDoor
open Go.RowKit Go.Shelf Go.Lib Go.Sort

theorem flatK_list {α : Type} [Inhabited α] (enc : α → List Value) (k : Nat) (hk : ∀ x, (enc x).length = k) (hk0 : 0 < k) (d : Array α) : (flatK enc k d).toList = d.toList.flatMap enc := by
  apply List.ext_getElem?
  intro t
  by_cases ht : t < d.size * k
  · have hq : t / k < d.size := Nat.div_lt_of_lt_mul (by rwa [Nat.mul_comm] at ht)
    have h1 := fm_get k enc d.toList (fun x _ => hk x) (t / k) (t % k) (by simpa using hq) (Nat.mod_lt _ hk0)
    rw [Nat.div_add_mod' t k] at h1
    rw [h1]
    have h2 := get_flatK enc k d t ht
    have hs : t < (flatK enc k d).size := by simpa using ht
    rw [getElem!_pos _ t hs] at h2
    rw [Array.getElem?_toList, Array.getElem?_eq_getElem hs, h2]
    have h3 : t % k < (enc d[t / k]!).length := by rw [hk]; exact Nat.mod_lt _ hk0
    rw [getElem!_pos (enc d[t / k]!) (t % k) h3]
    have h4 : d[t / k]! = d[t / k] := getElem!_pos d _ hq
    simp only [Array.getElem_toList]
    rw [List.getElem?_eq_getElem (show t % k < (enc d[t / k]).length by rw [hk]; exact Nat.mod_lt _ hk0)]
    simp only [h4]
  · rw [List.getElem?_eq_none (by simp; omega), List.getElem?_eq_none (by rw [fm_length k enc d.toList (fun x _ => hk x)]; simp; omega)]
section
variable {α : Type} [Inhabited α] (enc : α → List Value) (k : Nat) (w : World) (g m : Nat) (d : Array α) (os : Array Obj)
theorem sortK_block {p : Nat} (hp : p < w.heap.size) (hne : p ≠ g) : (sortWorldK enc k w g 0 m d os).heap[p]? = w.heap[p]? := by
  unfold sortWorldK putRowK putRow mapBlock grow Sort.ahead
  simp only
  rw [Array.getElem?_append_left (by simpa using hp), Array.getElem?_modify, if_neg (fun e => hne e.symm)]
theorem sortK_size : (sortWorldK enc k w g 0 m d os).heap.size = w.heap.size + os.size := by
  unfold sortWorldK putRowK putRow mapBlock grow Sort.ahead
  simp
theorem sortK_grown : w.grownBy (sortWorldK enc k w g 0 m d os) (some g) :=
  ⟨rfl, rfl, rfl, by rw [sortK_size]; omega, fun p hp hne => sortK_block enc k w g m d os hp (fun e => hne (by rw [e]))⟩
theorem sortK_row {b0 n cap : Nat} {t : TypeId} {xs : List Value} (h : w.ownsRow b0 t k (.slice (some ⟨g, 0, none⟩) n cap) n xs) (hk : ∀ x, (enc x).length = k) (hk0 : 0 < k) (hd : d.size = n) :
    (sortWorldK enc k w g 0 m d os).ownsRow b0 t k (.slice (some ⟨g, 0, none⟩) n cap) n (d.toList.flatMap enc) := by
  subst hd
  refine ⟨by rw [fm_length k enc d.toList (fun x _ => hk x)]; simp, .inr ?_⟩
  rcases h.2 with ⟨e, _⟩ | ⟨g', cap', cur, e, hb, hg, hnc, hcm, hs, ht⟩
  · cases e
  · injection e with e1 e2 e3
    injection e1 with e1
    injection e1 with e1
    subst e1 e3
    have hlt := (Array.getElem?_eq_some_iff.1 hg).1
    refine ⟨g, cap, putCells id 0 (flatK enc k d) cur, rfl, hb, ?_, hnc, hcm, by unfold putCells; simpa using hs, ?_⟩
    · unfold sortWorldK putRowK putRow mapBlock grow Sort.ahead
      simp only
      rw [Array.getElem?_append_left (by simpa using hlt), Array.getElem?_modify, if_pos rfl, hg]
      rfl
    · rw [← flatK_list enc k hk hk0 d]
      have hle : d.size * k ≤ cap * k := Nat.mul_le_mul_right _ hnc
      apply List.ext_getElem?
      intro i
      by_cases hi : i < d.size * k
      · rw [List.getElem?_take_of_lt hi]
        unfold putCells
        have hi2 : i < (flatK enc k d).size := by simpa using hi
        simp only [Array.getElem?_toList, Array.getElem?_mapIdx, size_flatK, Nat.zero_le, true_and, Nat.zero_add, id, Nat.sub_zero]
        rw [Array.getElem?_eq_getElem (by omega), Array.getElem?_eq_getElem hi2]
        simp only [Option.map_some, if_pos hi]
        rw [getElem!_pos _ i hi2]
      · rw [List.getElem?_eq_none (by simp; omega), List.getElem?_eq_none (by simp; omega)]
theorem rowK_holds {b0 n cap : Nat} {t : TypeId} (h : w.ownsRow b0 t k (.slice (some ⟨g, 0, none⟩) n cap) n (d.toList.flatMap enc)) (hk : ∀ x, (enc x).length = k) (hk0 : 0 < k) (hd : d.size = n) : HoldsK enc k w g 0 d := by
  subst hd
  intro j hj
  rw [size_flatK] at hj
  rw [Nat.zero_add]
  refine ⟨?_, h.frozenAt _⟩
  rw [h.cellAt j hj, ← flatK_list enc k hk hk0 d, Array.getElem?_toList]
  have hj2 : j < (flatK enc k d).size := by simpa using hj
  rw [Array.getElem?_eq_getElem hj2, getElem!_pos _ j hj2]
  rfl
end
end Go.Proofs.YtgdagknjnidmiaaGreatDoor
