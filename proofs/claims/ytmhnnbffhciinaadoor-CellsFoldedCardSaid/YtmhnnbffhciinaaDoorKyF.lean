/- Lists of cells of one's own, and their keys: no stream beside them. -/
import Derived.Test.YtmhnnbffhciinaaDoorCeSpec
import Derived.Test.YtmhnnbffhciinaaDoorRecs
import Derived.Test.YtmhnnbffhciinaaDoorLists
import Derived.Test.YtmhnnbffhciinaaDoorOBox
set_option linter.unusedVariables false
namespace Go.Proofs.YtmhnnbffhciinaaDoor
open Go.RowKit

/-- strings at tv: none, or they begin a block of strings -/
def KyF (w : World) (tv : Option Addr) (keys : List ByteArray) : Prop := keys = [] ∨ ∃ p cur, tv = some ⟨p, 0, none⟩ ∧ w.heap[p]? = some (.cells cur 9 (0, 0)) ∧ cur.toList.take keys.length = keys.map Value.string
section
variable {w w' : World} {tv : Option Addr} {keys : List ByteArray}
theorem KyF.nil (w : World) (tv : Option Addr) : KyF w tv [] := .inl rfl
theorem KyF.strs (h : KyF w tv keys) : StrsAt w tv keys := by
  rcases h with rfl | ⟨p, cur, rfl, hb, ht⟩
  · exact StrsAt.nil _ _
  · intro j hj
    refine ⟨p, 0, rfl, (Array.getElem?_eq_some_iff.1 hb).1, ?_⟩
    have h1 : (cur.toList.take keys.length)[j]? = some (.string keys[j]) := by
      rw [ht]
      simp [hj]
    rw [List.getElem?_take_of_lt hj] at h1
    simp only [World.cell?]
    rw [hb]
    simp only [Nat.zero_add]
    rw [← Array.getElem?_toList, h1]
    rfl
theorem KyF.kept {row : Option Nat} (h : KyF w tv keys) (hb : w.grownBy w' row) (hr : ∀ p cur fr, row = some p → w.heap[p]? ≠ some (.cells cur 9 fr)) : KyF w' tv keys := by
  rcases h with rfl | ⟨p, cur, rfl, hq, ht⟩
  · exact .inl rfl
  · exact .inr ⟨p, cur, rfl, (hb.block p (Array.getElem?_eq_some_iff.1 hq).1 (fun e => hr p _ _ e.symm hq)).trans hq, ht⟩
theorem KyF.below (h : KyF w tv keys) (hb : Below w.heap.size w w') : KyF w' tv keys := by
  rcases h with rfl | ⟨p, cur, rfl, hq, ht⟩
  · exact .inl rfl
  · exact .inr ⟨p, cur, rfl, (hb.block p (Array.getElem?_eq_some_iff.1 hq).1).trans hq, ht⟩
theorem KyF.alloc (h : KyF w tv keys) (o : Obj) : KyF (w.alloc o) tv keys := h.below ((Below.refl _ _).alloc (Nat.le_refl _) o)
theorem KyF.app {b0 n C : Nat} {t : TypeId} {v : Value} {xs : List Value} {o : Obj} (h : KyF w tv keys) (own : w.ownsRow b0 t C v n xs) (ht : t ≠ 9) (hb : (w.alloc o).grownBy w' v.ownBlock) : KyF w' tv keys := by
  refine (h.alloc o).kept hb (fun p cur fr e hc => ?_)
  rcases (own.alloc o).2 with ⟨rfl, _⟩ | ⟨g, cap, cur', rfl, _, hg, _⟩
  · cases e
  · obtain rfl := Option.some.inj e
    rw [hg] at hc
    injection hc with hc
    injection hc with _ hc _
    exact ht hc
theorem KyF.set {g i : Nat} {cur : Array Value} {t : TypeId} {fr : Nat × Nat} {u : Value} (h : KyF w tv keys) (hg : w.heap[g]? = some (.cells cur t fr)) (ht : t ≠ 9) : KyF (w.setCell ⟨g, i, none⟩ u) tv keys := by
  refine h.kept (grown_set ⟨rfl, rfl, rfl, Nat.le_refl _, fun _ _ _ => rfl⟩ (g := g) (p := ⟨g, i, none⟩) (.inl rfl) u) (fun p cur' fr' e hc => ?_)
  obtain rfl : g = p := Option.some.inj e
  rw [hg] at hc
  injection hc with hc
  injection hc with _ hc _
  exact ht hc
theorem KyF.own {b0 : Nat} {v : Value} {a : Option Addr} {c : Nat} (h : w.ownsRow b0 9 1 v keys.length (keys.map Value.string)) (hv : v = .slice a keys.length c) : KyF w a keys := by
  rcases h.2 with ⟨e, h0⟩ | ⟨g, cap, cur, e, hbg, hg, _, _, _, ht⟩
  · exact .inl (List.eq_nil_of_length_eq_zero h0)
  · rw [hv] at e
    injection e with e1 e2 e3
    exact .inr ⟨g, cur, e1, hg, by simpa using ht⟩
end
/-- a list of cells of one's own, and their keys -/
structure LK (b0 : Nat) (w : World) (v : Value) (l : List Ce) : Prop where
  own : w.ownsRow b0 44 3 v l.length (l.flatMap Ce.cells)
  ky : ∀ x ∈ l, KyF w x.tv x.keys
  sz : b0 ≤ w.heap.size
section
variable {w w' : World} {b0 : Nat} {v : Value} {l : List Ce}
theorem ce_ty : 44 ≠ 9 := by decide
theorem LK.nil (h : b0 ≤ w.heap.size) : LK b0 w (.slice none 0 0) [] := ⟨World.ownsRow_nil _ _ _ _, by simp, h⟩
theorem LK.below (h : LK b0 w v l) (hb : Below w.heap.size w w') : LK b0 w' v l := by
  refine ⟨h.own.kept (grown_of_below hb none) ?_, fun x hx => (h.ky x hx).below hb, Nat.le_trans h.sz hb.size⟩
  cases hv : v.ownBlock with
  | none => exact .inl rfl
  | some q => exact .inr (by simp)
theorem LK.alloc (h : LK b0 w v l) (o : Obj) : LK b0 (w.alloc o) v l := h.below ((Below.refl _ _).alloc (Nat.le_refl _) o)
theorem LK.snoc {o : Obj} {v' : Value} {x : Ce} (h : LK b0 w v l) (hx : KyF w x.tv x.keys) (own' : w'.ownsRow b0 44 3 v' (l.length + 1) (l.flatMap Ce.cells ++ Ce.cells x)) (k : (w.alloc o).grownBy w' v.ownBlock) : LK b0 w' v' (l ++ [x]) := by
  have hs := k.size
  simp at hs
  have h0 := h.sz
  refine ⟨by simpa using own', fun y hy => ?_, by omega⟩
  rcases List.mem_append.1 hy with hy | hy
  · exact (h.ky y hy).app h.own ce_ty k
  · obtain rfl := List.mem_singleton.1 hy
    exact hx.app h.own ce_ty k
theorem LK.rat (h : LK b0 w v l) : ∃ a c, v = .slice a l.length c ∧ RAt w a 3 Ce.cells l ∧ l.length ≤ c ∧ c ≤ maxLen := RAt.of_own h.own (fun x _ => x.len)
theorem LK.blk {g n cap : Nat} (h : LK b0 w (.slice (some ⟨g, 0, none⟩) n cap) l) : ∃ cur, w.heap[g]? = some (.cells cur 44 (0, 0)) := by
  rcases h.own.2 with ⟨e, _⟩ | ⟨g', cap', cur, e, _, hg, _⟩
  · cases e
  · injection e with e1 e2 e3
    injection e1 with e1
    injection e1 with e1
    subst e1
    exact ⟨cur, hg⟩
theorem LK.cell {g n cap j i : Nat} {u : Value} (h : LK b0 w (.slice (some ⟨g, 0, none⟩) n cap) l) (hn : l.length = n) (hj : j < l.length) (hi : i < 3) (hv : (Ce.cells l[j])[i]? = some u) : w.cell? ⟨g, j * 3 + i, none⟩ = some u := by
  subst hn
  have h1 : (j + 1) * 3 ≤ l.length * 3 := Nat.mul_le_mul_right _ hj
  rw [Nat.add_mul] at h1
  rw [h.own.cellAt _ (by omega), fm_get 3 Ce.cells l (fun x _ => x.len) j i hj hi]
  exact hv
theorem LK.free {g n cap : Nat} (h : LK b0 w (.slice (some ⟨g, 0, none⟩) n cap) l) (hn : l.length = n) (i : Nat) : w.frozen? ⟨g, i, none⟩ = false := by
  subst hn
  exact h.own.frozenAt _
theorem LK.put {g n cap j i : Nat} {u : Value} {x' : Ce} (h : LK b0 w (.slice (some ⟨g, 0, none⟩) n cap) l) (hn : l.length = n) (hj : j < l.length) (hi : i < 3) (hx : Ce.cells x' = (Ce.cells l[j]).set i u) (hk : KyF w x'.tv x'.keys) :
    LK b0 (w.setCell ⟨g, j * 3 + i, none⟩ u) (.slice (some ⟨g, 0, none⟩) n cap) (l.set j x') := by
  obtain ⟨cur, hg⟩ := h.blk
  subst hn
  obtain ⟨o1, o2⟩ := h.own.stored (j * 3 + i) u
  rw [fm_set 3 Ce.cells l (fun x _ => x.len) j i hj hi x' u hx] at o1
  refine ⟨by simpa using o1, fun y hy => ?_, by simpa [World.setCell] using h.sz⟩
  rcases List.mem_or_eq_of_mem_set hy with hy | rfl
  · exact (h.ky y hy).set hg ce_ty
  · exact hk.set hg ce_ty
end
end Go.Proofs.YtmhnnbffhciinaaDoor
