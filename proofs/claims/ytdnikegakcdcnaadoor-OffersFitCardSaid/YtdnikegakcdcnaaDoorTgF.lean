/- Tags that a maker has laid: a block of strings of their own, apart from the stream and from what is written. -/
import Derived.Test.YtdnikegakcdcnaaDoorOBox
import Derived.Test.YtdnikegakcdcnaaDoorKp
import Derived.Test.YtdnikegakcdcnaaDoorOfSpec
set_option linter.unusedVariables false
namespace Go.Proofs.YtdnikegakcdcnaaDoor
open Go.RowKit

/-- the tags at tv: none, or a block of strings apart from the stream -/
def TgF (w : World) (S : SC) (tv : Option Addr) (tags : List ByteArray) : Prop := tags = [] ∨ ∃ p, tv = some ⟨p, 0, none⟩ ∧ p ≠ S.g ∧ w.heap[p]? = some (.cells (tags.map Value.string).toArray 9 (0, 0))
section
variable {w w' : World} {S : SC} {tv : Option Addr} {tags : List ByteArray}
theorem TgF.nil (w : World) (S : SC) (tv : Option Addr) : TgF w S tv [] := .inl rfl
theorem TgF.strs (h : TgF w S tv tags) : StrsAt w tv tags := by
  rcases h with rfl | ⟨p, rfl, _, hb⟩
  · exact StrsAt.nil _ _
  · intro j hj
    refine ⟨p, 0, rfl, (Array.getElem?_eq_some_iff.1 hb).1, ?_⟩
    simp only [World.cell?]
    rw [hb]
    simp [hj]
theorem TgF.kept {row : Option Nat} (h : TgF w S tv tags) (hb : w.grownBy w' row) (hr : ∀ p cur fr, row = some p → w.heap[p]? = some (.cells cur 9 fr) → p = S.g) : TgF w' S tv tags := by
  rcases h with rfl | ⟨p, rfl, hp, hq⟩
  · exact .inl rfl
  · refine .inr ⟨p, rfl, hp, (hb.block p (Array.getElem?_eq_some_iff.1 hq).1 (fun e => hp (hr p _ _ e.symm hq))).trans hq⟩
theorem TgF.draw (h : TgF w S tv tags) (hb : w.grownBy w' (some S.g)) : TgF w' S tv tags := h.kept hb (fun p _ _ e _ => (Option.some.inj e).symm)
theorem TgF.below (h : TgF w S tv tags) (hb : Below w.heap.size w w') : TgF w' S tv tags := h.kept (grown_of_below hb none) (fun _ _ _ e _ => by cases e)
theorem TgF.alloc (h : TgF w S tv tags) (o : Obj) : TgF (w.alloc o) S tv tags := h.below ((Below.refl _ _).alloc (Nat.le_refl _) o)
theorem TgF.drewN (h : TgF w S tv tags) (n : Nat) : TgF (w.drewN n) S tv tags := h
/-- .. behind an append to a list of another type -/
theorem TgF.app {b0 n C : Nat} {t : TypeId} {v : Value} {xs : List Value} {o : Obj} (h : TgF w S tv tags) (own : w.ownsRow b0 t C v n xs) (ht : t ≠ 9) (hb : (w.alloc o).grownBy w' v.ownBlock) : TgF w' S tv tags := by
  refine (h.alloc o).kept hb (fun p cur fr e hc => ?_)
  rcases (own.alloc o).2 with ⟨rfl, _⟩ | ⟨g, cap, cur', rfl, _, hg, _⟩
  · cases e
  · obtain rfl := Option.some.inj e
    rw [hg] at hc
    injection hc with hc
    injection hc with _ hc _
    exact absurd hc ht
/-- .. behind a write to a block of another type -/
theorem TgF.set {g i : Nat} {cur : Array Value} {t : TypeId} {fr : Nat × Nat} {u : Value} (h : TgF w S tv tags) (hg : w.heap[g]? = some (.cells cur t fr)) (ht : t ≠ 9) : TgF (w.setCell ⟨g, i, none⟩ u) S tv tags := by
  refine h.kept (grown_set (grown_same w (some g)) (p := ⟨g, i, none⟩) (.inl rfl) u) (fun p cur' fr' e hc => ?_)
  obtain rfl : g = p := Option.some.inj e
  rw [hg] at hc
  injection hc with hc
  injection hc with _ hc _
  exact absurd hc ht
theorem TgF.new (w : World) (S : SC) (tags : List ByteArray) (hS : S.g < w.heap.size) : TgF (w.alloc (.cells (tags.map Value.string).toArray 9)) S (some ⟨w.heap.size, 0, none⟩) tags :=
  .inr ⟨_, rfl, by omega, heap_alloc_new w _⟩
theorem TgF.kp (h : TgF w S tv tags) : Kp S (fun w => StrsAt w tv tags) w := fun w' k => (h.draw k).strs
end
theorem Kp.tags {α : Type} {S : SC} {w : World} {tv : α → Option Addr} {tags : α → List ByteArray} {l : List α} (h : ∀ x ∈ l, TgF w S (tv x) (tags x)) : Kp S (fun w => TagsAt tv tags w l) w := fun w' k x hx => ((h x hx).draw k).strs
end Go.Proofs.YtdnikegakcdcnaaDoor
