/- Tags that a maker has laid: a block of strings of their own, apart from the stream and from what is written. -/
import Derived.Test.YtmhnnbffhciinaaDoorOBox
import Derived.Test.YtmhnnbffhciinaaDoorKp
import Derived.Test.YtmhnnbffhciinaaDoorOfSpec
set_option linter.unusedVariables false
namespace Go.Proofs.YtmhnnbffhciinaaDoor
open Go.RowKit

/-- the tags at tv: none, or they begin a block of strings apart from the stream -/
def TgF (w : World) (S : SC) (tv : Option Addr) (tags : List ByteArray) : Prop := tags = [] ∨ ∃ p cur, tv = some ⟨p, 0, none⟩ ∧ p ≠ S.g ∧ w.heap[p]? = some (.cells cur 9 (0, 0)) ∧ cur.toList.take tags.length = tags.map Value.string
section
variable {w w' : World} {S : SC} {tv : Option Addr} {tags : List ByteArray}
theorem TgF.nil (w : World) (S : SC) (tv : Option Addr) : TgF w S tv [] := .inl rfl
theorem TgF.strs (h : TgF w S tv tags) : StrsAt w tv tags := by
  rcases h with rfl | ⟨p, cur, rfl, _, hb, ht⟩
  · exact StrsAt.nil _ _
  · intro j hj
    refine ⟨p, 0, rfl, (Array.getElem?_eq_some_iff.1 hb).1, ?_⟩
    have h1 : (cur.toList.take tags.length)[j]? = some (.string tags[j]) := by
      rw [ht]
      simp [hj]
    rw [List.getElem?_take_of_lt hj] at h1
    simp only [World.cell?]
    rw [hb]
    simp only [Nat.zero_add]
    rw [← Array.getElem?_toList, h1]
    rfl
theorem TgF.kept {row : Option Nat} (h : TgF w S tv tags) (hb : w.grownBy w' row) (hr : ∀ p cur fr, row = some p → w.heap[p]? = some (.cells cur 9 fr) → p = S.g) : TgF w' S tv tags := by
  rcases h with rfl | ⟨p, cur, rfl, hp, hq, ht⟩
  · exact .inl rfl
  · exact .inr ⟨p, cur, rfl, hp, (hb.block p (Array.getElem?_eq_some_iff.1 hq).1 (fun e => hp (hr p _ _ e.symm hq))).trans hq, ht⟩
theorem TgF.draw (h : TgF w S tv tags) (hb : w.grownBy w' (some S.g)) : TgF w' S tv tags := h.kept hb (fun p _ _ e _ => (Option.some.inj e).symm)
theorem TgF.below (h : TgF w S tv tags) (hb : Below w.heap.size w w') : TgF w' S tv tags := h.kept (grown_of_below hb none) (fun _ _ _ e _ => by cases e)
theorem TgF.alloc (h : TgF w S tv tags) (o : Obj) : TgF (w.alloc o) S tv tags := h.below ((Below.refl _ _).alloc (Nat.le_refl _) o)
theorem TgF.drewN (h : TgF w S tv tags) (n : Nat) : TgF (w.drewN n) S tv tags := h
/-- .. behind an append to a list of another type -/
theorem TgF.app {b0 n C : Nat} {t : TypeId} {v : Value} {xs : List Value} {o : Obj} (h : TgF w S tv tags) (own : w.ownsRow b0 t C v n xs) (ht : t ≠ 9) (hb : (w.alloc o).grownBy w' v.ownBlock) : TgF w' S tv tags := by
  refine (h.alloc o).kept hb (fun p cur fr e hc => ?_)
  rcases (own.alloc o).2 with ⟨rfl, _⟩ | ⟨g, cap, cur', rfl, _, hg, _⟩
  · cases e
  · obtain rfl := Option.some.inj e
    rw [hg] at hc
    injection hc with hc
    injection hc with _ hc _
    exact absurd hc ht
/-- .. behind a write to a block of another type -/
theorem TgF.set {g i : Nat} {cur : Array Value} {t : TypeId} {fr : Nat × Nat} {u : Value} (h : TgF w S tv tags) (hg : w.heap[g]? = some (.cells cur t fr)) (ht : t ≠ 9) : TgF (w.setCell ⟨g, i, none⟩ u) S tv tags := by
  refine h.kept (grown_set (grown_same w (some g)) (p := ⟨g, i, none⟩) (.inl rfl) u) (fun p cur' fr' e hc => ?_)
  obtain rfl : g = p := Option.some.inj e
  rw [hg] at hc
  injection hc with hc
  injection hc with _ hc _
  exact absurd hc ht
theorem TgF.new (w : World) (S : SC) (tags : List ByteArray) (hS : S.g < w.heap.size) : TgF (w.alloc (.cells (tags.map Value.string).toArray 9)) S (some ⟨w.heap.size, 0, none⟩) tags :=
  .inr ⟨_, _, rfl, by omega, heap_alloc_new w _, List.take_of_length_le (by simp)⟩
/-- .. where the block goes on behind the tags -/
theorem TgF.newP (w : World) (S : SC) (all : List ByteArray) (n : Nat) (hS : S.g < w.heap.size) (hn : n ≤ all.length) : TgF (w.alloc (.cells (all.map Value.string).toArray 9)) S (some ⟨w.heap.size, 0, none⟩) (all.take n) :=
  .inr ⟨_, _, rfl, by omega, heap_alloc_new w _, by simp [Nat.min_eq_left hn, List.map_take]⟩
/-- .. out of a row of one's own -/
theorem TgF.own {b0 : Nat} {v : Value} {a : Option Addr} {c : Nat} (h : w.ownsRow b0 9 1 v tags.length (tags.map Value.string)) (hv : v = .slice a tags.length c) (hb : S.g < b0) : TgF w S a tags := by
  rcases h.2 with ⟨e, h0⟩ | ⟨g, cap, cur, e, hbg, hg, _, _, _, ht⟩
  · exact .inl (List.eq_nil_of_length_eq_zero h0)
  · rw [hv] at e
    injection e with e1 e2 e3
    exact .inr ⟨g, cur, e1, by omega, hg, by simpa using ht⟩
theorem TgF.kp (h : TgF w S tv tags) : Kp S (fun w => StrsAt w tv tags) w := fun w' k => (h.draw k).strs
end
theorem Kp.tags {α : Type} {S : SC} {w : World} {tv : α → Option Addr} {tags : α → List ByteArray} {l : List α} (h : ∀ x ∈ l, TgF w S (tv x) (tags x)) : Kp S (fun w => TagsAt tv tags w l) w := fun w' k x hx => ((h x hx).draw k).strs
end Go.Proofs.YtmhnnbffhciinaaDoor
