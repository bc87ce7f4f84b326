/- Lists of conditions that grow beside the stream, and what the makers of conditions leave. -/
import Derived.Test.YtfdpfkdfglombaaGreatDoorCndP
set_option linter.unusedVariables false
namespace Go.Proofs.YtfdpfkdfglombaaGreatDoor
open Go.RowKit

/-- a list of conditions of one's own; no part of a condition in it lies in the list's own block -/
def LC (d : Nat) (w : World) (b0 : Nat) (wr : World) (S : SC) (K : Nat) (t : TypeId) (v : Value) (l : List Cn) : Prop :=
  LstR w b0 wr S K t 9 Cn.cells v l ∧ ∀ x ∈ l, TAt d wr x ∧ FarT d x S.g ∧ ∀ g, v.ownBlock = some g → FarT d x g
section
variable {w wr wr' : World} {d b0 K K' : Nat} {S : SC} {t : TypeId} {v : Value} {l : List Cn}
theorem LC.nil (h : LstR w b0 wr S K t 9 Cn.cells v []) : LC d w b0 wr S K t v [] := ⟨h, by simp⟩
theorem LC.strm (h : LC d w b0 wr S K t v l) : Strm wr S K := h.1.2.1
theorem LC.size (h : LC d w b0 wr S K t v l) : b0 ≤ wr.heap.size := h.1.2.2.2
theorem LC.grow (h : LC d w b0 wr S K t v l) : w.grownBy wr (some S.g) := h.1.2.2.1
theorem LC.mono (h : LC d w b0 wr S K t v l) (hK : K ≤ K') : LC d w b0 wr S K' t v l := by
  obtain ⟨⟨q1, q2, q3, q4⟩, h2⟩ := h
  exact ⟨⟨q1, strm_mono q2 hK, q3, q4⟩, h2⟩
theorem LC.draw (h : LC d w b0 wr S K t v l) (k : wr.grownBy wr' (some S.g)) (s : Strm wr' S K') (hb : S.g < b0) : LC d w b0 wr' S K' t v l :=
  ⟨h.1.draw k s hb, fun x hx => ⟨(h.2 x hx).1.kept k (fun g e => by obtain rfl := Option.some.inj e; exact (h.2 x hx).2.1), (h.2 x hx).2⟩⟩
theorem LC.alloc (h : LC d w b0 wr S K t v l) (o : Obj) (hb : S.g < b0) : LC d w b0 (wr.alloc o) S K t v l := h.draw (World.grownBy_alloc _ _ _) (strm_alloc h.strm o) hb
theorem LC.snoc {o : Obj} {v' : Value} {x : Cn} (h : LC d w b0 wr S K t v l) (hx : TAt d wr x) (hxs : FarT d x S.g) (hxo : ∀ g, v.ownBlock = some g → FarT d x g) (hb : S.g < b0) (hw : w.heap.size ≤ b0)
    (own' : wr'.ownsRow b0 t 9 v' (l.length + 1) (l.flatMap Cn.cells ++ x.cells)) (k : (wr.alloc o).grownBy wr' v.ownBlock) (hat : v'.ownBlock = v.ownBlock ∨ v'.ownBlock = some (wr.alloc o).heap.size) :
    LC d w b0 wr' S K t v' (l ++ [x]) := by
  refine ⟨h.1.snoc hb hw own' k, fun y hy => ?_⟩
  have hy' : TAt d wr y ∧ FarT d y S.g ∧ ∀ g, v.ownBlock = some g → FarT d y g := by
    rcases List.mem_append.1 hy with hy | hy
    · exact h.2 y hy
    · obtain rfl := List.mem_singleton.1 hy
      exact ⟨hx, hxs, hxo⟩
  obtain ⟨h1, h2, h3⟩ := hy'
  refine ⟨(h1.alloc o).kept k h3, h2, fun g e => ?_⟩
  rcases hat with e2 | e2
  · exact h3 g (e2.symm.trans e)
  · rw [e2] at e
    obtain rfl := Option.some.inj e
    exact (h1.alloc o).newFar (Nat.le_refl _)
end
/-- its lists are short -/
def smT : Nat → Cn → Prop
  | 0, _ => True
  | d + 1, c => c.nd.vals.length ≤ 9 ∧ c.nd.whs.length ≤ 100 ∧ ∀ x ∈ c.args, smT d x
/-- there are few in it, and its lists are short -/
def szS (d : Nat) (c : Cn) (M : Nat) : Prop := szN d c ≤ M ∧ smT d c
/-- what a maker of a condition leaves: it lies in new blocks -/
def GenC (S : SC) (K : Nat) (w : World) (d M : Nat) (e : Ending) (w' : World) : Prop :=
  ∃ c : Cn, e = .returned (.agg c.cells.toArray) ∧ TAt d w' c ∧ (∀ g, g < w.heap.size → FarT d c g) ∧ szS d c M ∧ w.grownBy w' (some S.g) ∧ Strm w' S K
/-- what a maker of a list of records leaves: the list lies in a new block -/
def GenN {α : Type} (S : SC) (K : Nat) (w : World) (C : Nat) (f : α → List Value) (P : List α → Prop) (e : Ending) (w' : World) : Prop :=
  ∃ a c l, P l ∧ e = .returned (.slice a l.length c) ∧ RAt w' a C f l ∧ l.length ≤ c ∧ c ≤ maxLen ∧ (∀ g, g < w.heap.size → Far a l.length g) ∧ w.grownBy w' (some S.g) ∧ Strm w' S K
theorem LstR.genN {α : Type} {w wr : World} {b0 K K' : Nat} {S : SC} {t : TypeId} {C : Nat} {f : α → List Value} {v : Value} {l : List α} {P : List α → Prop} (h : LstR w b0 wr S K t C f v l) (hw : w.heap.size ≤ b0) (hK : K ≤ K') (hf : ∀ x ∈ l, (f x).length = C) (hP : P l) : GenN S K' w C f P (.returned v) wr := by
  obtain ⟨own, s, g, hb⟩ := h
  obtain ⟨a, c, rfl, hI, hc1, hc2⟩ := RAt.of_own own hf
  refine ⟨a, c, l, hP, rfl, hI, hc1, hc2, fun q hq _ p off ha => ?_, g, strm_mono s hK⟩
  subst ha
  have := (own.lt p (by simp [Value.ownBlock])).1
  omega
/-- what a maker of a value leaves -/
def GenV (S : SC) (K : Nat) (w : World) (P : Vl → Prop) (e : Ending) (w' : World) : Prop :=
  ∃ x : Vl, P x ∧ e = .returned (.agg x.cells.toArray) ∧ w.grownBy w' (some S.g) ∧ Strm w' S K
end Go.Proofs.YtfdpfkdfglombaaGreatDoor
