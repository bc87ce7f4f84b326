/- Lists of records with tags that grow beside the stream: the tags stay. -/
import Derived.Test.YtmhnnbffhciinaaDoorTgF
set_option linter.unusedVariables false
namespace Go.Proofs.YtmhnnbffhciinaaDoor
open Go.RowKit

/-- a list of records of one's own, and the tags of its records -/
def LT {α : Type} (w : World) (b0 : Nat) (wr : World) (S : SC) (K : Nat) (t : TypeId) (C : Nat) (f : α → List Value) (tv : α → Option Addr) (tags : α → List ByteArray) (v : Value) (l : List α) : Prop :=
  LstR w b0 wr S K t C f v l ∧ ∀ x ∈ l, TgF wr S (tv x) (tags x)
/-- what the maker of such a list leaves -/
def GenT {α : Type} (S : SC) (K : Nat) (w : World) (C : Nat) (f : α → List Value) (tv : α → Option Addr) (tags : α → List ByteArray) (P : List α → Prop) (e : Ending) (w' : World) : Prop :=
  ∃ a c l, P l ∧ e = .returned (.slice a l.length c) ∧ l.length ≤ c ∧ c ≤ maxLen ∧ Kp S (fun w => RAt w a C f l) w' ∧ Kp S (fun w => TagsAt tv tags w l) w' ∧ w.grownBy w' (some S.g) ∧ Strm w' S K
section
variable {α : Type} {w wr wr' : World} {b0 K K' : Nat} {S : SC} {t : TypeId} {C : Nat} {f : α → List Value} {tv : α → Option Addr} {tags : α → List ByteArray} {v : Value} {l : List α}
theorem LT.nil (h : LstR w b0 wr S K t C f v []) : LT w b0 wr S K t C f tv tags v [] := ⟨h, by simp⟩
theorem LT.mono (h : LT w b0 wr S K t C f tv tags v l) (hK : K ≤ K') : LT w b0 wr S K' t C f tv tags v l := by
  obtain ⟨⟨q1, q2, q3, q4⟩, h2⟩ := h
  exact ⟨⟨q1, strm_mono q2 hK, q3, q4⟩, h2⟩
theorem LT.strm (h : LT w b0 wr S K t C f tv tags v l) : Strm wr S K := h.1.2.1
theorem LT.size (h : LT w b0 wr S K t C f tv tags v l) : b0 ≤ wr.heap.size := h.1.2.2.2
theorem LT.draw (h : LT w b0 wr S K t C f tv tags v l) (k : wr.grownBy wr' (some S.g)) (s : Strm wr' S K') (hb : S.g < b0) : LT w b0 wr' S K' t C f tv tags v l :=
  ⟨h.1.draw k s hb, fun x hx => (h.2 x hx).draw k⟩
theorem LT.alloc (h : LT w b0 wr S K t C f tv tags v l) (o : Obj) (hb : S.g < b0) : LT w b0 (wr.alloc o) S K t C f tv tags v l := h.draw (World.grownBy_alloc _ _ _) (strm_alloc h.strm o) hb
theorem LT.snoc {o : Obj} {v' : Value} {x : α} (h : LT w b0 wr S K t C f tv tags v l) (hx : TgF wr S (tv x) (tags x)) (ht : t ≠ 9) (hb : S.g < b0) (hw : w.heap.size ≤ b0) (own' : wr'.ownsRow b0 t C v' (l.length + 1) (l.flatMap f ++ f x)) (k : (wr.alloc o).grownBy wr' v.ownBlock) : LT w b0 wr' S K t C f tv tags v' (l ++ [x]) := by
  refine ⟨h.1.snoc hb hw own' k, fun y hy => ?_⟩
  rcases List.mem_append.1 hy with hy | hy
  · exact (h.2 y hy).app h.1.1 ht k
  · obtain rfl := List.mem_singleton.1 hy
    exact hx.app h.1.1 ht k
theorem LT.blk {g n cap : Nat} (h : LT w b0 wr S K t C f tv tags (.slice (some ⟨g, 0, none⟩) n cap) l) : ∃ cur, wr.heap[g]? = some (.cells cur t (0, 0)) := by
  rcases h.1.1.2 with ⟨e, _⟩ | ⟨g', cap', cur, e, _, hg, _⟩
  · cases e
  · injection e with e1 e2 e3
    injection e1 with e1
    injection e1 with e1
    subst e1
    exact ⟨cur, hg⟩
theorem LT.cell {g n cap j i : Nat} {u : Value} (h : LT w b0 wr S K t C f tv tags (.slice (some ⟨g, 0, none⟩) n cap) l) (hn : l.length = n) (hf : ∀ x ∈ l, (f x).length = C) (hj : j < l.length) (hi : i < C) (hv : (f l[j])[i]? = some u) : wr.cell? ⟨g, j * C + i, none⟩ = some u := by
  subst hn
  have h1 : (j + 1) * C ≤ l.length * C := Nat.mul_le_mul_right _ hj
  rw [Nat.add_mul] at h1
  rw [h.1.1.cellAt _ (by omega), fm_get C f l hf j i hj hi]
  exact hv
theorem LT.free {g n cap : Nat} (h : LT w b0 wr S K t C f tv tags (.slice (some ⟨g, 0, none⟩) n cap) l) (hn : l.length = n) (i : Nat) : wr.frozen? ⟨g, i, none⟩ = false := by
  subst hn
  exact h.1.1.frozenAt _
theorem LT.put {g n cap j i : Nat} {u : Value} {x' : α} (h : LT w b0 wr S K t C f tv tags (.slice (some ⟨g, 0, none⟩) n cap) l) (ht : t ≠ 9) (hb : S.g < b0) (hw : w.heap.size ≤ b0) (hn : l.length = n) (hf : ∀ x ∈ l, (f x).length = C) (hj : j < l.length) (hi : i < C) (hx : f x' = (f l[j]).set i u) (htg : TgF wr S (tv x') (tags x')) :
    LT w b0 (wr.setCell ⟨g, j * C + i, none⟩ u) S K t C f tv tags (.slice (some ⟨g, 0, none⟩) n cap) (l.set j x') := by
  obtain ⟨cur, hg⟩ := h.blk
  refine ⟨h.1.set hb hw hn hf hj hi hx, fun y hy => ?_⟩
  rcases List.mem_or_eq_of_mem_set hy with hy | rfl
  · exact (h.2 y hy).set hg ht
  · exact htg.set hg ht
theorem LT.gen {P : List α → Prop} (h : LT w b0 wr S K t C f tv tags v l) (hS : S.g < b0) (hK : K ≤ K') (hf : ∀ x ∈ l, (f x).length = C) (hP : P l) : GenT S K' w C f tv tags P (.returned v) wr := by
  obtain ⟨⟨own, s, g, hb⟩, h2⟩ := h
  obtain ⟨a, c, rfl, hI, hc1, hc2⟩ := RAt.of_own own hf
  refine ⟨a, c, l, hP, rfl, hc1, hc2, Kp.recs hI (fun p off ha => ?_), Kp.tags h2, g, strm_mono s hK⟩
  subst ha
  have := (own.lt p (by simp [Value.ownBlock])).1
  omega
end
end Go.Proofs.YtmhnnbffhciinaaDoor
