/- A row of cells that lies whole in one block and may be written; make of such a row. -/
import Derived.Test.YtfdpfkdfglombaaGreatDoorInts
set_option linter.unusedVariables false
namespace Go.Proofs.YtfdpfkdfglombaaGreatDoor
open Go.RowKit

/-- block g holds the values f 0, .., f (n - 1), and none of them is frozen -/
structure RowG (w : World) (g n : Nat) (f : Nat → Value) : Prop where
  lt : g < w.heap.size
  cell : ∀ j, j < n → w.cell? ⟨g, j, none⟩ = some (f j)
  free : ∀ j, j < n → w.frozen? ⟨g, j, none⟩ = false

section
variable {w w' : World} {g n : Nat} {f f' : Nat → Value}
theorem RowG.congr (h : RowG w g n f) (hf : ∀ j, j < n → f j = f' j) : RowG w g n f' :=
  ⟨h.lt, fun j hj => by rw [← hf j hj]; exact h.cell j hj, h.free⟩
theorem RowG.below (h : RowG w g n f) (hb : Below w.heap.size w w') : RowG w' g n f :=
  ⟨Nat.lt_of_lt_of_le h.lt hb.size, fun j hj => (hb.cell (p := ⟨g, j, none⟩) h.lt).trans (h.cell j hj), fun j hj => (hb.frozen (p := ⟨g, j, none⟩) h.lt).trans (h.free j hj)⟩
theorem RowG.alloc (h : RowG w g n f) (o : Obj) : RowG (w.alloc o) g n f := h.below ((Below.refl _ _).alloc (Nat.le_refl _) o)
theorem RowG.drewN (h : RowG w g n f) (k : Nat) : RowG (w.drewN k) g n f := ⟨h.lt, h.cell, h.free⟩
theorem RowG.drew (h : RowG w g n f) : RowG w.drew g n f := ⟨h.lt, h.cell, h.free⟩
theorem RowG.grown {row : Option Nat} (h : RowG w g n f) (hg : w.grownBy w' row) (hne : some g ≠ row) : RowG w' g n f :=
  ⟨Nat.lt_of_lt_of_le h.lt hg.size, fun j hj => (World.cell?_of_block (hg.block g h.lt hne)).trans (h.cell j hj), fun j hj => (World.frozen?_of_block (hg.block g h.lt hne)).trans (h.free j hj)⟩
theorem RowG.far (h : RowG w g n f) {p : Addr} (hp : g ≠ p.block) (u : Value) : RowG (w.setCell p u) g n f :=
  ⟨by simpa [World.setCell] using h.lt, fun j hj => (World.cell?_of_block (a := ⟨g, j, none⟩) (Below.heap_setCell w p u g hp)).trans (h.cell j hj),
    fun j hj => (World.frozen?_of_block (a := ⟨g, j, none⟩) (Below.heap_setCell w p u g hp)).trans (h.free j hj)⟩
theorem RowG.set (h : RowG w g n f) (k : Nat) (hk : k < n) (v : Value) : RowG (w.setCell ⟨g, k, none⟩ v) g n (fun j => if j = k then v else f j) := by
  refine ⟨by simpa [World.setCell] using h.lt, fun j hj => ?_, fun j hj => ?_⟩
  · by_cases e : j = k
    · subst e
      rw [if_pos rfl]
      exact World.cell?_setCell_same _ _ _ (h.cell j hj)
    · rw [if_neg e]
      exact (World.cell?_setCell_other w _ _ _ (by intro h'; injection h' with _ h2; exact e h2.symm)).trans (h.cell j hj)
  · have : (w.setCell ⟨g, k, none⟩ v).frozen? ⟨g, j, none⟩ = w.frozen? ⟨g, j, none⟩ := by simp
    rw [this]; exact h.free j hj
theorem RowG.of_own {base : Nat} {t : TypeId} {cap : Nat} {l : List Value} (h : w.ownsRow base t 1 (.slice (some ⟨g, 0, none⟩) n cap) n l) : RowG w g n (fun j => l.getD j undef) := by
  have hl : l.length = n := by simpa using h.1
  refine ⟨(h.lt g (by simp [Value.ownBlock])).2, fun j hj => ?_, fun j _ => h.frozenAt j⟩
  exact (h.cellAt j (by omega)).trans (by simp [hl, hj])
theorem RowG.ints (h : RowG w g n f) {zs : List Int} (hl : zs.length = n) (hz : ∀ j (hj : j < zs.length), f j = .int .i64 zs[j]) : IntsAt w (some ⟨g, 0, none⟩) zs := by
  intro j hj
  refine ⟨g, 0, rfl, h.lt, ?_⟩
  rw [← hz j hj, Nat.zero_add]
  exact h.cell j (by omega)
end

theorem madeCells_toList (z : Value) (hz : z.cells = #[z]) (n : Nat) (j : Nat) (hj : j < n) : (madeCells z.cells (n * 1)).toList.getD j undef = z := by
  rw [hz]
  simp [madeCells, hj, Nat.mod_one]

/-- make of n elements of one cell -/
theorem wpList_make_row {P : Program} (w : World) {ops : Array Oper} {rest : List Oper} {o : Oper} {a : Act} {Q : Exit → Act → World → Prop}
    (hg : o.guard = none) (l c : Operand) (t : TypeId) (hop : o.op = Op.makeSlice t l c)
    (e : TypeId) (i : TypeInfo) (z : Value) (h1 : P.underlying t = some (.slice e)) (h2 : P.info? e = some i) (h3 : i.zero = some z) (h4 : i.size = 1) (hzc : z.cells = #[z])
    (n : Nat) (hl : a.eval l = .int .i64 (n : Int)) (hc : a.eval c = .int .i64 (n : Int)) (b2 : i.bytes * n ≤ 281474976710656) (b3 : n ≤ maxLen)
    (hK : ∀ w', RowG w' w.heap.size n (fun _ => z) → w.grownBy w' none → w'.heap.size = w.heap.size + 1 → wpList P ops Q rest (a.put o.dst (.slice (some ⟨w.heap.size, 0, none⟩) n n)) w') :
    wpList P ops Q (o :: rest) a w := by
  refine wpList_plain hg fun K hK' => ?_
  obtain ⟨w', hrun, r1, r2⟩ := run_make_full (P := P) w w.heap.size t e i z 1 h1 h2 h3 h4 .i64 .i64 n b2 b3 (Nat.le_refl _)
  have hrun2 := run_make (P := P) w t e i z h1 h2 h3 .i64 .i64 n n (by omega) (Int.le_refl _) (by have h : ((i.bytes * n : Nat) : Int) ≤ 281474976710656 := by omega
                                                                                                  rwa [Int.natCast_mul] at h) (by unfold maxLen at b3; omega)
  rw [hrun] at hrun2
  have hw : w' = w.alloc (.cells (madeCells z.cells ((n : Int).toNat * i.size)) e) := by injection hrun2
  unfold Oper.wp
  simp [execOp, hop, hl, hc, hrun, Result.andThen]
  refine hK' _ _ (hK w' ((RowG.of_own r1).congr fun j hj => madeCells_toList z hzc n j hj) r2 ?_)
  rw [hw]
  simp
end Go.Proofs.YtfdpfkdfglombaaGreatDoor
