/- A world that has changed in some blocks alone, and grown. -/
import Derived.Test.YtgdagknjnidmiaaGreatDoorKp
set_option linter.unusedVariables false
namespace Go.Proofs.YtgdagknjnidmiaaGreatDoor
open Go.RowKit

/-- w' is w with new blocks, and with writes to the blocks of B alone -/
structure Chg (w w' : World) (B : Nat → Prop) : Prop where
  os : w'.os = w.os
  tape : w'.tape = w.tape
  output : w'.output = w.output
  size : w.heap.size ≤ w'.heap.size
  block : ∀ i, i < w.heap.size → ¬ B i → w'.heap[i]? = w.heap[i]?
section
variable {w w' w'' : World} {B B' : Nat → Prop}
theorem Chg.refl (w : World) (B : Nat → Prop) : Chg w w B := ⟨rfl, rfl, rfl, Nat.le_refl _, fun _ _ _ => rfl⟩
theorem Chg.trans (h : Chg w w' B) (k : Chg w' w'' B') (hB : ∀ i, B' i → B i ∨ w.heap.size ≤ i) : Chg w w'' B :=
  ⟨k.os.trans h.os, k.tape.trans h.tape, k.output.trans h.output, Nat.le_trans h.size k.size, fun i hi hn => (k.block i (Nat.lt_of_lt_of_le hi h.size) (fun hb => by
    rcases hB i hb with h1 | h1
    · exact hn h1
    · omega)).trans (h.block i hi hn)⟩
theorem Chg.mono (h : Chg w w' B) (hB : ∀ i, B i → B' i ∨ w.heap.size ≤ i) : Chg w w' B' := (Chg.refl w B').trans h hB
theorem Chg.of_below (h : Below w.heap.size w w') (B : Nat → Prop) : Chg w w' B := ⟨h.os, h.tape, h.output, h.size, fun i hi _ => h.block i hi⟩
theorem Chg.of_grown {row : Option Nat} (h : w.grownBy w' row) (hB : ∀ q, row = some q → B q) : Chg w w' B := ⟨h.os, h.tape, h.output, h.size, fun i hi hn => h.block i hi (fun e => hn (hB i e.symm))⟩
theorem Chg.alloc (h : Chg w w' B) (o : Obj) : Chg w (w'.alloc o) B := h.trans (B' := fun _ => False) (Chg.of_below ((Below.refl _ _).alloc (Nat.le_refl _) o) _) (fun i hi => hi.elim)
theorem Chg.drew (h : Chg w w' B) : Chg w w'.drew B := ⟨h.os, h.tape, h.output, h.size, h.block⟩
theorem Chg.drewN (h : Chg w w' B) (n : Nat) : Chg w (w'.drewN n) B := ⟨h.os, h.tape, h.output, h.size, h.block⟩
theorem Chg.set (h : Chg w w' B) {p : Addr} (hp : B p.block ∨ w.heap.size ≤ p.block) (u : Value) : Chg w (w'.setCell p u) B :=
  ⟨h.os, h.tape, h.output, by simpa [World.setCell] using h.size, fun i hi hn => (Below.heap_setCell w' p u i (by
    rintro rfl
    rcases hp with hp | hp
    · exact hn hp
    · omega)).trans (h.block i hi hn)⟩
theorem Chg.below {b : Nat} (h : Chg w w' B) (hb : b ≤ w.heap.size) (hB : ∀ i, B i → b ≤ i) : Below b w w' := ⟨h.os, h.tape, h.output, h.size, fun i hi => h.block i (by omega) (fun hb => by have := hB i hb; omega)⟩
theorem Chg.grown {row : Option Nat} (h : Chg w w' B) (hB : ∀ i, B i → row = some i) : w.grownBy w' row := ⟨h.os, h.tape, h.output, h.size, fun i hi hne => h.block i hi (fun hb => hne (hB i hb).symm)⟩
theorem Chg.cell (h : Chg w w' B) {a : Addr} {v : Value} (hc : w.cell? a = some v) (hB : ¬ B a.block) : w'.cell? a = some v :=
  (World.cell?_of_block (h.block a.block (World.block_lt_of_cell? w _ hc) hB)).trans hc
theorem Chg.blk (h : Chg w w' B) {g : Nat} {o : Obj} (hc : w.heap[g]? = some o) (hB : ¬ B g) : w'.heap[g]? = some o := by
  refine (h.block g ?_ hB).trans hc
  rcases Nat.lt_or_ge g w.heap.size with h' | h'
  · exact h'
  · rw [Array.getElem?_eq_none h'] at hc; cases hc
theorem Chg.own {base e size n : Nat} {v : Value} {xs : List Value} (h : Chg w w' B) (ho : w.ownsRow base e size v n xs) (hB : ∀ k, v.ownBlock = some k → ¬ B k) : w'.ownsRow base e size v n xs := by
  refine ⟨ho.1, ?_⟩
  rcases ho.2 with h0 | ⟨g, cap, cur, rfl, hb, hg, h1⟩
  · exact .inl h0
  · exact .inr ⟨g, cap, cur, rfl, hb, h.blk hg (hB g rfl), h1⟩
theorem Chg.recs {α : Type} {a : Option Addr} {C : Nat} {f : α → List Value} {l : List α} (h : Chg w w' B) (hr : RAt w a C f l) (hB : ∀ p off, a = some ⟨p, off, none⟩ → ¬ B p) : RAt w' a C f l := by
  intro j hj
  obtain ⟨p, off, h1, h2, h3⟩ := hr j hj
  exact ⟨p, off, h1, Nat.lt_of_lt_of_le h2 h.size, fun i v hv => h.cell (h3 i v hv) (hB p off h1)⟩
theorem Chg.strm {S : SC} {K : Nat} (h : Chg w w' B) (hs : Strm w S K) (hB : ∀ i, B i → S.g < i) : Strm w' S K := by
  obtain ⟨⟨x, hx, hb⟩, hBg, hlen, hel⟩ := hs
  refine ⟨⟨x, hx, h.blk hb (fun hb => by have := hB _ hb; omega)⟩, hBg, hlen, fun i hi => ?_⟩
  obtain ⟨b, off, n, h1, h2, h3, h4⟩ := hel i hi
  exact ⟨b, off, n, h1, h2, h.cell h3 (fun hb => by have : S.g < b := hB _ hb; omega), h4⟩
end
end Go.Proofs.YtgdagknjnidmiaaGreatDoor
