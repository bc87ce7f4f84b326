/- Slices of structs of one-cell fields, read as lists of records, and such lists that grow beside the stream. -/
import Derived.Test.YtfdpfkdfglombaaGreatDoorMem
set_option linter.unusedVariables false
namespace Go.Proofs.YtfdpfkdfglombaaGreatDoor
open Go.RowKit

theorem fm_length {α : Type} (C : Nat) (f : α → List Value) (l : List α) (hf : ∀ x ∈ l, (f x).length = C) : (l.flatMap f).length = l.length * C := by
  induction l with
  | nil => simp
  | cons x l ih =>
    have h1 := hf x (by simp)
    have h2 := ih (fun y hy => hf y (by simp [hy]))
    rw [List.flatMap_cons, List.length_append, h1, h2, List.length_cons, Nat.add_mul]
    omega
theorem fm_get {α : Type} (C : Nat) (f : α → List Value) (l : List α) (hf : ∀ x ∈ l, (f x).length = C) (j i : Nat) (hj : j < l.length) (hi : i < C) : (l.flatMap f)[j * C + i]? = (f l[j])[i]? := by
  induction l generalizing j with
  | nil => simp at hj
  | cons x l ih =>
    have h1 := hf x (by simp)
    rw [List.flatMap_cons]
    cases j with
    | zero => rw [List.getElem?_append_left (by omega)]; simp
    | succ j =>
      rw [List.getElem?_append_right (by rw [Nat.add_mul]; omega)]
      rw [show (j + 1) * C + i - (f x).length = j * C + i by rw [Nat.add_mul]; omega]
      exact ih (fun y hy => hf y (by simp [hy])) j (by simpa using hj)
theorem fm_set {α : Type} (C : Nat) (f : α → List Value) (l : List α) (hf : ∀ x ∈ l, (f x).length = C) (j i : Nat) (hj : j < l.length) (hi : i < C) (x' : α) (u : Value) (hx : f x' = (f l[j]).set i u) :
    (l.flatMap f).set (j * C + i) u = (l.set j x').flatMap f := by
  induction l generalizing j with
  | nil => simp at hj
  | cons x l ih =>
    have h1 := hf x (by simp)
    cases j with
    | zero =>
      simp only [List.set_cons_zero, List.flatMap_cons]
      rw [List.set_append_left _ _ (by omega)]
      simp only [List.getElem_cons_zero] at hx
      rw [hx]; simp
    | succ j =>
      simp only [List.set_cons_succ, List.flatMap_cons]
      rw [List.set_append_right _ _ (by rw [Nat.add_mul]; omega)]
      rw [show (j + 1) * C + i - (f x).length = j * C + i by rw [Nat.add_mul]; omega]
      rw [ih (fun y hy => hf y (by simp [hy])) j (by simpa using hj) (by simpa using hx)]

/-- the slice at a reads as the records l; f gives a record's C cells -/
def RAt {α : Type} (w : World) (a : Option Addr) (C : Nat) (f : α → List Value) (l : List α) : Prop :=
  ∀ j (hj : j < l.length), ∃ p off, a = some ⟨p, off, none⟩ ∧ p < w.heap.size ∧ ∀ i v, (f l[j])[i]? = some v → w.cell? ⟨p, off + j * C + i, none⟩ = some v

theorem RAt.nil {α : Type} (w : World) (a : Option Addr) (C : Nat) (f : α → List Value) : RAt w a C f [] := fun j hj => by simp at hj
theorem RAt.below {α : Type} {w w' : World} {a : Option Addr} {C : Nat} {f : α → List Value} {l : List α} (h : RAt w a C f l) (hb : Below w.heap.size w w') : RAt w' a C f l := by
  intro j hj
  obtain ⟨p, off, h1, h2, h3⟩ := h j hj
  exact ⟨p, off, h1, Nat.lt_of_lt_of_le h2 hb.size, fun i v hv => (hb.cell (p := ⟨p, off + j * C + i, none⟩) h2).trans (h3 i v hv)⟩
theorem RAt.grown {α : Type} {w w' : World} {a : Option Addr} {C : Nat} {f : α → List Value} {l : List α} {g : Nat} (h : RAt w a C f l) (hb : w.grownBy w' (some g)) (hg : ∀ p off, a = some ⟨p, off, none⟩ → p ≠ g) : RAt w' a C f l := by
  intro j hj
  obtain ⟨p, off, h1, h2, h3⟩ := h j hj
  exact ⟨p, off, h1, Nat.lt_of_lt_of_le h2 hb.size, fun i v hv => hb.cell (h3 i v hv) (by have := hg p off h1; simpa using this)⟩
theorem RAt.alloc {α : Type} {w : World} {a : Option Addr} {C : Nat} {f : α → List Value} {l : List α} (h : RAt w a C f l) (o : Obj) : RAt (w.alloc o) a C f l := h.below ((Below.refl _ _).alloc (Nat.le_refl _) o)
theorem RAt.take {α : Type} {w : World} {a : Option Addr} {C : Nat} {f : α → List Value} {l : List α} (h : RAt w a C f l) (n : Nat) : RAt w a C f (l.take n) := by
  intro j hj
  have hj' : j < l.length := by simp at hj; omega
  obtain ⟨p, off, h1, h2, h3⟩ := h j hj'
  refine ⟨p, off, h1, h2, fun i v hv => h3 i v ?_⟩
  simpa using hv
theorem RAt.of_own {α : Type} {w : World} {b0 : Nat} {t : TypeId} {v : Value} {C : Nat} {f : α → List Value} {l : List α} (h : w.ownsRow b0 t C v l.length (l.flatMap f)) (hf : ∀ x ∈ l, (f x).length = C) :
    ∃ a c, v = .slice a l.length c ∧ RAt w a C f l ∧ l.length ≤ c ∧ c ≤ maxLen := by
  rcases h.2 with ⟨rfl, h0⟩ | ⟨g, cap, cur, rfl, hbg, hg, hnc, hcm, _⟩
  · have : l = [] := List.eq_nil_of_length_eq_zero h0
    subst this
    exact ⟨none, 0, rfl, RAt.nil _ _ _ _, Nat.le_refl _, Nat.zero_le _⟩
  · refine ⟨_, cap, rfl, fun j hj => ⟨g, 0, rfl, (Array.getElem?_eq_some_iff.1 hg).1, fun i v hv => ?_⟩, hnc, hcm⟩
    have hi : i < C := by
      have := hf l[j] (List.getElem_mem hj)
      rw [← this]
      exact (List.getElem?_eq_some_iff.1 hv).1
    have hlt : j * C + i < l.length * C := by
      have : (j + 1) * C ≤ l.length * C := Nat.mul_le_mul_right _ hj
      rw [Nat.add_mul] at this
      omega
    rw [Nat.zero_add, h.cellAt _ hlt, fm_get C f l hf j i hj hi]
    exact hv
theorem RAt.block {α : Type} {w : World} {p : Nat} {C : Nat} {f : α → List Value} {l : List α} {t : TypeId} (h : w.heap[p]? = some (.cells (l.flatMap f).toArray t (0, 0))) (hf : ∀ x ∈ l, (f x).length = C) : RAt w (some ⟨p, 0, none⟩) C f l := by
  intro j hj
  refine ⟨p, 0, rfl, ?_, fun i v hv => ?_⟩
  · rcases Nat.lt_or_ge p w.heap.size with h' | h'
    · exact h'
    · rw [Array.getElem?_eq_none h'] at h; cases h
  · have hi : i < C := by
      have := hf l[j] (List.getElem_mem hj)
      rw [← this]
      exact (List.getElem?_eq_some_iff.1 hv).1
    have e := (fm_get C f l hf j i hj hi).trans hv
    simp only [World.cell?, h, Nat.zero_add, List.getElem?_toArray]
    rw [e]
    rfl

theorem RAt.at4 {α : Type} {w : World} {a : Option Addr} {C : Nat} {f : α → List Value} {l : List α} (h : RAt w a C f l) {j : Nat} (hj : j < l.length) {v0 v1 v2 v3 : Value} (e : f l[j] = [v0, v1, v2, v3]) :
    ∃ p off, a = some ⟨p, off, none⟩ ∧ p < w.heap.size ∧ w.cell? ⟨p, off + j * C, none⟩ = some v0 ∧ w.cell? ⟨p, off + j * C + 1, none⟩ = some v1 ∧ w.cell? ⟨p, off + j * C + 2, none⟩ = some v2 ∧ w.cell? ⟨p, off + j * C + 3, none⟩ = some v3 := by
  obtain ⟨p, off, h1, h2, h3⟩ := h j hj
  rw [e] at h3
  exact ⟨p, off, h1, h2, h3 0 v0 rfl, h3 1 v1 rfl, h3 2 v2 rfl, h3 3 v3 rfl⟩
theorem RAt.at5 {α : Type} {w : World} {a : Option Addr} {C : Nat} {f : α → List Value} {l : List α} (h : RAt w a C f l) {j : Nat} (hj : j < l.length) {v0 v1 v2 v3 v4 : Value} (e : f l[j] = [v0, v1, v2, v3, v4]) :
    ∃ p off, a = some ⟨p, off, none⟩ ∧ p < w.heap.size ∧ w.cell? ⟨p, off + j * C, none⟩ = some v0 ∧ w.cell? ⟨p, off + j * C + 1, none⟩ = some v1 ∧ w.cell? ⟨p, off + j * C + 2, none⟩ = some v2 ∧ w.cell? ⟨p, off + j * C + 3, none⟩ = some v3 ∧ w.cell? ⟨p, off + j * C + 4, none⟩ = some v4 := by
  obtain ⟨p, off, h1, h2, h3⟩ := h j hj
  rw [e] at h3
  exact ⟨p, off, h1, h2, h3 0 v0 rfl, h3 1 v1 rfl, h3 2 v2 rfl, h3 3 v3 rfl, h3 4 v4 rfl⟩

/-- a list of records of one's own that grows beside the stream -/
def LstR {α : Type} (w : World) (b0 : Nat) (wr : World) (S : SC) (K : Nat) (t : TypeId) (C : Nat) (f : α → List Value) (v : Value) (l : List α) : Prop :=
  wr.ownsRow b0 t C v l.length (l.flatMap f) ∧ Strm wr S K ∧ w.grownBy wr (some S.g) ∧ b0 ≤ wr.heap.size
section
variable {α : Type} {w wr : World} {b0 K : Nat} {S : SC} {t : TypeId} {C : Nat} {f : α → List Value} {v : Value} {l : List α}
theorem LstR.draw {wr' : World} {K' : Nat} (h : LstR w b0 wr S K t C f v l) (k : wr.grownBy wr' (some S.g)) (s : Strm wr' S K') (hb : S.g < b0) : LstR w b0 wr' S K' t C f v l := by
  obtain ⟨own, s0, g, hb0⟩ := h
  refine ⟨own.kept k ?_, s, grown_trans g k, Nat.le_trans hb0 k.size⟩
  cases hv : v.ownBlock with
  | none => exact .inl rfl
  | some q =>
    refine .inr fun e => ?_
    have := (own.lt q hv).1
    simp at e
    omega
theorem LstR.snoc {wr' : World} {o : Obj} {v' : Value} {x : α} (h : LstR w b0 wr S K t C f v l) (hb : S.g < b0) (hw : w.heap.size ≤ b0) (own' : wr'.ownsRow b0 t C v' (l.length + 1) (l.flatMap f ++ f x)) (k : (wr.alloc o).grownBy wr' v.ownBlock) : LstR w b0 wr' S K t C f v' (l ++ [x]) := by
  obtain ⟨own, s0, g, hb0⟩ := h
  have hr := fun q hq => (own.lt q hq).1
  have hsz := k.size
  simp at hsz
  refine ⟨by simpa using own', ?_, ?_, by omega⟩
  · have hs := strm_alloc s0 o
    have hg := strm_lt hs
    obtain ⟨⟨z, hz, hbk⟩, hBg, hlen, hel⟩ := hs
    refine ⟨⟨z, hz, (k.block _ hg (fun e => by have := hr _ e.symm; omega)).trans hbk⟩, hBg, hlen, fun i hi => ?_⟩
    obtain ⟨b, off, n, h1, h2, h3, h4⟩ := hel i hi
    exact ⟨b, off, n, h1, h2, k.cell h3 (fun e => by have : b0 ≤ b := hr _ e.symm; omega), h4⟩
  · have g' := grown_alloc g o
    exact ⟨k.os.trans g'.os, k.tape.trans g'.tape, k.output.trans g'.output, Nat.le_trans g'.size k.size, fun i hi hne => (k.block i (Nat.lt_of_lt_of_le hi g'.size) (fun e => by have := hr i e.symm; omega)).trans (g'.block i hi hne)⟩
theorem LstR.set {g n cap j i : Nat} {u : Value} {x' : α} (h : LstR w b0 wr S K t C f (.slice (some ⟨g, 0, none⟩) n cap) l) (hb : S.g < b0) (hw : w.heap.size ≤ b0) (hn : l.length = n) (hf : ∀ x ∈ l, (f x).length = C) (hj : j < l.length) (hi : i < C) (hx : f x' = (f l[j]).set i u) :
    LstR w b0 (wr.setCell ⟨g, j * C + i, none⟩ u) S K t C f (.slice (some ⟨g, 0, none⟩) n cap) (l.set j x') := by
  obtain ⟨own, s0, gr, hb0⟩ := h
  subst hn
  obtain ⟨o1, o2⟩ := own.stored (j * C + i) u
  have hg := (own.lt g (by simp [Value.ownBlock])).1
  refine ⟨?_, strm_set s0 (by show S.g < g; omega) u, grown_set gr (.inr (by show w.heap.size ≤ g; omega)) u, by simpa [World.setCell] using hb0⟩
  rw [fm_set C f l hf j i hj hi x' u hx] at o1
  simpa using o1
/-- what the maker of a list of records leaves; the list lies apart from the stream -/
def GenR (S : SC) (K : Nat) (w : World) (C : Nat) (f : α → List Value) (P : List α → Prop) (e : Ending) (w' : World) : Prop :=
  ∃ a c l, P l ∧ e = .returned (.slice a l.length c) ∧ RAt w' a C f l ∧ l.length ≤ c ∧ c ≤ maxLen ∧ (∀ p off, a = some ⟨p, off, none⟩ → p ≠ S.g) ∧ w.grownBy w' (some S.g) ∧ Strm w' S K
theorem LstR.gen {K' : Nat} {P : List α → Prop} (h : LstR w b0 wr S K t C f v l) (hS : S.g < b0) (hK : K ≤ K') (hf : ∀ x ∈ l, (f x).length = C) (hP : P l) : GenR S K' w C f P (.returned v) wr := by
  obtain ⟨own, s, g, hb⟩ := h
  obtain ⟨a, c, rfl, hI, hc1, hc2⟩ := RAt.of_own own hf
  refine ⟨a, c, l, hP, rfl, hI, hc1, hc2, fun p off ha => ?_, g, strm_mono s hK⟩
  subst ha
  have := (own.lt p (by simp [Value.ownBlock])).1
  omega
end
/-- the cells of a block of one record that was just made -/
theorem cells_new (w : World) (cs : Array Value) (t : TypeId) : ∀ j u, cs.toList[j]? = some u → (w.alloc (.cells cs t)).cell? ((⟨w.heap.size, 0, none⟩ : Addr).add j) = some u := by
  intro j u h
  have hb := heap_alloc_new w (.cells cs t)
  rw [Addr.add]
  split
  · rename_i h0
    subst h0
    simp only [World.cell?]
    rw [hb]
    simpa using h
  · simp only [World.cell?]
    rw [hb]
    simpa using h
/-- block q begins with the cells cs: a struct variable of one's own -/
def XB (w : World) (q : Nat) (cs : List Value) : Prop := q < w.heap.size ∧ ∀ i v, cs[i]? = some v → w.cell? ⟨q, i, none⟩ = some v
theorem XB.new (w : World) (cs : List Value) (t : TypeId) : XB (w.alloc (.cells cs.toArray t)) w.heap.size cs := by
  refine ⟨by simp, fun i v h => ?_⟩
  have hb := heap_alloc_new w (.cells cs.toArray t)
  simp only [World.cell?]
  rw [hb]
  simpa using h
theorem XB.below {w w' : World} {q : Nat} {cs : List Value} (h : XB w q cs) (hb : Below w.heap.size w w') : XB w' q cs :=
  ⟨Nat.lt_of_lt_of_le h.1 hb.size, fun i v hv => (hb.cell (p := ⟨q, i, none⟩) h.1).trans (h.2 i v hv)⟩
theorem XB.grown {w w' : World} {q : Nat} {cs : List Value} {row : Option Nat} (h : XB w q cs) (hb : w.grownBy w' row) (hr : row ≠ some q) : XB w' q cs :=
  ⟨Nat.lt_of_lt_of_le h.1 hb.size, fun i v hv => hb.cell (h.2 i v hv) (fun e => hr e.symm)⟩
theorem XB.alloc {w : World} {q : Nat} {cs : List Value} (h : XB w q cs) (o : Obj) : XB (w.alloc o) q cs := h.below ((Below.refl _ _).alloc (Nat.le_refl _) o)
theorem XB.drewN {w : World} {q : Nat} {cs : List Value} (h : XB w q cs) (n : Nat) : XB (w.drewN n) q cs := h
theorem XB.at4 {w : World} {q : Nat} {v0 v1 v2 v3 : Value} (h : XB w q [v0, v1, v2, v3]) : w.cell? ⟨q, 0, none⟩ = some v0 ∧ w.cell? ⟨q, 1, none⟩ = some v1 ∧ w.cell? ⟨q, 2, none⟩ = some v2 ∧ w.cell? ⟨q, 3, none⟩ = some v3 :=
  ⟨h.2 0 _ rfl, h.2 1 _ rfl, h.2 2 _ rfl, h.2 3 _ rfl⟩
theorem XB.at5 {w : World} {q : Nat} {v0 v1 v2 v3 v4 : Value} (h : XB w q [v0, v1, v2, v3, v4]) : w.cell? ⟨q, 0, none⟩ = some v0 ∧ w.cell? ⟨q, 1, none⟩ = some v1 ∧ w.cell? ⟨q, 2, none⟩ = some v2 ∧ w.cell? ⟨q, 3, none⟩ = some v3 ∧ w.cell? ⟨q, 4, none⟩ = some v4 :=
  ⟨h.2 0 _ rfl, h.2 1 _ rfl, h.2 2 _ rfl, h.2 3 _ rfl, h.2 4 _ rfl⟩
theorem XB.at6 {w : World} {q : Nat} {v0 v1 v2 v3 v4 v5 : Value} (h : XB w q [v0, v1, v2, v3, v4, v5]) : w.cell? ⟨q, 0, none⟩ = some v0 ∧ w.cell? ⟨q, 1, none⟩ = some v1 ∧ w.cell? ⟨q, 2, none⟩ = some v2 ∧ w.cell? ⟨q, 3, none⟩ = some v3 ∧ w.cell? ⟨q, 4, none⟩ = some v4 ∧ w.cell? ⟨q, 5, none⟩ = some v5 :=
  ⟨h.2 0 _ rfl, h.2 1 _ rfl, h.2 2 _ rfl, h.2 3 _ rfl, h.2 4 _ rfl, h.2 5 _ rfl⟩
theorem RAt.at6 {α : Type} {w : World} {a : Option Addr} {C : Nat} {f : α → List Value} {l : List α} (h : RAt w a C f l) {j : Nat} (hj : j < l.length) {v0 v1 v2 v3 v4 v5 : Value} (e : f l[j] = [v0, v1, v2, v3, v4, v5]) :
    ∃ p off, a = some ⟨p, off, none⟩ ∧ p < w.heap.size ∧ w.cell? ⟨p, off + j * C, none⟩ = some v0 ∧ w.cell? ⟨p, off + j * C + 1, none⟩ = some v1 ∧ w.cell? ⟨p, off + j * C + 2, none⟩ = some v2 ∧ w.cell? ⟨p, off + j * C + 3, none⟩ = some v3 ∧ w.cell? ⟨p, off + j * C + 4, none⟩ = some v4 ∧ w.cell? ⟨p, off + j * C + 5, none⟩ = some v5 := by
  obtain ⟨p, off, h1, h2, h3⟩ := h j hj
  rw [e] at h3
  exact ⟨p, off, h1, h2, h3 0 v0 rfl, h3 1 v1 rfl, h3 2 v2 rfl, h3 3 v3 rfl, h3 4 v4 rfl, h3 5 v5 rfl⟩
end Go.Proofs.YtfdpfkdfglombaaGreatDoor
