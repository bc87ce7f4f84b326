/- What is told of the list of raw numbers that comes in, and the stream that is made over it. -/
import Derived.Test.YtgdagknjnidmiaaGreatDoorMem
import Derived.Test.YtgdagknjnidmiaaGreatDoorStream
import Derived.Maps.Views
import Derived.Maps.OwnOps
import Derived.Test.YtgdagknjnidmiaaGreatDoorShelf
import Derived.Shelf.Strings.SlTrimAscii
import Derived.Test.YtgdagknjnidmiaaGreatDoorMeasure
import Derived.Test.YtgdagknjnidmiaaGreatDoorRowG
import Derived.Deep.AppendLies
import Derived.Shelf.Slices.Turned
import Derived.RegionTactic
import Derived.Deep.DrawnRows
namespace Go.Proofs.YtgdagknjnidmiaaGreatDoor
open Go.RowKit

/-- a slice of integers that came in: it is nil; or it leads to a row of 'cap' cells, the numbers zs, each fitting its kind -/
def IsRow (k : IntKind) (w : World) (a : Option Addr) (len cap : Nat) (zs : List Int) : Prop :=
  (a = none ∧ len = 0 ∧ cap = 0 ∧ zs = []) ∨
  ∃ x, a = some x ∧ len ≤ cap ∧ cap ≤ maxLen ∧ zs.length = cap ∧ (∀ i, i < zs.length → w.cell? (x.add i) = some (.int k (zs.getD i 0))) ∧ ∀ n ∈ zs, (Lit.int k n).wf = true

theorem bnd64 {n : Int} (h : (Lit.int .i64 n).wf = true) : -9223372036854775808 ≤ n ∧ n ≤ 9223372036854775807 := by
  simp [Lit.wf, IntKind.min, IntKind.max, IntKind.bits, IntKind.signed] at h
  omega

theorem strm_start {w : World} {a : Option Addr} {len cap : Nat} {zs : List Int} (h : IsRow .i64 w a len cap zs) :
    Strm (w.alloc (.cells #[.slice a len cap, .int .i64 0] 25)) ⟨w.heap.size, w.heap.size, a, len, cap⟩ 0 := by
  refine ⟨⟨0, Nat.le_refl _, heap_alloc_new w _⟩, Nat.le_refl _, ?_, ?_⟩
  · rcases h with ⟨_, rfl, _, _⟩ | ⟨x, _, h1, h2, _⟩
    · exact Nat.zero_le _
    · exact Nat.le_trans h1 h2
  · intro i hi
    rcases h with ⟨_, rfl, _, _⟩ | ⟨x, rfl, h1, h2, h3, h4, h5⟩
    · simp at hi
    · simp only at hi
      have hc := h4 i (by omega)
      have hs := World.cell?_spot hc
      obtain ⟨b, off, spot⟩ := x
      have hspot : spot = none := by simpa [Addr.add] using World.cell?_spot (h4 0 (by omega))
      subst hspot
      have e : (Addr.add ⟨b, off, none⟩ i) = ⟨b, off + i, none⟩ := by
        unfold Addr.add
        split
        · rename_i h0; subst h0; rfl
        · rfl
      rw [e] at hc
      have hlt := World.block_lt_of_cell? w _ hc
      have hw := bnd64 (h5 (zs.getD i 0) (by rw [List.getD_eq_getElem?_getD, List.getElem?_eq_getElem (by omega)]; exact List.getElem_mem _))
      exact ⟨b, off, _, rfl, hlt, (World.cell?_alloc_lt w _ _ hlt).trans hc, hw⟩
theorem strm_begin {w : World} {a : Option Addr} {len cap : Nat} {zs : List Int} (h : IsRow .i64 w a len cap zs) :
    ∃ S : SC, w.heap.size ≤ S.g ∧ Value.pointer (some ⟨w.heap.size, 0, none⟩) = S.p ∧ Strm (w.alloc (.cells #[.slice a len cap, .int .i64 0] 25)) S 0 ∧
      w.grownBy (w.alloc (.cells #[.slice a len cap, .int .i64 0] 25)) (some S.g) :=
  ⟨_, Nat.le_refl _, rfl, strm_start h, World.grownBy_alloc w _ _⟩
theorem below_of_grown {w w' : World} {g : Nat} (h : w.grownBy w' (some g)) (hg : w.heap.size ≤ g) : Below w.heap.size w w' :=
  ⟨h.os, h.tape, h.output, h.size, fun k hk => h.block k hk (by simp; omega)⟩
end Go.Proofs.YtgdagknjnidmiaaGreatDoor
/- Slices of structs of one-cell fields, read as lists of records, and such lists that grow beside the stream. -/
set_option linter.unusedVariables false
namespace Go.Proofs.YtgdagknjnidmiaaGreatDoor
open Go.RowKit

theorem fm_length {α : Type} (C : Nat) (f : α → List Value) (l : List α) (hf : ∀ x ∈ l, (f x).length = C) : (l.flatMap f).length = l.length * C := by
  induction l with
  | nil => simp
  | cons x l ih =>
    have h1 := hf x (by simp)
    have h2 := ih (fun y hy => hf y (by simp [hy]))
    rw [List.flatMap_cons, List.length_append, h1, h2, List.length_cons, Nat.add_mul]
    omega
theorem fm_get {α : Type} (C : Nat) (f : α → List Value) (l : List α) (hf : ∀ x ∈ l, (f x).length = C) (j i : Nat) (hj : j < l.length) (hi : i < C) : (l.flatMap f)[j * C + i]? = (f l[j])[i]? := by
  induction l generalizing j with
  | nil => simp at hj
  | cons x l ih =>
    have h1 := hf x (by simp)
    rw [List.flatMap_cons]
    cases j with
    | zero => rw [List.getElem?_append_left (by omega)]; simp
    | succ j =>
      rw [List.getElem?_append_right (by rw [Nat.add_mul]; omega)]
      rw [show (j + 1) * C + i - (f x).length = j * C + i by rw [Nat.add_mul]; omega]
      exact ih (fun y hy => hf y (by simp [hy])) j (by simpa using hj)
theorem fm_set {α : Type} (C : Nat) (f : α → List Value) (l : List α) (hf : ∀ x ∈ l, (f x).length = C) (j i : Nat) (hj : j < l.length) (hi : i < C) (x' : α) (u : Value) (hx : f x' = (f l[j]).set i u) :
    (l.flatMap f).set (j * C + i) u = (l.set j x').flatMap f := by
  induction l generalizing j with
  | nil => simp at hj
  | cons x l ih =>
    have h1 := hf x (by simp)
    cases j with
    | zero =>
      simp only [List.set_cons_zero, List.flatMap_cons]
      rw [List.set_append_left _ _ (by omega)]
      simp only [List.getElem_cons_zero] at hx
      rw [hx]; simp
    | succ j =>
      simp only [List.set_cons_succ, List.flatMap_cons]
      rw [List.set_append_right _ _ (by rw [Nat.add_mul]; omega)]
      rw [show (j + 1) * C + i - (f x).length = j * C + i by rw [Nat.add_mul]; omega]
      rw [ih (fun y hy => hf y (by simp [hy])) j (by simpa using hj) (by simpa using hx)]

/-- the slice at a reads as the records l; f gives a record's C cells -/
def RAt {α : Type} (w : World) (a : Option Addr) (C : Nat) (f : α → List Value) (l : List α) : Prop :=
  ∀ j (hj : j < l.length), ∃ p off, a = some ⟨p, off, none⟩ ∧ p < w.heap.size ∧ ∀ i v, (f l[j])[i]? = some v → w.cell? ⟨p, off + j * C + i, none⟩ = some v

theorem RAt.nil {α : Type} (w : World) (a : Option Addr) (C : Nat) (f : α → List Value) : RAt w a C f [] := fun j hj => by simp at hj
theorem RAt.below {α : Type} {w w' : World} {a : Option Addr} {C : Nat} {f : α → List Value} {l : List α} (h : RAt w a C f l) (hb : Below w.heap.size w w') : RAt w' a C f l := by
  intro j hj
  obtain ⟨p, off, h1, h2, h3⟩ := h j hj
  exact ⟨p, off, h1, Nat.lt_of_lt_of_le h2 hb.size, fun i v hv => (hb.cell (p := ⟨p, off + j * C + i, none⟩) h2).trans (h3 i v hv)⟩
theorem RAt.grown {α : Type} {w w' : World} {a : Option Addr} {C : Nat} {f : α → List Value} {l : List α} {g : Nat} (h : RAt w a C f l) (hb : w.grownBy w' (some g)) (hg : ∀ p off, a = some ⟨p, off, none⟩ → p ≠ g) : RAt w' a C f l := by
  intro j hj
  obtain ⟨p, off, h1, h2, h3⟩ := h j hj
  exact ⟨p, off, h1, Nat.lt_of_lt_of_le h2 hb.size, fun i v hv => hb.cell (h3 i v hv) (by have := hg p off h1; simpa using this)⟩
theorem RAt.alloc {α : Type} {w : World} {a : Option Addr} {C : Nat} {f : α → List Value} {l : List α} (h : RAt w a C f l) (o : Obj) : RAt (w.alloc o) a C f l := h.below ((Below.refl _ _).alloc (Nat.le_refl _) o)
theorem RAt.take {α : Type} {w : World} {a : Option Addr} {C : Nat} {f : α → List Value} {l : List α} (h : RAt w a C f l) (n : Nat) : RAt w a C f (l.take n) := by
  intro j hj
  have hj' : j < l.length := by simp at hj; omega
  obtain ⟨p, off, h1, h2, h3⟩ := h j hj'
  refine ⟨p, off, h1, h2, fun i v hv => h3 i v ?_⟩
  simpa using hv
theorem RAt.of_own {α : Type} {w : World} {b0 : Nat} {t : TypeId} {v : Value} {C : Nat} {f : α → List Value} {l : List α} (h : w.ownsRow b0 t C v l.length (l.flatMap f)) (hf : ∀ x ∈ l, (f x).length = C) :
    ∃ a c, v = .slice a l.length c ∧ RAt w a C f l ∧ l.length ≤ c ∧ c ≤ maxLen := by
  rcases h.2 with ⟨rfl, h0⟩ | ⟨g, cap, cur, rfl, hbg, hg, hnc, hcm, _⟩
  · have : l = [] := List.eq_nil_of_length_eq_zero h0
    subst this
    exact ⟨none, 0, rfl, RAt.nil _ _ _ _, Nat.le_refl _, Nat.zero_le _⟩
  · refine ⟨_, cap, rfl, fun j hj => ⟨g, 0, rfl, (Array.getElem?_eq_some_iff.1 hg).1, fun i v hv => ?_⟩, hnc, hcm⟩
    have hi : i < C := by
      have := hf l[j] (List.getElem_mem hj)
      rw [← this]
      exact (List.getElem?_eq_some_iff.1 hv).1
    have hlt : j * C + i < l.length * C := by
      have : (j + 1) * C ≤ l.length * C := Nat.mul_le_mul_right _ hj
      rw [Nat.add_mul] at this
      omega
    rw [Nat.zero_add, h.cellAt _ hlt, fm_get C f l hf j i hj hi]
    exact hv
theorem RAt.block {α : Type} {w : World} {p : Nat} {C : Nat} {f : α → List Value} {l : List α} {t : TypeId} (h : w.heap[p]? = some (.cells (l.flatMap f).toArray t (0, 0))) (hf : ∀ x ∈ l, (f x).length = C) : RAt w (some ⟨p, 0, none⟩) C f l := by
  intro j hj
  refine ⟨p, 0, rfl, ?_, fun i v hv => ?_⟩
  · rcases Nat.lt_or_ge p w.heap.size with h' | h'
    · exact h'
    · rw [Array.getElem?_eq_none h'] at h; cases h
  · have hi : i < C := by
      have := hf l[j] (List.getElem_mem hj)
      rw [← this]
      exact (List.getElem?_eq_some_iff.1 hv).1
    have e := (fm_get C f l hf j i hj hi).trans hv
    simp only [World.cell?, h, Nat.zero_add, List.getElem?_toArray]
    rw [e]
    rfl

theorem RAt.at4 {α : Type} {w : World} {a : Option Addr} {C : Nat} {f : α → List Value} {l : List α} (h : RAt w a C f l) {j : Nat} (hj : j < l.length) {v0 v1 v2 v3 : Value} (e : f l[j] = [v0, v1, v2, v3]) :
    ∃ p off, a = some ⟨p, off, none⟩ ∧ p < w.heap.size ∧ w.cell? ⟨p, off + j * C, none⟩ = some v0 ∧ w.cell? ⟨p, off + j * C + 1, none⟩ = some v1 ∧ w.cell? ⟨p, off + j * C + 2, none⟩ = some v2 ∧ w.cell? ⟨p, off + j * C + 3, none⟩ = some v3 := by
  obtain ⟨p, off, h1, h2, h3⟩ := h j hj
  rw [e] at h3
  exact ⟨p, off, h1, h2, h3 0 v0 rfl, h3 1 v1 rfl, h3 2 v2 rfl, h3 3 v3 rfl⟩
theorem RAt.at5 {α : Type} {w : World} {a : Option Addr} {C : Nat} {f : α → List Value} {l : List α} (h : RAt w a C f l) {j : Nat} (hj : j < l.length) {v0 v1 v2 v3 v4 : Value} (e : f l[j] = [v0, v1, v2, v3, v4]) :
    ∃ p off, a = some ⟨p, off, none⟩ ∧ p < w.heap.size ∧ w.cell? ⟨p, off + j * C, none⟩ = some v0 ∧ w.cell? ⟨p, off + j * C + 1, none⟩ = some v1 ∧ w.cell? ⟨p, off + j * C + 2, none⟩ = some v2 ∧ w.cell? ⟨p, off + j * C + 3, none⟩ = some v3 ∧ w.cell? ⟨p, off + j * C + 4, none⟩ = some v4 := by
  obtain ⟨p, off, h1, h2, h3⟩ := h j hj
  rw [e] at h3
  exact ⟨p, off, h1, h2, h3 0 v0 rfl, h3 1 v1 rfl, h3 2 v2 rfl, h3 3 v3 rfl, h3 4 v4 rfl⟩

/-- a list of records of one's own that grows beside the stream -/
def LstR {α : Type} (w : World) (b0 : Nat) (wr : World) (S : SC) (K : Nat) (t : TypeId) (C : Nat) (f : α → List Value) (v : Value) (l : List α) : Prop :=
  wr.ownsRow b0 t C v l.length (l.flatMap f) ∧ Strm wr S K ∧ w.grownBy wr (some S.g) ∧ b0 ≤ wr.heap.size
section
variable {α : Type} {w wr : World} {b0 K : Nat} {S : SC} {t : TypeId} {C : Nat} {f : α → List Value} {v : Value} {l : List α}
theorem LstR.draw {wr' : World} {K' : Nat} (h : LstR w b0 wr S K t C f v l) (k : wr.grownBy wr' (some S.g)) (s : Strm wr' S K') (hb : S.g < b0) : LstR w b0 wr' S K' t C f v l := by
  obtain ⟨own, s0, g, hb0⟩ := h
  refine ⟨own.kept k ?_, s, grown_trans g k, Nat.le_trans hb0 k.size⟩
  cases hv : v.ownBlock with
  | none => exact .inl rfl
  | some q =>
    refine .inr fun e => ?_
    have := (own.lt q hv).1
    simp at e
    omega
theorem LstR.snoc {wr' : World} {o : Obj} {v' : Value} {x : α} (h : LstR w b0 wr S K t C f v l) (hb : S.g < b0) (hw : w.heap.size ≤ b0) (own' : wr'.ownsRow b0 t C v' (l.length + 1) (l.flatMap f ++ f x)) (k : (wr.alloc o).grownBy wr' v.ownBlock) : LstR w b0 wr' S K t C f v' (l ++ [x]) := by
  obtain ⟨own, s0, g, hb0⟩ := h
  have hr := fun q hq => (own.lt q hq).1
  have hsz := k.size
  simp at hsz
  refine ⟨by simpa using own', ?_, ?_, by omega⟩
  · have hs := strm_alloc s0 o
    have hg := strm_lt hs
    obtain ⟨⟨z, hz, hbk⟩, hBg, hlen, hel⟩ := hs
    refine ⟨⟨z, hz, (k.block _ hg (fun e => by have := hr _ e.symm; omega)).trans hbk⟩, hBg, hlen, fun i hi => ?_⟩
    obtain ⟨b, off, n, h1, h2, h3, h4⟩ := hel i hi
    exact ⟨b, off, n, h1, h2, k.cell h3 (fun e => by have : b0 ≤ b := hr _ e.symm; omega), h4⟩
  · have g' := grown_alloc g o
    exact ⟨k.os.trans g'.os, k.tape.trans g'.tape, k.output.trans g'.output, Nat.le_trans g'.size k.size, fun i hi hne => (k.block i (Nat.lt_of_lt_of_le hi g'.size) (fun e => by have := hr i e.symm; omega)).trans (g'.block i hi hne)⟩
theorem LstR.set {g n cap j i : Nat} {u : Value} {x' : α} (h : LstR w b0 wr S K t C f (.slice (some ⟨g, 0, none⟩) n cap) l) (hb : S.g < b0) (hw : w.heap.size ≤ b0) (hn : l.length = n) (hf : ∀ x ∈ l, (f x).length = C) (hj : j < l.length) (hi : i < C) (hx : f x' = (f l[j]).set i u) :
    LstR w b0 (wr.setCell ⟨g, j * C + i, none⟩ u) S K t C f (.slice (some ⟨g, 0, none⟩) n cap) (l.set j x') := by
  obtain ⟨own, s0, gr, hb0⟩ := h
  subst hn
  obtain ⟨o1, o2⟩ := own.stored (j * C + i) u
  have hg := (own.lt g (by simp [Value.ownBlock])).1
  refine ⟨?_, strm_set s0 (by show S.g < g; omega) u, grown_set gr (.inr (by show w.heap.size ≤ g; omega)) u, by simpa [World.setCell] using hb0⟩
  rw [fm_set C f l hf j i hj hi x' u hx] at o1
  simpa using o1
/-- what the maker of a list of records leaves; the list lies apart from the stream -/
def GenR (S : SC) (K : Nat) (w : World) (C : Nat) (f : α → List Value) (P : List α → Prop) (e : Ending) (w' : World) : Prop :=
  ∃ a c l, P l ∧ e = .returned (.slice a l.length c) ∧ RAt w' a C f l ∧ l.length ≤ c ∧ c ≤ maxLen ∧ (∀ p off, a = some ⟨p, off, none⟩ → p ≠ S.g) ∧ w.grownBy w' (some S.g) ∧ Strm w' S K
theorem LstR.gen {K' : Nat} {P : List α → Prop} (h : LstR w b0 wr S K t C f v l) (hS : S.g < b0) (hK : K ≤ K') (hf : ∀ x ∈ l, (f x).length = C) (hP : P l) : GenR S K' w C f P (.returned v) wr := by
  obtain ⟨own, s, g, hb⟩ := h
  obtain ⟨a, c, rfl, hI, hc1, hc2⟩ := RAt.of_own own hf
  refine ⟨a, c, l, hP, rfl, hI, hc1, hc2, fun p off ha => ?_, g, strm_mono s hK⟩
  subst ha
  have := (own.lt p (by simp [Value.ownBlock])).1
  omega
end
/-- the cells of a block of one record that was just made -/
theorem cells_new (w : World) (cs : Array Value) (t : TypeId) : ∀ j u, cs.toList[j]? = some u → (w.alloc (.cells cs t)).cell? ((⟨w.heap.size, 0, none⟩ : Addr).add j) = some u := by
  intro j u h
  have hb := heap_alloc_new w (.cells cs t)
  rw [Addr.add]
  split
  · rename_i h0
    subst h0
    simp only [World.cell?]
    rw [hb]
    simpa using h
  · simp only [World.cell?]
    rw [hb]
    simpa using h
/-- block q begins with the cells cs: a struct variable of one's own -/
def XB (w : World) (q : Nat) (cs : List Value) : Prop := q < w.heap.size ∧ ∀ i v, cs[i]? = some v → w.cell? ⟨q, i, none⟩ = some v
theorem XB.new (w : World) (cs : List Value) (t : TypeId) : XB (w.alloc (.cells cs.toArray t)) w.heap.size cs := by
  refine ⟨by simp, fun i v h => ?_⟩
  have hb := heap_alloc_new w (.cells cs.toArray t)
  simp only [World.cell?]
  rw [hb]
  simpa using h
theorem XB.below {w w' : World} {q : Nat} {cs : List Value} (h : XB w q cs) (hb : Below w.heap.size w w') : XB w' q cs :=
  ⟨Nat.lt_of_lt_of_le h.1 hb.size, fun i v hv => (hb.cell (p := ⟨q, i, none⟩) h.1).trans (h.2 i v hv)⟩
theorem XB.grown {w w' : World} {q : Nat} {cs : List Value} {row : Option Nat} (h : XB w q cs) (hb : w.grownBy w' row) (hr : row ≠ some q) : XB w' q cs :=
  ⟨Nat.lt_of_lt_of_le h.1 hb.size, fun i v hv => hb.cell (h.2 i v hv) (fun e => hr e.symm)⟩
theorem XB.alloc {w : World} {q : Nat} {cs : List Value} (h : XB w q cs) (o : Obj) : XB (w.alloc o) q cs := h.below ((Below.refl _ _).alloc (Nat.le_refl _) o)
theorem XB.drewN {w : World} {q : Nat} {cs : List Value} (h : XB w q cs) (n : Nat) : XB (w.drewN n) q cs := h
theorem XB.at4 {w : World} {q : Nat} {v0 v1 v2 v3 : Value} (h : XB w q [v0, v1, v2, v3]) : w.cell? ⟨q, 0, none⟩ = some v0 ∧ w.cell? ⟨q, 1, none⟩ = some v1 ∧ w.cell? ⟨q, 2, none⟩ = some v2 ∧ w.cell? ⟨q, 3, none⟩ = some v3 :=
  ⟨h.2 0 _ rfl, h.2 1 _ rfl, h.2 2 _ rfl, h.2 3 _ rfl⟩
theorem XB.at5 {w : World} {q : Nat} {v0 v1 v2 v3 v4 : Value} (h : XB w q [v0, v1, v2, v3, v4]) : w.cell? ⟨q, 0, none⟩ = some v0 ∧ w.cell? ⟨q, 1, none⟩ = some v1 ∧ w.cell? ⟨q, 2, none⟩ = some v2 ∧ w.cell? ⟨q, 3, none⟩ = some v3 ∧ w.cell? ⟨q, 4, none⟩ = some v4 :=
  ⟨h.2 0 _ rfl, h.2 1 _ rfl, h.2 2 _ rfl, h.2 3 _ rfl, h.2 4 _ rfl⟩
theorem XB.at6 {w : World} {q : Nat} {v0 v1 v2 v3 v4 v5 : Value} (h : XB w q [v0, v1, v2, v3, v4, v5]) : w.cell? ⟨q, 0, none⟩ = some v0 ∧ w.cell? ⟨q, 1, none⟩ = some v1 ∧ w.cell? ⟨q, 2, none⟩ = some v2 ∧ w.cell? ⟨q, 3, none⟩ = some v3 ∧ w.cell? ⟨q, 4, none⟩ = some v4 ∧ w.cell? ⟨q, 5, none⟩ = some v5 :=
  ⟨h.2 0 _ rfl, h.2 1 _ rfl, h.2 2 _ rfl, h.2 3 _ rfl, h.2 4 _ rfl, h.2 5 _ rfl⟩
theorem RAt.at6 {α : Type} {w : World} {a : Option Addr} {C : Nat} {f : α → List Value} {l : List α} (h : RAt w a C f l) {j : Nat} (hj : j < l.length) {v0 v1 v2 v3 v4 v5 : Value} (e : f l[j] = [v0, v1, v2, v3, v4, v5]) :
    ∃ p off, a = some ⟨p, off, none⟩ ∧ p < w.heap.size ∧ w.cell? ⟨p, off + j * C, none⟩ = some v0 ∧ w.cell? ⟨p, off + j * C + 1, none⟩ = some v1 ∧ w.cell? ⟨p, off + j * C + 2, none⟩ = some v2 ∧ w.cell? ⟨p, off + j * C + 3, none⟩ = some v3 ∧ w.cell? ⟨p, off + j * C + 4, none⟩ = some v4 ∧ w.cell? ⟨p, off + j * C + 5, none⟩ = some v5 := by
  obtain ⟨p, off, h1, h2, h3⟩ := h j hj
  rw [e] at h3
  exact ⟨p, off, h1, h2, h3 0 v0 rfl, h3 1 v1 rfl, h3 2 v2 rfl, h3 3 v3 rfl, h3 4 v4 rfl, h3 5 v5 rfl⟩
end Go.Proofs.YtgdagknjnidmiaaGreatDoor
/- A set of strings as a map[string]bool that the call itself made. -/
set_option linter.unusedVariables false
namespace Go.Proofs.YtgdagknjnidmiaaGreatDoor
open Go.RowKit Go.Maps

theorem key_str : Keyed Tryz.prog 9 := string_keyed Tryz.underlying9
theorem zero_bool (w : World) : (zeroValue 4).run Tryz.prog w = .ok (.bool false) w := by kernel_rfl

/-- one of the strings is s -/
def hasS (l : List ByteArray) (s : ByteArray) : Bool := l.any fun x => decide (x.data.toList = s.data.toList)

theorem hasS_snoc (l : List ByteArray) (x s : ByteArray) : hasS (l ++ [x]) s = (hasS l s || decide (x.data.toList = s.data.toList)) := by
  simp [hasS]

/-- a search by an id: it tells whether there is one -/
def IdxOut (w : World) (b : Bool) (e : Ending) (w' : World) : Prop := ∃ r : Int, e = .returned (.int .i64 r) ∧ decide (0 ≤ r) = b ∧ Below w.heap.size w w'
theorem hasS_hit {l : List ByteArray} {s x : ByteArray} (h : x ∈ l) (e : x.data.toList = s.data.toList) : hasS l s = true := by
  unfold hasS
  rw [List.any_eq_true]
  exact ⟨x, h, decide_eq_true e⟩

/-- block b is a set of the strings l, at most n of them -/
def Seen (w : World) (b n : Nat) (l : List ByteArray) : Prop :=
  ∃ D : DataW Unit, w.ownsMap Tryz.prog 9 (plainElem Tryz.prog 4) b n D ∧ IsMap D ∧ ∀ s : ByteArray, D.atKey (.string s.data.toList) (.lit (.bool false)) = .lit (.bool (hasS l s))

theorem Seen.made (w : World) : Seen (w.alloc (.map #[] 0)) w.heap.size 0 [] :=
  ⟨.map [], World.ownsMap_made _ _ _ _, isMap_empty, fun s => rfl⟩
theorem Seen.lt {w : World} {b n : Nat} {l : List ByteArray} (h : Seen w b n l) : b < w.heap.size := by
  obtain ⟨D, hD, _⟩ := h
  exact hD.lt
theorem Seen.kept {w w' : World} {b n : Nat} {l : List ByteArray} {row : Option Nat} (h : Seen w b n l) (hg : w.grownBy w' row) (hne : some b ≠ row) : Seen w' b n l := by
  obtain ⟨D, hD, h2⟩ := h
  exact ⟨D, hD.kept hg hne, h2⟩
theorem Seen.below {w w' : World} {b n : Nat} {l : List ByteArray} (h : Seen w b n l) (hb : Below w.heap.size w w') : Seen w' b n l :=
  h.kept (grown_of_below hb none) (by simp)
theorem Seen.alloc {w : World} {b n : Nat} {l : List ByteArray} (h : Seen w b n l) (o : Obj) : Seen (w.alloc o) b n l := h.kept (World.grownBy_alloc w o none) (by simp)

theorem Seen.drewN {w : World} {b n : Nat} {l : List ByteArray} (h : Seen w b n l) (m : Nat) : Seen (w.drewN m) b n l := h

theorem plainElem_bool_inv {P : Program} {e : TypeId} (he : P.underlying e = some .bool) {v : Value} {z : DataW Unit × List MemPlace} (h : plainElem P e v = some z) : ∃ b, v = .bool b ∧ z = (.lit (.bool b), []) := by
  unfold plainElem at h
  rw [he] at h
  cases v <;> simp at h
  exact ⟨_, rfl, h.symm⟩
theorem lit_bool_inj {a b : Bool} (h : (DataW.lit (.bool a) : DataW Unit) = .lit (.bool b)) : a = b := by
  injection h with h
  injection h

/-- m[k] at elements of type bool -/
theorem wpList_lookup_own_bool {P : Program} (w : World) {ops : Array Oper} {rest : List Oper} {o : Oper} {a : Act} {Q : Exit → Act → World → Prop}
    (hg : o.guard = none) (m x : Operand) (t : TypeId) (hop : o.op = Op.lookup t m x false)
    (k e : TypeId) (K : Keyed P k) (ht : P.underlying t = some (.map k e)) (he : P.underlying e = some .bool) (hz : (zeroValue e).run P w = .ok (.bool false) w) (b n : Nat) (D : DataW Unit)
    (hm : a.eval m = .map (some b)) (hown : w.ownsMap P k (plainElem P e) b n D) (key : Value) (kl : Lit) (hx : a.eval x = key) (hkey : keyOf P k key = some kl)
    (hK : ∀ c : Bool, D.atKey kl (.lit (.bool false)) = .lit (.bool c) → wpList P ops Q rest (a.put o.dst (.bool c)) w) :
    wpList P ops Q (o :: rest) a w := by
  refine wpList_plain hg fun K' hK' => ?_
  obtain ⟨v, ps, hrun, hv⟩ := hown.lookup K ht hz (plainElem_bool he false) hkey
  obtain ⟨c, rfl, hc⟩ := plainElem_bool_inv he hv
  simp only [Prod.mk.injEq] at hc
  unfold Oper.wp
  simp [execOp, hop, hm, hx, hrun, Result.andThen]
  exact hK' _ _ (hK c hc.1)

/-- seen[s] -/
theorem wpList_lookup_seen {ops : Array Oper} {rest : List Oper} {o : Oper} {a : Act} {Q : Exit → Act → World → Prop} (w : World) (hg : o.guard = none) (m x : Operand) (hop : o.op = Op.lookup 95 m x false)
    (b n : Nat) (l : List ByteArray) (hm : a.eval m = .map (some b)) (hs : Seen w b n l) (s : ByteArray) (hx : a.eval x = .string s) (hlen : s.size ≤ maxLen) (r : Bool) (hr : hasS l s = r)
    (hK : wpList Tryz.prog ops Q rest (a.put o.dst (.bool r)) w) : wpList Tryz.prog ops Q (o :: rest) a w := by
  obtain ⟨D, hown, _, hat⟩ := hs
  refine wpList_lookup_own_bool w hg m x _ hop 9 4 key_str Tryz.underlying95 Tryz.underlying4 (zero_bool w) b n D hm hown _ _ hx (WideMaps.keyOf_string_mk Tryz.underlying9 hlen) ?_
  intro c hc
  rw [← lit_bool_inj ((hat s).symm.trans hc), hr]
  exact hK

/-- seen[s] = true -/
theorem wpList_update_seen {ops : Array Oper} {rest : List Oper} {o : Oper} {a : Act} {Q : Exit → Act → World → Prop} (w : World) (hg : o.guard = none) (m x v : Operand) (hop : o.op = Op.mapUpdate 95 m x v)
    (b n : Nat) (l : List ByteArray) (hm : a.eval m = .map (some b)) (hs : Seen w b n l) (hn : n < maxLen) (s : ByteArray) (hx : a.eval x = .string s) (hv : a.eval v = .bool true) (hlen : s.size ≤ maxLen)
    (hK : ∀ w', Seen w' b (n + 1) (l ++ [s]) → w.grownBy w' (some b) → wpList Tryz.prog ops Q rest (a.put o.dst undef) w') : wpList Tryz.prog ops Q (o :: rest) a w := by
  obtain ⟨D, hown, hD, hat⟩ := hs
  refine wpList_mapUpdate_own w hg m x v _ hop 9 4 key_str Tryz.underlying95 _ b n D hm hown hn _ _ _ hx hv (WideMaps.keyOf_string_mk Tryz.underlying9 hlen) (.lit (.bool true)) [] (plainElem_bool Tryz.underlying4 true) ?_
  intro w' h1 h2
  refine hK w' ⟨_, h1, hD.put _ _, fun s' => ?_⟩ h2
  rw [hasS_snoc]
  by_cases he : s.data.toList = s'.data.toList
  · rw [he, atKey_put_same hD (by unfold WideAt.IsKeyLit; trivial)]
    simp
  · rw [atKey_put_other (by intro e; injection e with e; exact he e.symm), hat s']
    simp [he]
end Go.Proofs.YtgdagknjnidmiaaGreatDoor
/- person.IsKey and handref2.Key: both answer keyB, a plain predicate of the bytes. -/
set_option linter.unusedVariables false
namespace Go.Proofs.YtgdagknjnidmiaaGreatDoor
open Go.RowKit

def smallB (c : UInt8) : Bool := decide (97 ≤ c.toNat ∧ c.toNat ≤ 122)
def digitB (c : UInt8) : Bool := decide (48 ≤ c.toNat ∧ c.toNat ≤ 57)
def keyC (c : UInt8) : Bool := smallB c || digitB c || decide (c.toNat = 45) || decide (c.toNat = 95)

theorem psmall_any (c : UInt8) (w : World) : Calls Tryz.prog 87 #[.int .u8 (c.toNat : Int)] w fun e w' => e = .returned (.bool (smallB c)) ∧ w = w' := by
  have HE := Lib.hid (show smallB c = decide (97 ≤ c.toNat ∧ c.toNat ≤ 122) from rfl)
  generalize smallB c = b at *
  generalize c.toNat = n at *
  by_cases h1 : 97 ≤ n
  · by_cases h2 : n ≤ 122
    · obtain rfl : b = true := HE.out.trans (decide_eq_true ⟨h1, h2⟩)
      go_enter Tryz.func87, Tryz.ntmps87
      go_wp2
      go_ret
      exact ⟨ret_bool (by simp; omega), rfl⟩
    · obtain rfl : b = false := HE.out.trans (decide_eq_false (by omega))
      go_enter Tryz.func87, Tryz.ntmps87
      go_wp2
      go_ret
      exact ⟨ret_bool (by simp; omega), rfl⟩
  · obtain rfl : b = false := HE.out.trans (decide_eq_false (by omega))
    go_enter Tryz.func87, Tryz.ntmps87
    go_wp2
    go_ret
    exact ⟨rfl, rfl⟩
theorem pdigit_any (c : UInt8) (w : World) : Calls Tryz.prog 90 #[.int .u8 (c.toNat : Int)] w fun e w' => e = .returned (.bool (digitB c)) ∧ w = w' := by
  have HE := Lib.hid (show digitB c = decide (48 ≤ c.toNat ∧ c.toNat ≤ 57) from rfl)
  generalize digitB c = b at *
  generalize c.toNat = n at *
  by_cases h1 : 48 ≤ n
  · by_cases h2 : n ≤ 57
    · obtain rfl : b = true := HE.out.trans (decide_eq_true ⟨h1, h2⟩)
      go_enter Tryz.func90, Tryz.ntmps90
      go_wp2
      go_ret
      exact ⟨ret_bool (by simp; omega), rfl⟩
    · obtain rfl : b = false := HE.out.trans (decide_eq_false (by omega))
      go_enter Tryz.func90, Tryz.ntmps90
      go_wp2
      go_ret
      exact ⟨ret_bool (by simp; omega), rfl⟩
  · obtain rfl : b = false := HE.out.trans (decide_eq_false (by omega))
    go_enter Tryz.func90, Tryz.ntmps90
    go_wp2
    go_ret
    exact ⟨rfl, rfl⟩

theorem isKey1_any (c : UInt8) (w : World) : Calls Tryz.prog 89 #[.int .u8 (c.toNat : Int)] w fun e w' => e = .returned (.bool (keyC c)) ∧ w = w' := by
  have HE := Lib.hid (show keyC c = (smallB c || digitB c || decide (c.toNat = 45) || decide (c.toNat = 95)) from rfl)
  have C1 := Lib.hid (fun w => psmall_any c w)
  have C2 := Lib.hid (fun w => pdigit_any c w)
  generalize smallB c = s at *
  generalize digitB c = d at *
  generalize keyC c = k at *
  generalize c.toNat = n at *
  cases s with
  | true =>
    obtain rfl : k = true := HE.out.trans (by simp)
    go_enter Tryz.func89, Tryz.ntmps89
    go_wp2_with fail
    with_reducible refine (C1.out _).mono ?_
    rintro e w1 ⟨rfl, rfl⟩
    go_wp2
    go_ret
    exact ⟨rfl, rfl⟩
  | false =>
    cases d with
    | true =>
      obtain rfl : k = true := HE.out.trans (by simp)
      go_enter Tryz.func89, Tryz.ntmps89
      go_wp2_with fail
      with_reducible refine (C1.out _).mono ?_
      rintro e w1 ⟨rfl, rfl⟩
      go_wp2_with fail
      with_reducible refine (C2.out _).mono ?_
      rintro e w1 ⟨rfl, rfl⟩
      go_wp2
      go_ret
      exact ⟨rfl, rfl⟩
    | false =>
      have e1 : k = (decide (n = 45) || decide (n = 95)) := HE.out.trans (by simp)
      subst e1
      by_cases h1 : n = 45
      · have h2 : ((n : Int) == 45) = true := by simp; omega
        have H1 := Lib.hid h1
        clear h1
        go_enter Tryz.func89, Tryz.ntmps89
        go_wp2_with fail
        with_reducible refine (C1.out _).mono ?_
        rintro e w1 ⟨rfl, rfl⟩
        go_wp2_with fail
        with_reducible refine (C2.out _).mono ?_
        rintro e w1 ⟨rfl, rfl⟩
        go_wp2
        go_ret
        exact ⟨ret_bool (by rw [decide_eq_true H1.out]; rfl), rfl⟩
      · have h2 : ((n : Int) == 45) = false := by simp; omega
        go_enter Tryz.func89, Tryz.ntmps89
        go_wp2_with fail
        with_reducible refine (C1.out _).mono ?_
        rintro e w1 ⟨rfl, rfl⟩
        go_wp2_with fail
        with_reducible refine (C2.out _).mono ?_
        rintro e w1 ⟨rfl, rfl⟩
        go_wp2
        go_ret
        exact ⟨ret_bool (by rw [decide_eq_false h1]; rw [Bool.eq_iff_iff]; simp; omega), rfl⟩

theorem pwithin_yes (n lo hi : Int) (w : World) (h1 : lo ≤ n) (h2 : n ≤ hi) : Calls Tryz.prog 86 #[.int .i64 n, .int .i64 lo, .int .i64 hi] w fun e w' => e = .returned (.bool true) ∧ w = w' := by
  go_enter Tryz.func86, Tryz.ntmps86
  go_wp2
  go_ret
  exact ⟨ret_bool (by simp <;> omega), rfl⟩
theorem pwithin_no (n lo hi : Int) (w : World) (h : n < lo ∨ hi < n) : Calls Tryz.prog 86 #[.int .i64 n, .int .i64 lo, .int .i64 hi] w fun e w' => e = .returned (.bool false) ∧ w = w' := by
  by_cases h1 : lo ≤ n
  · have h2 : ¬ n ≤ hi := by omega
    go_enter Tryz.func86, Tryz.ntmps86
    go_wp2
    go_ret
    exact ⟨ret_bool (by simp <;> omega), rfl⟩
  · go_enter Tryz.func86, Tryz.ntmps86
    go_wp2
    go_ret
    exact ⟨rfl, rfl⟩

/-- all the bytes of a string are bytes of keys -/
def allK (s : ByteArray) : Bool := s.data.toList.all keyC
/-- a string is a key -/
def keyB (s : ByteArray) : Bool := decide (1 ≤ s.size ∧ s.size ≤ 40) && smallB (s.data.toList.getD 0 0) && allK s

theorem take_all (s : ByteArray) (k : Nat) (h : k < s.size) : (s.data.toList.take (k + 1)).all keyC = ((s.data.toList.take k).all keyC && keyC s[k]) := by
  rw [List.take_succ_eq_append_getElem (by simpa using h), List.all_append]
  simp
  rfl
theorem allK_of_take (s : ByteArray) (k : Nat) (h : s.size ≤ k) : (s.data.toList.take k).all keyC = allK s := by
  rw [List.take_of_length_le (by simpa using h)]; rfl
theorem allK_no (s : ByteArray) (k : Nat) (h : k < s.size) (hc : keyC s[k] = false) : allK s = false := by
  have e := take_all s k h
  rw [hc, Bool.and_false] at e
  unfold allK
  rw [← List.take_append_drop (k + 1) s.data.toList, List.all_append, e]
  rfl

theorem all_any (s : ByteArray) (w : World) (hs : s.size ≤ maxLen) :
    Calls Tryz.prog 88 #[.string s, .func (.func 89) #[] #[]] w fun e w' => e = .returned (.bool (allK s)) ∧ w = w' := by
  unfold maxLen at hs
  go_enter Tryz.func88, Tryz.ntmps88
  go_wp2_with fail
  go_loop [8] (fun i => ∃ k : Nat, k ≤ s.size ∧ i = .int .i64 k ∧ (s.data.toList.take k).all keyC = true) (fun i => s.size - (intOf i).toNat)
  case atStart => exact ⟨0, Nat.zero_le _, rfl, rfl⟩
  case round =>
    obtain ⟨k, hk, rfl, hall⟩ := hrel
    have HA := Lib.hid hall
    clear hall
    by_cases hlt : k < s.size
    · have HT := Lib.hid (take_all s k hlt)
      have HN := Lib.hid (allK_no s k hlt)
      have C := Lib.hid (fun w => isKey1_any s[k] w)
      generalize keyC s[k] = b at *
      cases b with
      | true =>
        go_wp2_with fail
        with_reducible refine (C.out _).mono ?_
        rintro e w1 ⟨rfl, rfl⟩
        go_wp2
        go_round
        case rel => exact ⟨k + 1, by omega, by go_num, by rw [HT.out, HA.out]; rfl⟩
        case measure => simp [intOf]; omega
      | false =>
        go_wp2_with fail
        with_reducible refine (C.out _).mono ?_
        rintro e w1 ⟨rfl, rfl⟩
        go_wp2
        go_ret
        exact ⟨ret_bool (HN.out (by trivial)).symm, rfl⟩
    · have HF := Lib.hid (allK_of_take s k (by omega))
      go_wp2_with fail
      go_ret
      exact ⟨ret_bool (HF.out.symm.trans HA.out).symm, rfl⟩

theorem getD0 (s : ByteArray) (h : 0 < s.size) : s.data.toList.getD 0 0 = s[0] := by
  rw [List.getD_eq_getElem?_getD, List.getElem?_eq_getElem (by simpa using h)]
  rfl

theorem isKey_any (s : ByteArray) (w : World) (hs : s.size ≤ maxLen) :
    Calls Tryz.prog 61 #[.string s] w fun e w' => e = .returned (.bool (keyB s)) ∧ w = w' := by
  have CA := Lib.hid (fun w => all_any s w hs)
  unfold maxLen at hs
  by_cases hsz : 1 ≤ s.size ∧ s.size ≤ 40
  · have HK := Lib.hid (show keyB s = (smallB s[0] && allK s) by unfold keyB; rw [decide_eq_true hsz, getD0 s hsz.1]; simp)
    have C1 := Lib.hid (fun w => psmall_any s[0] w)
    obtain ⟨hs1, hs2⟩ := hsz
    have hs0 : 0 < s.size := hs1
    generalize smallB s[0] = b at *
    generalize allK s = a at *
    cases b with
    | true =>
      go_enter Tryz.func61, Tryz.ntmps61
      go_wp2_with fail
      with_reducible refine (pwithin_yes _ _ _ _ (by omega) (by omega)).mono ?_
      rintro e w1 ⟨rfl, rfl⟩
      go_wp2_with fail
      with_reducible refine (C1.out _).mono ?_
      rintro e w1 ⟨rfl, rfl⟩
      go_wp2_with fail
      with_reducible refine (CA.out _).mono ?_
      rintro e w1 ⟨rfl, rfl⟩
      go_wp2
      go_ret
      exact ⟨ret_bool (HK.out.trans (by simp)).symm, rfl⟩
    | false =>
      go_enter Tryz.func61, Tryz.ntmps61
      go_wp2_with fail
      with_reducible refine (pwithin_yes _ _ _ _ (by omega) (by omega)).mono ?_
      rintro e w1 ⟨rfl, rfl⟩
      go_wp2_with fail
      with_reducible refine (C1.out _).mono ?_
      rintro e w1 ⟨rfl, rfl⟩
      go_wp2
      go_ret
      exact ⟨ret_bool (HK.out.trans (by simp)).symm, rfl⟩
  · have HK := Lib.hid (show keyB s = false by unfold keyB; rw [decide_eq_false hsz]; simp)
    have hsz' : (s.size : Int) < 1 ∨ 40 < (s.size : Int) := by omega
    clear hsz
    go_enter Tryz.func61, Tryz.ntmps61
    go_wp2_with fail
    with_reducible refine (pwithin_no _ _ _ _ hsz').mono ?_
    rintro e w1 ⟨rfl, rfl⟩
    go_wp2
    go_ret
    exact ⟨ret_bool HK.out.symm, rfl⟩
end Go.Proofs.YtgdagknjnidmiaaGreatDoor
/- handref2.Key and handref1.keyOf answer keyB; handref1.made tells whether all bytes are of a set. -/
set_option linter.unusedVariables false
namespace Go.Proofs.YtgdagknjnidmiaaGreatDoor
open Go.RowKit

/-- all the bytes of a string are of a set -/
def onlyB (s : ByteArray) (cs : List UInt8) : Bool := s.data.toList.all (cs.contains ·)

theorem dropWhile_nil (p : UInt8 → Bool) : ∀ l : List UInt8, l.dropWhile p = [] ↔ l.all p = true
  | [] => by simp
  | c :: r => by
    rw [List.dropWhile_cons, List.all_cons]
    cases h : p c
    · simp
    · simp only [if_true, Bool.true_and]; exact dropWhile_nil p r
theorem dropWhile_all (p : UInt8 → Bool) : ∀ l : List UInt8, (l.dropWhile p).all p = l.all p
  | [] => rfl
  | c :: r => by
    rw [List.dropWhile_cons, List.all_cons]
    cases h : p c
    · simp [h]
    · simp only [if_true, Bool.true_and]; exact dropWhile_all p r
theorem trim_all (s : ByteArray) (cs : List UInt8) : onlyB s cs = (Lib.trimS s.data.toList cs).isEmpty := by
  rw [Bool.eq_iff_iff, List.isEmpty_iff]
  unfold Lib.trimS Lib.trimLeftS Lib.trimRightS onlyB
  rw [dropWhile_nil, List.all_reverse, dropWhile_all, List.all_reverse]

def cutSmall : List UInt8 := [97, 98, 99, 100, 101, 102, 103, 104, 105, 106, 107, 108, 109, 110, 111, 112, 113, 114, 115, 116, 117, 118, 119, 120, 121, 122]
def cutKey : List UInt8 := cutSmall ++ [48, 49, 50, 51, 52, 53, 54, 55, 56, 57, 45, 95]
theorem cutSmall_eq (c : UInt8) : cutSmall.contains c = smallB c := by
  have h : ∀ n, n < 256 → cutSmall.contains (UInt8.ofNat n) = smallB (UInt8.ofNat n) := by decide +kernel
  have := h c.toNat (UInt8.toNat_lt c)
  simpa using this
theorem cutKey_eq (c : UInt8) : cutKey.contains c = keyC c := by
  have h : ∀ n, n < 256 → cutKey.contains (UInt8.ofNat n) = keyC (UInt8.ofNat n) := by decide +kernel
  have := h c.toNat (UInt8.toNat_lt c)
  simpa using this

theorem trim_any (s : ByteArray) (cs : List UInt8) (w : World) (hs : s.size ≤ maxLen) (hcs : cs.length < 4294967281) (ha : cs.all (fun b => decide (b.toNat < 128)) = true) :
    Calls Tryz.prog 148 #[.string s, .string ⟨cs.toArray⟩] w fun e w' => e = .returned (.string ⟨(Lib.trimS s.data.toList cs).toArray⟩) ∧ Below w.heap.size w w' := by
  have h := Any.strings_Trim_laid Tryz.lays160 (by kernel_rfl) s ⟨cs.toArray⟩ w (by unfold maxLen at hs; omega) (by simpa [ByteArray.size] using hcs) (ascii_of_all (by simpa using ha))
  exact h

theorem eq_empty (l : List UInt8) : ((⟨l.toArray⟩ : ByteArray).toList.isEmpty) = l.isEmpty := by
  rw [Lib.toList_data]

theorem only_any (s : ByteArray) (cs : List UInt8) (w : World) (hs : s.size ≤ maxLen) (hcs : cs.length < 4294967281) (ha : cs.all (fun b => decide (b.toNat < 128)) = true) :
    Calls Tryz.prog 133 #[.string s, .string ⟨cs.toArray⟩] w fun e w' => e = .returned (.bool (onlyB s cs)) ∧ Below w.heap.size w w' := by
  have C := Lib.hid (trim_any s cs w hs hcs ha)
  rw [trim_all]
  have HE := Lib.hid (eq_empty (Lib.trimS s.data.toList cs))
  generalize (Lib.trimS s.data.toList cs).isEmpty = b at *
  generalize (⟨(Lib.trimS s.data.toList cs).toArray⟩ : ByteArray) = r at *
  go_enter Tryz.func133, Tryz.ntmps133
  go_wp2_with fail
  with_reducible refine C.out.mono ?_
  rintro e w1 ⟨rfl, hb⟩
  go_wp2
  go_ret
  exact ⟨ret_bool (by simpa using HE.out), hb⟩

theorem in_yes (n lo hi : Int) (w : World) (h1 : lo ≤ n) (h2 : n ≤ hi) : Calls Tryz.prog 132 #[.int .i64 n, .int .i64 lo, .int .i64 hi] w fun e w' => e = .returned (.bool true) ∧ w = w' := by
  go_enter Tryz.func132, Tryz.ntmps132
  go_wp2
  go_ret
  exact ⟨ret_bool (by simp <;> omega), rfl⟩
theorem in_no (n lo hi : Int) (w : World) (h : n < lo ∨ hi < n) : Calls Tryz.prog 132 #[.int .i64 n, .int .i64 lo, .int .i64 hi] w fun e w' => e = .returned (.bool false) ∧ w = w' := by
  by_cases h1 : lo ≤ n
  · have h2 : ¬ n ≤ hi := by omega
    go_enter Tryz.func132, Tryz.ntmps132
    go_wp2
    go_ret
    exact ⟨ret_bool (by simp <;> omega), rfl⟩
  · go_enter Tryz.func132, Tryz.ntmps132
    go_wp2
    go_ret
    exact ⟨rfl, rfl⟩

theorem first_only (s : ByteArray) (h : 0 < s.size) : onlyB (s.extract 0 1) cutSmall = smallB s[0] := by
  have e : (s.extract 0 1).data.toList = [s[0]] := by
    rw [Lib.extract_data]
    have := getD0 s h
    cases hl : s.data.toList with
    | nil => rw [ByteArray.size] at h; simp [← Array.length_toList, hl] at h
    | cons c r =>
      rw [hl] at this
      simp at this
      simp [this]
  unfold onlyB
  rw [e]
  simp only [List.all_cons, List.all_nil, Bool.and_true]
  exact cutSmall_eq _
theorem all_only (s : ByteArray) : onlyB s cutKey = allK s := by
  unfold onlyB allK
  congr 1
  funext c
  exact cutKey_eq c

theorem pKey_any (s : ByteArray) (w : World) (hs : s.size ≤ maxLen) :
    Calls Tryz.prog 93 #[.string s] w fun e w' => e = .returned (.bool (keyB s)) ∧ Below w.heap.size w w' := by
  have hs' := hs
  unfold maxLen at hs'
  by_cases hsz : 1 ≤ s.size ∧ s.size ≤ 40
  · have HK := Lib.hid (show keyB s = (onlyB (s.extract 0 1) cutSmall && onlyB s cutKey) by rw [first_only s hsz.1, all_only]; unfold keyB; rw [decide_eq_true hsz, getD0 s hsz.1]; simp)
    have C1 := Lib.hid (fun w => only_any (s.extract 0 1) cutSmall w (by simp [ByteArray.size_extract]; unfold maxLen; omega) (by decide) (by decide))
    have C2 := Lib.hid (fun w => only_any s cutKey w hs (by decide) (by decide))
    obtain ⟨hs1, hs2⟩ := hsz
    have hs0 : 0 < s.size := hs1
    generalize onlyB (s.extract 0 1) cutSmall = b at *
    generalize onlyB s cutKey = a at *
    cases b with
    | true =>
      go_enter Tryz.func93, Tryz.ntmps93
      go_wp2_with fail
      with_reducible refine (in_yes _ _ _ _ (by omega) (by omega)).mono ?_
      rintro e w1 ⟨rfl, rfl⟩
      go_wp2_with fail
      refine (C1.out _).mono ?_
      rintro e w1 ⟨rfl, hb1⟩
      go_wp2_with fail
      refine (C2.out _).mono ?_
      rintro e w2 ⟨rfl, hb2⟩
      go_wp2
      go_ret
      exact ⟨ret_bool (HK.out.trans (by simp)).symm, hb1.trans (hb2.mono hb1.size)⟩
    | false =>
      go_enter Tryz.func93, Tryz.ntmps93
      go_wp2_with fail
      with_reducible refine (in_yes _ _ _ _ (by omega) (by omega)).mono ?_
      rintro e w1 ⟨rfl, rfl⟩
      go_wp2_with fail
      refine (C1.out _).mono ?_
      rintro e w1 ⟨rfl, hb1⟩
      go_wp2
      go_ret
      exact ⟨ret_bool (HK.out.trans (by simp)).symm, hb1⟩
  · have HK := Lib.hid (show keyB s = false by unfold keyB; rw [decide_eq_false hsz]; simp)
    have hsz' : (s.size : Int) < 1 ∨ 40 < (s.size : Int) := by omega
    clear hsz
    go_enter Tryz.func93, Tryz.ntmps93
    go_wp2_with fail
    with_reducible refine (in_no _ _ _ _ hsz').mono ?_
    rintro e w1 ⟨rfl, rfl⟩
    go_wp2
    go_ret
    exact ⟨ret_bool HK.out.symm, Below.refl _ _⟩

theorem keyOf_any (s : ByteArray) (w : World) (hs : s.size ≤ maxLen) :
    Calls Tryz.prog 65 #[.string s] w fun e w' => e = .returned (.bool (keyB s)) ∧ Below w.heap.size w w' := by
  have C := Lib.hid (pKey_any s w hs)
  generalize keyB s = b at *
  go_enter Tryz.func65, Tryz.ntmps65
  go_wp2_with fail
  with_reducible refine C.out.mono ?_
  rintro e w1 ⟨rfl, hb1⟩
  go_wp2
  go_ret
  exact ⟨rfl, hb1⟩
end Go.Proofs.YtgdagknjnidmiaaGreatDoor
/- Moments: measure.isMoment, handref1.Moment. -/
set_option linter.unusedVariables false
namespace Go.Proofs.YtgdagknjnidmiaaGreatDoor
open Go.RowKit

def momB (n : Int) : Bool := decide (0 ≤ n ∧ n ≤ 4321439)
theorem isMoment_any (n : Int) (w : World) : Calls Tryz.prog 29 #[.int .i64 n] w fun e w' => e = .returned (.bool (momB n)) ∧ w = w' := by
  by_cases h : 0 ≤ n ∧ n ≤ 4321439
  · have HB := Lib.hid (show momB n = true from decide_eq_true h)
    obtain ⟨h1, h2⟩ := h
    go_enter Tryz.func29, Tryz.ntmps29
    go_wp2_with fail
    with_reducible refine (within_yes _ _ _ _ h1 h2).mono ?_
    rintro e w1 ⟨rfl, rfl⟩
    go_wp2
    go_ret
    exact ⟨ret_bool HB.out.symm, rfl⟩
  · have HB := Lib.hid (show momB n = false from decide_eq_false h)
    have h' : n < 0 ∨ 4321439 < n := by omega
    clear h
    go_enter Tryz.func29, Tryz.ntmps29
    go_wp2_with fail
    with_reducible refine (within_no _ _ _ _ h').mono ?_
    rintro e w1 ⟨rfl, rfl⟩
    go_wp2
    go_ret
    exact ⟨ret_bool HB.out.symm, rfl⟩
theorem moment_any (n : Int) (w : World) : Calls Tryz.prog 37 #[.int .i64 n] w fun e w' => e = .returned (.bool (momB n)) ∧ w = w' := by
  by_cases h : 0 ≤ n ∧ n ≤ 4321439
  · have HB := Lib.hid (show momB n = true from decide_eq_true h)
    obtain ⟨h1, h2⟩ := h
    have h3 : n < 4321440 := by omega
    go_enter Tryz.func37, Tryz.ntmps37
    go_wp2
    go_ret
    exact ⟨ret_bool HB.out.symm, rfl⟩
  · have HB := Lib.hid (show momB n = false from decide_eq_false h)
    by_cases h1 : 0 ≤ n
    · have h3 : ¬ n < 4321440 := by omega
      clear h
      go_enter Tryz.func37, Tryz.ntmps37
      go_wp2
      go_ret
      exact ⟨ret_bool HB.out.symm, rfl⟩
    · clear h
      go_enter Tryz.func37, Tryz.ntmps37
      go_wp2
      go_ret
      exact ⟨ret_bool HB.out.symm, rfl⟩
end Go.Proofs.YtgdagknjnidmiaaGreatDoor
/- Letters that were sent, and gains, as records; what is wrong with a list of them, in plain words. -/
set_option linter.unusedVariables false
namespace Go.Proofs.YtgdagknjnidmiaaGreatDoor
open Go.RowKit

structure Snt where
  id : ByteArray
  person : ByteArray
  letter : ByteArray
  at_ : Int
def Snt.cells (x : Snt) : List Value := [.string x.id, .string x.person, .string x.letter, .int .i64 x.at_]
def Snt.ok (x : Snt) : Prop := x.id.size ≤ 100 ∧ x.person.size ≤ 100 ∧ x.letter.size ≤ 100 ∧ -9223372036854775808 ≤ x.at_ ∧ x.at_ ≤ 9223372036854775807
theorem Snt.len (x : Snt) : x.cells.length = 4 := rfl

/-- what is wrong with a letter, told from six answers -/
def sE (b1 b2 b3 b4 b5 b6 : Bool) : Int := if b1 = false then 5 else if b2 then 6 else if b3 = false then 5 else if b4 = false then 5 else if b5 = false then 1 else if b6 then 7 else 0
def lateB (pre : List Snt) (x : Snt) : Bool := match pre.getLast? with
  | some y => decide (x.at_ < y.at_)
  | none => false
def stepE (pre : List Snt) (x : Snt) : Int := sE (keyB x.id) (hasS (pre.map Snt.id) x.id) (keyB x.person) (keyB x.letter) (momB x.at_) (lateB pre x)
def sentGo : List Snt → List Snt → Int
  | _, [] => 0
  | pre, x :: r => if stepE pre x = 0 then sentGo (pre ++ [x]) r else stepE pre x
def sentE (l : List Snt) : Int := sentGo [] l
/-- the ids of the first k -/
def idsOf (l : List Snt) (k : Nat) : List ByteArray := (l.take k).map Snt.id
theorem idsOf_succ (l : List Snt) (k : Nat) (hk : k < l.length) : idsOf l (k + 1) = idsOf l k ++ [l[k].id] := by
  unfold idsOf
  rw [List.take_succ_eq_append_getElem hk, List.map_append]
  rfl
/-- so far nothing is wrong -/
def SentInv (l : List Snt) (k : Nat) : Prop := sentE l = sentGo (l.take k) (l.drop k)
theorem SentInv.zero (l : List Snt) : SentInv l 0 := rfl
theorem SentInv.step {l : List Snt} {k : Nat} (h : SentInv l k) (hk : k < l.length) : (stepE (l.take k) l[k] ≠ 0 → sentE l = stepE (l.take k) l[k]) ∧ (stepE (l.take k) l[k] = 0 → SentInv l (k + 1)) := by
  unfold SentInv at *
  rw [List.drop_eq_getElem_cons hk, sentGo] at h
  refine ⟨fun h0 => ?_, fun h0 => ?_⟩
  · rw [h, if_neg h0]
  · rw [h, if_pos h0, List.take_succ_eq_append_getElem hk]
theorem SentInv.done {l : List Snt} {k : Nat} (h : SentInv l k) (hk : l.length ≤ k) : sentE l = 0 := by
  unfold SentInv at h
  rw [h, List.drop_of_length_le hk]
  cases l.take k <;> rfl
theorem late_zero (l : List Snt) (x : Snt) : lateB (l.take 0) x = false := by simp [lateB]
theorem late_succ (l : List Snt) (x : Snt) (k : Nat) (h0 : 0 < k) (hk : k - 1 < l.length) : lateB (l.take k) x = decide (x.at_ < l[k - 1].at_) := by
  obtain ⟨j, rfl⟩ : ∃ j, k = j + 1 := ⟨k - 1, by omega⟩
  have hk' : j < l.length := by simpa using hk
  have e : (l.take (j + 1)).getLast? = some l[j] := by rw [List.take_succ_eq_append_getElem hk', List.getLast?_concat]
  unfold lateB
  rw [e]
  rfl
end Go.Proofs.YtgdagknjnidmiaaGreatDoor
/- One of some strings: Stream.one, Stream.One, over a list that was just made. -/
set_option linter.unusedVariables false
namespace Go.Proofs.YtgdagknjnidmiaaGreatDoor
open Go.RowKit

/-- what the maker of a string leaves -/
def GenS (S : SC) (K : Nat) (w : World) (P : ByteArray → Prop) (e : Ending) (w' : World) : Prop :=
  ∃ s, P s ∧ e = .returned (.string s) ∧ w.grownBy w' (some S.g) ∧ Strm w' S K

theorem one_any (S : SC) (K : Nat) (h : Nat) (zs : List ByteArray) (n c : Nat) (w : World) (hs : Strm w S K) (hK : K ≤ 1099511627776) (hn : zs.length = n) (hn0 : 0 < n) (hn1 : n ≤ 1000)
    (hb : w.heap[h]? = some (.cells (zs.map Value.string).toArray 9 (0, 0))) (hg : h ≠ S.g) :
    Calls Tryz.prog 26 #[S.p, .slice (some ⟨h, 0, none⟩) n c] w (GenS S (K + 1) w fun r => r ∈ zs) := by
  have HB := Lib.hid hb
  have HN := Lib.hid hn
  clear hb hn
  go_enter Tryz.func26, Tryz.ntmps26
  go_wp2_with fail
  with_reducible refine (next_any S K _ _ hs hK (by omega)).mono ?_
  rintro e w' ⟨r, ⟨h0, h1, h2⟩, rfl, hgr, hs'⟩
  have hr : r.toNat < zs.length := by have := HN.out; have := h1 (by omega); omega
  have hlt := h1 (by omega)
  have hcell : w'.cell? ⟨h, r.toNat, none⟩ = some (.string zs[r.toNat]) := by
    refine hgr.cell ?_ (by simpa using hg)
    simp [World.cell?, HB.out, hr]
  have HM := Lib.hid (List.getElem_mem hr)
  clear h1
  generalize zs[r.toNat] = z at *
  go_wp2
  go_ret
  exact ⟨z, HM.out, rfl, hgr, hs'⟩

theorem one_at (S : SC) (K : Nat) (zs : List ByteArray) (n c p : Nat) (cs : Array Value) (w : World) (hs : Strm w S K) (hK : K ≤ 1099511627776) (hn : zs.length = n) (hn0 : 0 < n) (hn1 : n ≤ 1000)
    (hp : p = w.heap.size) (hcs : cs = (zs.map Value.string).toArray) :
    Calls Tryz.prog 26 #[S.p, .slice (some ⟨p, 0, none⟩) n c] (w.alloc (.cells cs 9)) (GenS S (K + 1) w fun r => r ∈ zs) := by
  subst hcs hp
  refine (one_any S K _ zs n c _ (strm_alloc hs _) hK hn hn0 hn1 (heap_alloc_new _ _) ?_).mono ?_
  · have := strm_lt hs; omega
  · rintro e w' ⟨r, h1, h2, h3, h4⟩
    exact ⟨r, h1, h2, grown_trans (World.grownBy_alloc w _ _) h3, h4⟩
end Go.Proofs.YtgdagknjnidmiaaGreatDoor
/- Flip: true once in n times. -/
namespace Go.Proofs.YtgdagknjnidmiaaGreatDoor
open Go.RowKit

/-- what a call that draws a bool from the stream leaves -/
def GenB (S : SC) (K : Nat) (w : World) (e : Ending) (w' : World) : Prop :=
  ∃ r : Bool, e = .returned (.bool r) ∧ w.grownBy w' (some S.g) ∧ Strm w' S K

theorem flip_any (S : SC) (K : Nat) (n : Int) (w : World) (hs : Strm w S K) (hK : K ≤ 1099511627776) (hn' : n ≤ 9223372036854775807) :
    Calls Tryz.prog 20 #[S.p, .int .i64 n] w (GenB S (K + 1) w) := by
  go_enter Tryz.func20, Tryz.ntmps20
  go_wp2_with fail
  with_reducible refine (next_any S K _ _ hs hK (by omega)).mono ?_
  rintro e w' ⟨r, ⟨h0, h1, h2⟩, rfl, hgr, hs'⟩
  clear h1
  go_wp2
  go_ret
  exact ⟨_, rfl, hgr, hs'⟩
end Go.Proofs.YtgdagknjnidmiaaGreatDoor
/- Stream.key and Stream.One: one of some strings, seldom a wrong one. -/
set_option linter.unusedVariables false
namespace Go.Proofs.YtgdagknjnidmiaaGreatDoor
open Go.RowKit

theorem key_at (S : SC) (K : Nat) (zs : List ByteArray) (n c p : Nat) (cs : Array Value) (w : World) (hs : Strm w S K) (hK : K + 2 ≤ 1000000) (hn : zs.length = n) (hn0 : 0 < n) (hn1 : n ≤ 1000)
    (hp : p = w.heap.size) (hcs : cs = (zs.map Value.string).toArray) :
    Calls Tryz.prog 25 #[S.p, .slice (some ⟨p, 0, none⟩) n c] (w.alloc (.cells cs 9)) (GenS S (K + 2) w fun r => r ∈ zs ∨ r ∈ [⟨#[]⟩, ⟨#[75, 101, 121]⟩, ⟨#[49, 97]⟩]) := by
  subst hcs hp
  have s0 := strm_alloc hs (.cells (zs.map Value.string).toArray 9)
  have hne : w.heap.size ≠ S.g := by have := strm_lt hs; omega
  have HB := Lib.hid (heap_alloc_new w (.cells (zs.map Value.string).toArray 9))
  have HG := Lib.hid (World.grownBy_alloc w (.cells (zs.map Value.string).toArray 9) (some S.g))
  have HN := Lib.hid hn
  clear hn
  generalize w.alloc (.cells (zs.map Value.string).toArray 9) = w1 at *
  go_enter Tryz.func25, Tryz.ntmps25
  go_wp2_with fail
  with_reducible refine (flip_any S _ _ _ s0 (by omega) (by omega)).mono ?_
  rintro e w2 ⟨b, rfl, k2, s2⟩
  cases b with
  | true =>
    go_wp2_with fail
    with_reducible refine (one_at S _ [⟨#[]⟩, ⟨#[75, 101, 121]⟩, ⟨#[49, 97]⟩] 3 _ _ _ _ s2 (by omega) rfl (by omega) (by omega) (by simp) (by simp)).mono ?_
    rintro e w3 ⟨s, h1, rfl, k3, s3⟩
    go_wp2
    go_ret
    exact ⟨s, .inr h1, rfl, grown_trans HG.out (grown_trans k2 k3), strm_mono s3 (by omega)⟩
  | false =>
    have HB2 := Lib.hid ((k2.block _ (by have h := HB.out; rcases Nat.lt_or_ge w.heap.size w1.heap.size with h' | h'; exact h'; rw [Array.getElem?_eq_none h'] at h; cases h) (by simpa using hne)).trans HB.out)
    go_wp2_with fail
    with_reducible refine (one_any S _ _ zs n _ _ s2 (by omega) HN.out hn0 hn1 HB2.out hne).mono ?_
    rintro e w3 ⟨s, h1, rfl, k3, s3⟩
    go_wp2
    go_ret
    exact ⟨s, .inl h1, rfl, grown_trans HG.out (grown_trans k2 k3), strm_mono s3 (by omega)⟩
end Go.Proofs.YtgdagknjnidmiaaGreatDoor
/- Pick: one of some numbers. -/
namespace Go.Proofs.YtgdagknjnidmiaaGreatDoor
open Go.RowKit

theorem pick_any (S : SC) (K : Nat) (h : Nat) (zs : List Int) (n c : Nat) (w : World) (hs : Strm w S K) (hK : K ≤ 1099511627776) (hn : zs.length = n) (hn0 : 0 < n) (hn1 : n ≤ 1000)
    (hb : w.heap[h]? = some (.cells (zs.map (Value.int .i64)).toArray 3 (0, 0))) (hg : h ≠ S.g) :
    Calls Tryz.prog 7 #[S.p, .slice (some ⟨h, 0, none⟩) n c] w (GenI S (K + 1) w fun r => r ∈ zs) := by
  have HB := Lib.hid hb
  have HN := Lib.hid hn
  clear hb hn
  go_enter Tryz.func7, Tryz.ntmps7
  go_wp2_with fail
  with_reducible refine (next_any S K _ _ hs hK (by omega)).mono ?_
  rintro e w' ⟨r, ⟨h0, h1, h2⟩, rfl, hgr, hs'⟩
  have hr : r.toNat < zs.length := by have := HN.out; have := h1 (by omega); omega
  have hlt := h1 (by omega)
  have hcell : w'.cell? ⟨h, r.toNat, none⟩ = some (.int .i64 zs[r.toNat]) := by
    refine hgr.cell ?_ (by simpa using hg)
    simp [World.cell?, HB.out, hr]
  have HM := Lib.hid (List.getElem_mem hr)
  clear h1
  generalize zs[r.toNat] = z at *
  go_wp2
  go_ret
  exact ⟨z, HM.out, rfl, hgr, hs'⟩
end Go.Proofs.YtgdagknjnidmiaaGreatDoor
/- Pick over a list that was just made. -/
namespace Go.Proofs.YtgdagknjnidmiaaGreatDoor
open Go.RowKit

theorem new_at {w : World} {o : Obj} {p : Nat} (hp : p = w.heap.size) : (w.alloc o).heap[p]? = some o := by
  subst hp
  exact heap_alloc_new w o
/-- a pick of the stream, and the list that it is made of -/
theorem pick_at (S : SC) (K : Nat) (zs : List Int) (n c p : Nat) (cs : Array Value) (w : World) (hs : Strm w S K) (hK : K ≤ 1099511627776) (hn : zs.length = n) (hn0 : 0 < n) (hn1 : n ≤ 1000)
    (hp : p = w.heap.size) (hcs : cs = (zs.map (Value.int .i64)).toArray) :
    Calls Tryz.prog 7 #[S.p, .slice (some ⟨p, 0, none⟩) n c] (w.alloc (.cells cs 3)) (GenI S (K + 1) w fun r => r ∈ zs) := by
  subst hcs hp
  refine (pick_any S K _ zs n c _ (strm_alloc hs _) hK hn hn0 hn1 (heap_alloc_new _ _) ?_).mono ?_
  · have := strm_lt hs; omega
  · rintro e w' ⟨r, h1, h2, h3, h4⟩
    exact ⟨r, h1, h2, grown_trans (World.grownBy_alloc w _ _) h3, h4⟩
end Go.Proofs.YtgdagknjnidmiaaGreatDoor
/- The maker of letters that were sent: Stream.SentList. -/
set_option linter.unusedVariables false
namespace Go.Proofs.YtgdagknjnidmiaaGreatDoor
open Go.RowKit

theorem infoSent : (Tryz.prog.info? 62).map (fun i => (i.zero, i.size, i.bytes)) = some (some (.agg #[.string ⟨#[]⟩, .string ⟨#[]⟩, .string ⟨#[]⟩, .int .i64 0]), 4, 56) := by kernel_rfl

theorem enc_size (n : Int) (h0 : 0 ≤ n) (h1 : n < 128) : (Utf8.encode n).size ≤ 4 := by
  unfold Utf8.encode
  split
  · have hc : n.toNat < 128 := by omega
    simp only [hc, if_true]
    show 1 ≤ 4
    omega
  · show 3 ≤ 4
    omega
theorem size_pre (c : UInt8) (R : ByteArray) (h : R.size ≤ 4) : ((⟨#[c]⟩ : ByteArray) ++ R).size ≤ 5 := by
  rw [ByteArray.size_append]
  show 1 + R.size ≤ 5
  omega

set_option maxRecDepth 100000 in
set_option maxHeartbeats 4000000 in
theorem sentList_any (S : SC) (K : Nat) (most : Int) (w : World) (s0 : Strm w S K) (hK : K ≤ 10000) (hm1 : 1 ≤ most) (hm2 : most ≤ 20) :
    Calls Tryz.prog 5 #[S.p, .int .i64 most] w (GenR S (K + 120) w 4 Snt.cells fun l => l.length ≤ 20 ∧ ∀ x ∈ l, x.ok) := by
  obtain ⟨i0, hi, hz0, hz1, hz2⟩ := info_parts infoSent
  go_enter Tryz.func5, Tryz.ntmps5
  go_wp2_with fail
  with_reducible refine (next_any S _ _ _ s0 (by omega) (by omega)).mono ?_
  rintro e w1 ⟨m', ⟨hm0, hmx, -⟩, rfl, k1, s1⟩
  have hmx2 := hmx (by omega)
  obtain ⟨m, rfl⟩ := Int.eq_ofNat_of_zero_le hm0
  have hS1 := strm_lt s1
  have hw1 := k1.size
  have L1 : LstR w w1.heap.size w1 S (K + 1) 62 4 Snt.cells (.slice none 0 0) [] := ⟨World.ownsRow_nil _ _ _ _, s1, k1, Nat.le_refl _⟩
  clear k1 s1 hm0 hmx s0
  go_wp2_with fail
  go_loopw [5, 6, 7, 13] (fun v t _ i wr => ∃ (k : Nat) (l : List Snt) (z : Int), k ≤ m ∧ i = .int .i64 k ∧ l.length = k ∧ t = .int .i64 z ∧ 0 ≤ z ∧ z ≤ 100 * k ∧ (∀ x ∈ l, x.ok) ∧ LstR w w1.heap.size wr S (K + 1 + 5 * k) 62 4 Snt.cells v l) (fun _ _ _ i _ => m - (intOf i).toNat)
  case atStart => exact ⟨0, [], 0, Nat.zero_le _, rfl, rfl, rfl, by omega, by omega, by simp, L1⟩
  case round =>
    obtain ⟨k, l, z, hk, rfl, hl, rfl, hz1', hz2', hok, hL⟩ := hrel
    have HL := Lib.hid hL
    have HOK := Lib.hid hok
    have hll := Lib.hid hl
    have s2 := hL.2.1
    clear hL L1 hok hl
    by_cases hlt : k < m
    · go_wp2_with fail
      with_reducible refine (pick_at S _ [0, 1, 10, 100] 4 _ _ _ _ s2 (by omega) rfl (by omega) (by omega) (by simp) (by simp)).mono ?_
      rintro e w2 ⟨y, hy, rfl, k2, s3⟩
      have hy' : 0 ≤ y ∧ y ≤ 100 := by
        simp only [List.mem_cons, List.mem_nil_iff, or_false] at hy
        omega
      have HL2 := Lib.hid (HL.out.draw k2 s3 hS1)
      clear HL k2 s2 hy
      obtain ⟨R, hR⟩ : ∃ R, Utf8.encode (97 + (k : Int)) = R := ⟨_, rfl⟩
      have hRs : R.size ≤ 4 := by rw [← hR]; exact enc_size _ (by omega) (by omega)
      go_wp2_with fail
      clear hR
      have HID := Lib.hid (size_pre 115 R hRs)
      generalize (⟨#[115]⟩ : ByteArray) ++ R = id at *
      have hids := HID.out
      with_reducible refine (key_at S _ [⟨#[97, 110, 110]⟩, ⟨#[98, 111]⟩] 2 _ _ _ _ s3 (by omega) rfl (by omega) (by omega) (by simp) (by simp)).mono ?_
      rintro e w3 ⟨person, hpe, rfl, k3, s3'⟩
      have hpes : person.size ≤ 100 := by
        rcases hpe with h | h <;> simp only [List.mem_cons, List.mem_nil_iff, or_false] at h <;> rcases h with rfl | h <;> first | decide | (rcases h with rfl | h <;> first | decide | (subst h; decide)) | (subst h; decide)
      have HL3 := Lib.hid (HL2.out.draw k3 s3' hS1)
      clear HL2 k3 s3 hpe
      go_wp2_with fail
      with_reducible refine (key_at S _ [⟨#[104, 101, 108, 108, 111]⟩, ⟨#[110, 101, 119, 115]⟩, ⟨#[111, 102, 102, 101, 114]⟩] 3 _ _ _ _ s3' (by omega) rfl (by omega) (by omega) (by simp) (by simp)).mono ?_
      rintro e w4 ⟨letter, hpe, rfl, k4, s4⟩
      have hles : letter.size ≤ 100 := by
        rcases hpe with h | h <;> simp only [List.mem_cons, List.mem_nil_iff, or_false] at h <;> rcases h with rfl | h <;> first | decide | (rcases h with rfl | h <;> first | decide | (subst h; decide)) | (subst h; decide)
      have HL4 := Lib.hid (HL3.out.draw k4 s4 hS1)
      clear HL3 k4 s4 hpe s3'
      have own4 := HL4.out.1
      have hw4 := HL4.out.2.2.2
      have hnl : l.length ≤ 20 := by have := hll.out; omega
      go_wp2_with (at_builtin; refine wpList_append_own _ rfl _ _ 26 rfl w1.heap.size 62 i0 _ 4 56 Tryz.underlying26 hi hz0 hz1 hz2 rfl (by decide) _ _ _ rfl (own4.alloc _) ⟨w4.heap.size, 0, none⟩ 1 1 [.string id, .string person, .string letter, .int .i64 (z + y)] rfl rfl ?c1 ?c2 ?c3 ?c4 ?c5 ?_)
      case c1 => exact cells_new w4 #[.string id, .string person, .string letter, .int .i64 (z + y)] 62
      case c2 => simp [Value.oneCell']
      case c3 => unfold maxLen; omega
      case c4 => omega
      case c5 => simp; omega
      intro v2 w5 own5 hgrow5 hne5
      have HL5 := Lib.hid (HL4.out.snoc (x := ⟨id, person, letter, z + y⟩) hS1 hw1 own5 hgrow5)
      clear hne5 own5 hgrow5 HL4 own4
      go_wp2_with fail
      go_roundw
      case rel => exact ⟨k + 1, l ++ [⟨id, person, letter, z + y⟩], z + y, by omega, by go_num, by simp [hll.out], rfl, by omega, by omega, fun x hx => by
          rcases List.mem_append.1 hx with hx | hx
          · exact HOK.out x hx
          · obtain rfl := List.mem_singleton.1 hx
            exact ⟨by simp only; omega, hpes, hles, by simp only; omega, by simp only; omega⟩, by
          obtain ⟨q1, q2, q3, q4⟩ := HL5.out
          exact ⟨q1, strm_mono q2 (by omega), q3, q4⟩⟩
      case measure => simp [intOf]; omega
    · obtain rfl : k = m := by omega
      have hkl := hll.out
      have hnl : l.length ≤ 20 := by omega
      go_wp2_with fail
      with_reducible refine (flip_any S _ _ _ s2 (by omega) (by omega)).mono ?_
      rintro e w3 ⟨b, rfl, k3, s3⟩
      have HL3 := Lib.hid (HL.out.draw k3 s3 hS1)
      have own3 := HL3.out.1
      have HX := Lib.hid (HL3.out.gen (K' := K + 120) (P := fun l => l.length ≤ 20 ∧ ∀ x ∈ l, x.ok) hS1 (by omega) (fun x _ => x.len) ⟨by omega, HOK.out⟩)
      clear HL k3 s2
      cases b with
      | false =>
        go_wp2_with fail
        go_ret
        exact HX.out
      | true =>
        rcases own3.2 with ⟨rfl, h0⟩ | ⟨g, cap, cur, rfl, hbg, hg, hnc, hcm, hcs, htake⟩
        · go_wp2_with fail
          go_ret
          exact HX.out
        · clear hg hcs htake
          by_cases hk0 : l.length = 0
          · have HX' := HX.out
            rw [hk0] at HX'
            have HX2 := Lib.hid HX'
            clear HX HX'
            rw [hk0]
            go_wp2_with fail
            go_ret
            exact HX2.out
          · have hlp : 0 < l.length := by omega
            clear HX hkl
            generalize hn : l.length = n at *
            have HN := Lib.hid hn
            clear hn
            go_wp2_with fail
            with_reducible refine (next_any S _ _ _ s3 (by omega) (by omega)).mono ?_
            rintro e w4 ⟨r, ⟨hr0, hr1, -⟩, rfl, k4, s4⟩
            have hr2 := hr1 (by omega)
            obtain ⟨j, rfl⟩ := Int.eq_ofNat_of_zero_le hr0
            have hj : j < n := by omega
            have HL4 := Lib.hid (HL3.out.draw k4 s4 hS1)
            clear hr0 hr1 hr2 HL3 k4 s3 own3
            go_wp2_with fail
            with_reducible refine (next_any S _ _ _ s4 (by omega) (by omega)).mono ?_
            rintro e w5 ⟨r, ⟨hr0, hr1, -⟩, rfl, k5, s5⟩
            have hr2 := hr1 (by omega)
            have HL5 := Lib.hid (HL4.out.draw k5 s5 hS1)
            clear hr1 HL4 k5 s4
            have hjl : j < l.length := by have := HN.out; omega
            have hxok := Lib.hid (HOK.out l[j] (List.getElem_mem hjl))
            rcases (show r = 0 ∨ r = 1 ∨ r = 2 by omega) with rfl | rfl | rfl
            · go_wp2_with fail
              with_reducible refine (one_at S _ [⟨#[]⟩, ⟨#[115, 97]⟩, ⟨#[83]⟩] 3 _ _ _ _ s5 (by omega) rfl (by omega) (by omega) (by simp) (by simp)).mono ?_
              rintro e w6 ⟨s, hs, rfl, k6, s6⟩
              have hs' : s.size ≤ 100 := by
                simp only [List.mem_cons, List.mem_nil_iff, or_false] at hs
                rcases hs with rfl | hs <;> first | decide | (rcases hs with rfl | rfl <;> decide) | (subst hs; decide)
              have HL6 := Lib.hid (HL5.out.draw k6 s6 hS1)
              have own6 := HL6.out.1
              rw [HN.out] at own6
              have hc6 : w6.cell? ⟨g, j * 4 + 0, none⟩ = some (.string l[j].id) := by
                rw [own6.cellAt _ (by omega), fm_get 4 Snt.cells l (fun x _ => x.len) j 0 hjl (by omega)]
                rfl
              have hf6 : w6.frozen? ⟨g, j * 4 + 0, none⟩ = false := own6.frozenAt _
              have HS := Lib.hid (HL6.out.set (j := j) (i := 0) (u := .string s) (x' := ⟨s, l[j].person, l[j].letter, l[j].at_⟩) hS1 hw1 HN.out (fun x _ => x.len) hjl (by omega) rfl)
              simp only [Nat.add_zero] at hc6 hf6 HS
              clear own6 HL6 HL5 k6 s6 s5 hs
              go_wp2_with fail
              go_ret
              have := HS.out.gen (K' := K + 120) (P := fun l => l.length ≤ 20 ∧ ∀ x ∈ l, x.ok) hS1 (by omega) (fun x _ => x.len) ⟨by simp; have := HN.out; omega, fun x hx => by
                rcases List.mem_or_eq_of_mem_set hx with hx | rfl
                · exact HOK.out x hx
                · obtain ⟨o1, o2, o3, o4, o5⟩ := hxok.out
                  exact ⟨hs', o2, o3, o4, o5⟩⟩
              exact this
            · go_wp2_with fail
              with_reducible refine (pick_at S _ [-1, 4321440, 0] 3 _ _ _ _ s5 (by omega) rfl (by omega) (by omega) (by simp) (by simp)).mono ?_
              rintro e w6 ⟨s, hs, rfl, k6, s6⟩
              have hs' : -1 ≤ s ∧ s ≤ 4321440 := by
                simp only [List.mem_cons, List.mem_nil_iff, or_false] at hs
                omega
              have HL6 := Lib.hid (HL5.out.draw k6 s6 hS1)
              have own6 := HL6.out.1
              rw [HN.out] at own6
              have hc6 : w6.cell? ⟨g, j * 4 + 3, none⟩ = some (.int .i64 l[j].at_) := by
                rw [own6.cellAt _ (by omega), fm_get 4 Snt.cells l (fun x _ => x.len) j 3 hjl (by omega)]
                rfl
              have hf6 : w6.frozen? ⟨g, j * 4 + 3, none⟩ = false := own6.frozenAt _
              have HS := Lib.hid (HL6.out.set (j := j) (i := 3) (u := .int .i64 s) (x' := ⟨l[j].id, l[j].person, l[j].letter, s⟩) hS1 hw1 HN.out (fun x _ => x.len) hjl (by omega) rfl)
              clear own6 HL6 HL5 k6 s6 s5 hs
              go_wp2_with fail
              go_ret
              have := HS.out.gen (K' := K + 120) (P := fun l => l.length ≤ 20 ∧ ∀ x ∈ l, x.ok) hS1 (by omega) (fun x _ => x.len) ⟨by simp; have := HN.out; omega, fun x hx => by
                rcases List.mem_or_eq_of_mem_set hx with hx | rfl
                · exact HOK.out x hx
                · obtain ⟨o1, o2, o3, o4, o5⟩ := hxok.out
                  exact ⟨o1, o2, o3, by simp only; omega, by simp only; omega⟩⟩
              exact this
            · go_wp2_with fail
              with_reducible refine (one_at S _ [⟨#[]⟩, ⟨#[88]⟩] 2 _ _ _ _ s5 (by omega) rfl (by omega) (by omega) (by simp) (by simp)).mono ?_
              rintro e w6 ⟨s, hs, rfl, k6, s6⟩
              have hs' : s.size ≤ 100 := by
                simp only [List.mem_cons, List.mem_nil_iff, or_false] at hs
                rcases hs with rfl | rfl <;> decide
              have HL6 := Lib.hid (HL5.out.draw k6 s6 hS1)
              have own6 := HL6.out.1
              rw [HN.out] at own6
              have hc6 : w6.cell? ⟨g, j * 4 + 2, none⟩ = some (.string l[j].letter) := by
                rw [own6.cellAt _ (by omega), fm_get 4 Snt.cells l (fun x _ => x.len) j 2 hjl (by omega)]
                rfl
              have hf6 : w6.frozen? ⟨g, j * 4 + 2, none⟩ = false := own6.frozenAt _
              have HS := Lib.hid (HL6.out.set (j := j) (i := 2) (u := .string s) (x' := ⟨l[j].id, l[j].person, s, l[j].at_⟩) hS1 hw1 HN.out (fun x _ => x.len) hjl (by omega) rfl)
              clear own6 HL6 HL5 k6 s6 s5 hs
              go_wp2_with fail
              go_ret
              have := HS.out.gen (K' := K + 120) (P := fun l => l.length ≤ 20 ∧ ∀ x ∈ l, x.ok) hS1 (by omega) (fun x _ => x.len) ⟨by simp; have := HN.out; omega, fun x hx => by
                rcases List.mem_or_eq_of_mem_set hx with hx | rfl
                · exact HOK.out x hx
                · obtain ⟨o1, o2, o3, o4, o5⟩ := hxok.out
                  exact ⟨o1, o2, hs', o4, o5⟩⟩
              exact this
end Go.Proofs.YtgdagknjnidmiaaGreatDoor
/- The maker of letters that were sent, and what their letters may be (printed by gen_sentlet.py). -/
set_option linter.unusedVariables false
namespace Go.Proofs.YtgdagknjnidmiaaGreatDoor
open Go.RowKit

def LTS : List ByteArray := [⟨#[104, 101, 108, 108, 111]⟩, ⟨#[110, 101, 119, 115]⟩, ⟨#[111, 102, 102, 101, 114]⟩] ++ [⟨#[]⟩, ⟨#[75, 101, 121]⟩, ⟨#[49, 97]⟩] ++ [⟨#[]⟩, ⟨#[88]⟩]
def Snt.okL (x : Snt) : Prop := x.ok ∧ x.letter ∈ LTS

set_option maxRecDepth 100000 in
set_option maxHeartbeats 4000000 in
theorem sentLet_any (S : SC) (K : Nat) (most : Int) (w : World) (s0 : Strm w S K) (hK : K ≤ 10000) (hm1 : 1 ≤ most) (hm2 : most ≤ 20) :
    Calls Tryz.prog 5 #[S.p, .int .i64 most] w (GenR S (K + 120) w 4 Snt.cells fun l => l.length ≤ 20 ∧ ∀ x ∈ l, x.okL) := by
  obtain ⟨i0, hi, hz0, hz1, hz2⟩ := info_parts infoSent
  go_enter Tryz.func5, Tryz.ntmps5
  go_wp2_with fail
  with_reducible refine (next_any S _ _ _ s0 (by omega) (by omega)).mono ?_
  rintro e w1 ⟨m', ⟨hm0, hmx, -⟩, rfl, k1, s1⟩
  have hmx2 := hmx (by omega)
  obtain ⟨m, rfl⟩ := Int.eq_ofNat_of_zero_le hm0
  have hS1 := strm_lt s1
  have hw1 := k1.size
  have L1 : LstR w w1.heap.size w1 S (K + 1) 62 4 Snt.cells (.slice none 0 0) [] := ⟨World.ownsRow_nil _ _ _ _, s1, k1, Nat.le_refl _⟩
  clear k1 s1 hm0 hmx s0
  go_wp2_with fail
  go_loopw [5, 6, 7, 13] (fun v t _ i wr => ∃ (k : Nat) (l : List Snt) (z : Int), k ≤ m ∧ i = .int .i64 k ∧ l.length = k ∧ t = .int .i64 z ∧ 0 ≤ z ∧ z ≤ 100 * k ∧ (∀ x ∈ l, x.okL) ∧ LstR w w1.heap.size wr S (K + 1 + 5 * k) 62 4 Snt.cells v l) (fun _ _ _ i _ => m - (intOf i).toNat)
  case atStart => exact ⟨0, [], 0, Nat.zero_le _, rfl, rfl, rfl, by omega, by omega, by simp, L1⟩
  case round =>
    obtain ⟨k, l, z, hk, rfl, hl, rfl, hz1', hz2', hok, hL⟩ := hrel
    have HL := Lib.hid hL
    have HOK := Lib.hid hok
    have hll := Lib.hid hl
    have s2 := hL.2.1
    clear hL L1 hok hl
    by_cases hlt : k < m
    · go_wp2_with fail
      with_reducible refine (pick_at S _ [0, 1, 10, 100] 4 _ _ _ _ s2 (by omega) rfl (by omega) (by omega) (by simp) (by simp)).mono ?_
      rintro e w2 ⟨y, hy, rfl, k2, s3⟩
      have hy' : 0 ≤ y ∧ y ≤ 100 := by
        simp only [List.mem_cons, List.mem_nil_iff, or_false] at hy
        omega
      have HL2 := Lib.hid (HL.out.draw k2 s3 hS1)
      clear HL k2 s2 hy
      obtain ⟨R, hR⟩ : ∃ R, Utf8.encode (97 + (k : Int)) = R := ⟨_, rfl⟩
      have hRs : R.size ≤ 4 := by rw [← hR]; exact enc_size _ (by omega) (by omega)
      go_wp2_with fail
      clear hR
      have HID := Lib.hid (size_pre 115 R hRs)
      generalize (⟨#[115]⟩ : ByteArray) ++ R = id at *
      have hids := HID.out
      with_reducible refine (key_at S _ [⟨#[97, 110, 110]⟩, ⟨#[98, 111]⟩] 2 _ _ _ _ s3 (by omega) rfl (by omega) (by omega) (by simp) (by simp)).mono ?_
      rintro e w3 ⟨person, hpe, rfl, k3, s3'⟩
      have hpes : person.size ≤ 100 := by
        rcases hpe with h | h <;> simp only [List.mem_cons, List.mem_nil_iff, or_false] at h <;> rcases h with rfl | h <;> first | decide | (rcases h with rfl | h <;> first | decide | (subst h; decide)) | (subst h; decide)
      have HL3 := Lib.hid (HL2.out.draw k3 s3' hS1)
      clear HL2 k3 s3 hpe
      go_wp2_with fail
      with_reducible refine (key_at S _ [⟨#[104, 101, 108, 108, 111]⟩, ⟨#[110, 101, 119, 115]⟩, ⟨#[111, 102, 102, 101, 114]⟩] 3 _ _ _ _ s3' (by omega) rfl (by omega) (by omega) (by simp) (by simp)).mono ?_
      rintro e w4 ⟨letter, hpe, rfl, k4, s4⟩
      have hlet : letter ∈ LTS := List.mem_append.2 (Or.inl (List.mem_append.2 hpe))
      have hles : letter.size ≤ 100 := by
        rcases hpe with h | h <;> simp only [List.mem_cons, List.mem_nil_iff, or_false] at h <;> rcases h with rfl | h <;> first | decide | (rcases h with rfl | h <;> first | decide | (subst h; decide)) | (subst h; decide)
      have HL4 := Lib.hid (HL3.out.draw k4 s4 hS1)
      clear HL3 k4 s4 hpe s3'
      have own4 := HL4.out.1
      have hw4 := HL4.out.2.2.2
      have hnl : l.length ≤ 20 := by have := hll.out; omega
      go_wp2_with (at_builtin; refine wpList_append_own _ rfl _ _ 26 rfl w1.heap.size 62 i0 _ 4 56 Tryz.underlying26 hi hz0 hz1 hz2 rfl (by decide) _ _ _ rfl (own4.alloc _) ⟨w4.heap.size, 0, none⟩ 1 1 [.string id, .string person, .string letter, .int .i64 (z + y)] rfl rfl ?c1 ?c2 ?c3 ?c4 ?c5 ?_)
      case c1 => exact cells_new w4 #[.string id, .string person, .string letter, .int .i64 (z + y)] 62
      case c2 => simp [Value.oneCell']
      case c3 => unfold maxLen; omega
      case c4 => omega
      case c5 => simp; omega
      intro v2 w5 own5 hgrow5 hne5
      have HL5 := Lib.hid (HL4.out.snoc (x := ⟨id, person, letter, z + y⟩) hS1 hw1 own5 hgrow5)
      clear hne5 own5 hgrow5 HL4 own4
      go_wp2_with fail
      go_roundw
      case rel => exact ⟨k + 1, l ++ [⟨id, person, letter, z + y⟩], z + y, by omega, by go_num, by simp [hll.out], rfl, by omega, by omega, fun x hx => by
          rcases List.mem_append.1 hx with hx | hx
          · exact HOK.out x hx
          · obtain rfl := List.mem_singleton.1 hx
            exact ⟨⟨by simp only; omega, hpes, hles, by simp only; omega, by simp only; omega⟩, hlet⟩, by
          obtain ⟨q1, q2, q3, q4⟩ := HL5.out
          exact ⟨q1, strm_mono q2 (by omega), q3, q4⟩⟩
      case measure => simp [intOf]; omega
    · obtain rfl : k = m := by omega
      have hkl := hll.out
      have hnl : l.length ≤ 20 := by omega
      go_wp2_with fail
      with_reducible refine (flip_any S _ _ _ s2 (by omega) (by omega)).mono ?_
      rintro e w3 ⟨b, rfl, k3, s3⟩
      have HL3 := Lib.hid (HL.out.draw k3 s3 hS1)
      have own3 := HL3.out.1
      have HX := Lib.hid (HL3.out.gen (K' := K + 120) (P := fun l => l.length ≤ 20 ∧ ∀ x ∈ l, x.okL) hS1 (by omega) (fun x _ => x.len) ⟨by omega, HOK.out⟩)
      clear HL k3 s2
      cases b with
      | false =>
        go_wp2_with fail
        go_ret
        exact HX.out
      | true =>
        rcases own3.2 with ⟨rfl, h0⟩ | ⟨g, cap, cur, rfl, hbg, hg, hnc, hcm, hcs, htake⟩
        · go_wp2_with fail
          go_ret
          exact HX.out
        · clear hg hcs htake
          by_cases hk0 : l.length = 0
          · have HX' := HX.out
            rw [hk0] at HX'
            have HX2 := Lib.hid HX'
            clear HX HX'
            rw [hk0]
            go_wp2_with fail
            go_ret
            exact HX2.out
          · have hlp : 0 < l.length := by omega
            clear HX hkl
            generalize hn : l.length = n at *
            have HN := Lib.hid hn
            clear hn
            go_wp2_with fail
            with_reducible refine (next_any S _ _ _ s3 (by omega) (by omega)).mono ?_
            rintro e w4 ⟨r, ⟨hr0, hr1, -⟩, rfl, k4, s4⟩
            have hr2 := hr1 (by omega)
            obtain ⟨j, rfl⟩ := Int.eq_ofNat_of_zero_le hr0
            have hj : j < n := by omega
            have HL4 := Lib.hid (HL3.out.draw k4 s4 hS1)
            clear hr0 hr1 hr2 HL3 k4 s3 own3
            go_wp2_with fail
            with_reducible refine (next_any S _ _ _ s4 (by omega) (by omega)).mono ?_
            rintro e w5 ⟨r, ⟨hr0, hr1, -⟩, rfl, k5, s5⟩
            have hr2 := hr1 (by omega)
            have HL5 := Lib.hid (HL4.out.draw k5 s5 hS1)
            clear hr1 HL4 k5 s4
            have hjl : j < l.length := by have := HN.out; omega
            have hxok := Lib.hid (HOK.out l[j] (List.getElem_mem hjl))
            rcases (show r = 0 ∨ r = 1 ∨ r = 2 by omega) with rfl | rfl | rfl
            · go_wp2_with fail
              with_reducible refine (one_at S _ [⟨#[]⟩, ⟨#[115, 97]⟩, ⟨#[83]⟩] 3 _ _ _ _ s5 (by omega) rfl (by omega) (by omega) (by simp) (by simp)).mono ?_
              rintro e w6 ⟨s, hs, rfl, k6, s6⟩
              have hs' : s.size ≤ 100 := by
                simp only [List.mem_cons, List.mem_nil_iff, or_false] at hs
                rcases hs with rfl | hs <;> first | decide | (rcases hs with rfl | rfl <;> decide) | (subst hs; decide)
              have HL6 := Lib.hid (HL5.out.draw k6 s6 hS1)
              have own6 := HL6.out.1
              rw [HN.out] at own6
              have hc6 : w6.cell? ⟨g, j * 4 + 0, none⟩ = some (.string l[j].id) := by
                rw [own6.cellAt _ (by omega), fm_get 4 Snt.cells l (fun x _ => x.len) j 0 hjl (by omega)]
                rfl
              have hf6 : w6.frozen? ⟨g, j * 4 + 0, none⟩ = false := own6.frozenAt _
              have HS := Lib.hid (HL6.out.set (j := j) (i := 0) (u := .string s) (x' := ⟨s, l[j].person, l[j].letter, l[j].at_⟩) hS1 hw1 HN.out (fun x _ => x.len) hjl (by omega) rfl)
              simp only [Nat.add_zero] at hc6 hf6 HS
              clear own6 HL6 HL5 k6 s6 s5 hs
              go_wp2_with fail
              go_ret
              have := HS.out.gen (K' := K + 120) (P := fun l => l.length ≤ 20 ∧ ∀ x ∈ l, x.okL) hS1 (by omega) (fun x _ => x.len) ⟨by simp; have := HN.out; omega, fun x hx => by
                rcases List.mem_or_eq_of_mem_set hx with hx | rfl
                · exact HOK.out x hx
                · obtain ⟨⟨o1, o2, o3, o4, o5⟩, o6⟩ := hxok.out
                  exact ⟨⟨hs', o2, o3, o4, o5⟩, o6⟩⟩
              exact this
            · go_wp2_with fail
              with_reducible refine (pick_at S _ [-1, 4321440, 0] 3 _ _ _ _ s5 (by omega) rfl (by omega) (by omega) (by simp) (by simp)).mono ?_
              rintro e w6 ⟨s, hs, rfl, k6, s6⟩
              have hs' : -1 ≤ s ∧ s ≤ 4321440 := by
                simp only [List.mem_cons, List.mem_nil_iff, or_false] at hs
                omega
              have HL6 := Lib.hid (HL5.out.draw k6 s6 hS1)
              have own6 := HL6.out.1
              rw [HN.out] at own6
              have hc6 : w6.cell? ⟨g, j * 4 + 3, none⟩ = some (.int .i64 l[j].at_) := by
                rw [own6.cellAt _ (by omega), fm_get 4 Snt.cells l (fun x _ => x.len) j 3 hjl (by omega)]
                rfl
              have hf6 : w6.frozen? ⟨g, j * 4 + 3, none⟩ = false := own6.frozenAt _
              have HS := Lib.hid (HL6.out.set (j := j) (i := 3) (u := .int .i64 s) (x' := ⟨l[j].id, l[j].person, l[j].letter, s⟩) hS1 hw1 HN.out (fun x _ => x.len) hjl (by omega) rfl)
              clear own6 HL6 HL5 k6 s6 s5 hs
              go_wp2_with fail
              go_ret
              have := HS.out.gen (K' := K + 120) (P := fun l => l.length ≤ 20 ∧ ∀ x ∈ l, x.okL) hS1 (by omega) (fun x _ => x.len) ⟨by simp; have := HN.out; omega, fun x hx => by
                rcases List.mem_or_eq_of_mem_set hx with hx | rfl
                · exact HOK.out x hx
                · obtain ⟨⟨o1, o2, o3, o4, o5⟩, o6⟩ := hxok.out
                  exact ⟨⟨o1, o2, o3, by simp only; omega, by simp only; omega⟩, o6⟩⟩
              exact this
            · go_wp2_with fail
              with_reducible refine (one_at S _ [⟨#[]⟩, ⟨#[88]⟩] 2 _ _ _ _ s5 (by omega) rfl (by omega) (by omega) (by simp) (by simp)).mono ?_
              rintro e w6 ⟨s, hs, rfl, k6, s6⟩
              have hsl : s ∈ LTS := List.mem_append.2 (Or.inr hs)
              have hs' : s.size ≤ 100 := by
                simp only [List.mem_cons, List.mem_nil_iff, or_false] at hs
                rcases hs with rfl | rfl <;> decide
              have HL6 := Lib.hid (HL5.out.draw k6 s6 hS1)
              have own6 := HL6.out.1
              rw [HN.out] at own6
              have hc6 : w6.cell? ⟨g, j * 4 + 2, none⟩ = some (.string l[j].letter) := by
                rw [own6.cellAt _ (by omega), fm_get 4 Snt.cells l (fun x _ => x.len) j 2 hjl (by omega)]
                rfl
              have hf6 : w6.frozen? ⟨g, j * 4 + 2, none⟩ = false := own6.frozenAt _
              have HS := Lib.hid (HL6.out.set (j := j) (i := 2) (u := .string s) (x' := ⟨l[j].id, l[j].person, s, l[j].at_⟩) hS1 hw1 HN.out (fun x _ => x.len) hjl (by omega) rfl)
              clear own6 HL6 HL5 k6 s6 s5 hs
              go_wp2_with fail
              go_ret
              have := HS.out.gen (K' := K + 120) (P := fun l => l.length ≤ 20 ∧ ∀ x ∈ l, x.okL) hS1 (by omega) (fun x _ => x.len) ⟨by simp; have := HN.out; omega, fun x hx => by
                rcases List.mem_or_eq_of_mem_set hx with hx | rfl
                · exact HOK.out x hx
                · obtain ⟨⟨o1, o2, o3, o4, o5⟩, o6⟩ := hxok.out
                  exact ⟨⟨o1, o2, hs', o4, o5⟩, hsl⟩⟩
              exact this
end Go.Proofs.YtgdagknjnidmiaaGreatDoor
/- The maker of keys: Stream.Keys. -/
set_option linter.unusedVariables false
namespace Go.Proofs.YtgdagknjnidmiaaGreatDoor
open Go.RowKit

theorem infoStr : (Tryz.prog.info? 9).map (fun i => (i.zero, i.size, i.bytes)) = some (some (.string ⟨#[]⟩), 1, 16) := by kernel_rfl
/-- a string's cell -/
def sCell (s : ByteArray) : List Value := [.string s]

end Go.Proofs.YtgdagknjnidmiaaGreatDoor
/- Lists of strings, and a row of such lists of one's own, each of which may grow. -/
set_option linter.unusedVariables false
namespace Go.Proofs.YtgdagknjnidmiaaGreatDoor
open Go.RowKit

/-- the slice at a reads as the strings l -/
def StrsAt (w : World) (a : Option Addr) (l : List ByteArray) : Prop :=
  ∀ j (hj : j < l.length), ∃ p off, a = some ⟨p, off, none⟩ ∧ p < w.heap.size ∧ w.cell? ⟨p, off + j, none⟩ = some (.string l[j])
theorem StrsAt.nil (w : World) (a : Option Addr) : StrsAt w a [] := fun j hj => by simp at hj
theorem StrsAt.of_rat {w : World} {a : Option Addr} {l : List ByteArray} (h : RAt w a 1 sCell l) : StrsAt w a l := by
  intro j hj
  obtain ⟨p, off, h1, h2, h3⟩ := h j hj
  have := h3 0 (.string l[j]) rfl
  rw [Nat.mul_one, Nat.add_zero] at this
  exact ⟨p, off, h1, h2, this⟩
theorem StrsAt.below {w w' : World} {a : Option Addr} {l : List ByteArray} (h : StrsAt w a l) (hb : Below w.heap.size w w') : StrsAt w' a l := by
  intro j hj
  obtain ⟨p, off, h1, h2, h3⟩ := h j hj
  exact ⟨p, off, h1, Nat.lt_of_lt_of_le h2 hb.size, (hb.cell (p := ⟨p, off + j, none⟩) h2).trans h3⟩
theorem StrsAt.grown {w w' : World} {a : Option Addr} {l : List ByteArray} {g : Nat} (h : StrsAt w a l) (hb : w.grownBy w' (some g)) (hg : ∀ p off, a = some ⟨p, off, none⟩ → p ≠ g) : StrsAt w' a l := by
  intro j hj
  obtain ⟨p, off, h1, h2, h3⟩ := h j hj
  exact ⟨p, off, h1, Nat.lt_of_lt_of_le h2 hb.size, hb.cell h3 (by have := hg p off h1; simpa using this)⟩
theorem StrsAt.of_own {w : World} {b0 : Nat} {t : TypeId} {v : Value} {l : List ByteArray} (h : w.ownsRow b0 t 1 v l.length (l.map Value.string)) : ∃ a c, v = .slice a l.length c ∧ StrsAt w a l := by
  have e : ∀ l : List ByteArray, l.map Value.string = l.flatMap sCell := fun l => by
    induction l with
    | nil => rfl
    | cons x l ih => rw [List.map_cons, List.flatMap_cons, ih]; rfl
  rw [e l] at h
  obtain ⟨a, c, h1, h2, -⟩ := RAt.of_own h (fun x _ => rfl)
  exact ⟨a, c, h1, .of_rat h2⟩

/-- the value v reads as the lists L -/
def SSAt (w : World) (v : Value) (L : List (List ByteArray)) : Prop :=
  ∃ a c, v = .slice a L.length c ∧ ∀ j (hj : j < L.length), ∃ p off, a = some ⟨p, off, none⟩ ∧ p < w.heap.size ∧ ∃ a' c', w.cell? ⟨p, off + j, none⟩ = some (.slice a' L[j].length c') ∧ StrsAt w a' L[j]
theorem SSAt.nil (w : World) : SSAt w (.slice none 0 0) [] := ⟨none, 0, rfl, fun j hj => by simp at hj⟩
theorem SSAt.below {w w' : World} {v : Value} {L : List (List ByteArray)} (h : SSAt w v L) (hb : Below w.heap.size w w') : SSAt w' v L := by
  obtain ⟨a, c, rfl, h⟩ := h
  refine ⟨a, c, rfl, fun j hj => ?_⟩
  obtain ⟨p, off, h1, h2, a', c', h3, h4⟩ := h j hj
  exact ⟨p, off, h1, Nat.lt_of_lt_of_le h2 hb.size, a', c', (hb.cell (p := ⟨p, off + j, none⟩) h2).trans h3, h4.below hb⟩

/-- block B is a row of m lists of one's own, which read as L -/
structure LL (b0 : Nat) (wr : World) (B m : Nat) (f : Nat → Value) (L : List (List ByteArray)) : Prop where
  len : L.length = m
  row : RowG wr B m f
  own : ∀ j (hj : j < L.length), wr.ownsRow b0 9 1 (f j) L[j].length (L[j].map Value.string)
  apart : ∀ i j, i < m → j < m → i ≠ j → ∀ g, (f i).ownBlock = some g → (f j).ownBlock ≠ some g
  hB : B < b0
section
variable {b0 : Nat} {wr wr' : World} {B m : Nat} {f : Nat → Value} {L : List (List ByteArray)}
theorem LL.below (h : LL b0 wr B m f L) (hb : Below wr.heap.size wr wr') : LL b0 wr' B m f L :=
  ⟨h.len, h.row.below hb, fun j hj => (h.own j hj).kept (grown_of_below hb none) (by cases (f j).ownBlock <;> simp), h.apart, h.hB⟩
theorem LL.ss (h : LL b0 wr B m f L) : SSAt wr (.slice (some ⟨B, 0, none⟩) m m) L := by
  have hl := h.len
  refine ⟨some ⟨B, 0, none⟩, m, by rw [hl], fun j hj => ⟨B, 0, rfl, h.row.lt, ?_⟩⟩
  obtain ⟨a, c, e, hs⟩ := StrsAt.of_own (h.own j hj)
  refine ⟨a, c, ?_, hs⟩
  rw [Nat.zero_add, h.row.cell j (by omega), e]
/-- a string more in list i -/
theorem LL.app {i g cap : Nat} {W w1 : World} {x : ByteArray} (h : LL b0 wr B m f L) (hi : i < L.length) (hR : wr.grownBy W none) (hb : b0 ≤ wr.heap.size)
    (hown : w1.ownsRow b0 9 1 (.slice (some ⟨g, 0, none⟩) (L[i].length + 1) cap) (L[i].length + 1) (L[i].map Value.string ++ [.string x])) (hgrow : W.grownBy w1 (f i).ownBlock) (hat : (f i).ownBlock = some g ∨ g = W.heap.size) :
    w1.cell? ⟨B, i, none⟩ = some (f i) ∧ w1.frozen? ⟨B, i, none⟩ = false ∧
    LL b0 (w1.setCell ⟨B, i, none⟩ (.slice (some ⟨g, 0, none⟩) (L[i].length + 1) cap)) B m (fun j => if j = i then .slice (some ⟨g, 0, none⟩) (L[i].length + 1) cap else f j) (L.set i (L[i] ++ [x])) := by
  have hl := h.len
  have hBb := h.hB
  have hrowlt : ∀ j (hj : j < L.length) k, (f j).ownBlock = some k → b0 ≤ k ∧ k < wr.heap.size := fun j hj k hk => (h.own j hj).lt k hk
  have hR1 : RowG w1 B m f := (h.row.grown hR (by simp)).grown hgrow (fun e => by have := (hrowlt i hi B e.symm).1; omega)
  have hz := hR.size
  have hset : w1.grownBy (w1.setCell ⟨B, i, none⟩ (.slice (some ⟨g, 0, none⟩) (L[i].length + 1) cap)) (some B) := ⟨rfl, rfl, rfl, by simp [World.setCell], fun k _ hne => Below.heap_setCell w1 _ _ k (by rintro rfl; exact hne rfl)⟩
  have hgb : b0 ≤ g := (hown.lt g (by simp [Value.ownBlock])).1
  refine ⟨hR1.cell i (by omega), hR1.free i (by omega), by simp [hl], hR1.set i (by omega) _, fun j hj => ?_, fun a b ha hb' hab k hk => ?_, h.hB⟩
  · have hj' : j < L.length := by simpa using hj
    by_cases e : j = i
    · subst e
      simp only [if_pos, List.getElem_set_self, List.length_append, List.length_singleton, List.map_append, List.map_cons, List.map_nil]
      exact hown.kept hset (.inr (by simp [Value.ownBlock]; omega))
    · rw [if_neg e]
      have hs : (L.set i (L[i] ++ [x]))[j] = L[j] := List.getElem_set_ne (fun h => e h.symm) _
      rw [hs]
      have h1 := h.own j hj'
      have h2 := h1.kept hR (by cases (f j).ownBlock <;> simp)
      have h3 := h2.kept hgrow (by
        cases hv : (f j).ownBlock with
        | none => exact .inl rfl
        | some k => exact .inr fun e' => h.apart i j (by omega) (by omega) (fun h => e h.symm) k e'.symm hv)
      refine h3.kept hset ?_
      cases hv : (f j).ownBlock with
      | none => exact .inl rfl
      | some k => exact .inr (by have := (hrowlt j hj' k hv).1; simp; omega)
  · have hfar : ∀ j, j < m → j ≠ i → (f j).ownBlock ≠ some g := fun j hj hji e => by
      rcases hat with hat | hat
      · exact h.apart i j (by omega) hj (fun h => hji h.symm) g hat e
      · have := (hrowlt j (by omega) g e).2
        omega
    by_cases e1 : a = i
    · rw [if_pos e1] at hk
      have : g = k := by simpa [Value.ownBlock] using hk
      subst this
      rw [if_neg (fun e2 => hab (e1.trans e2.symm))]
      exact hfar b hb' (fun e2 => hab (e1.trans e2.symm))
    · rw [if_neg e1] at hk
      by_cases e2 : b = i
      · rw [if_pos e2]
        intro hk'
        have : g = k := by simpa [Value.ownBlock] using hk'
        subst this
        exact hfar a ha e1 hk
      · rw [if_neg e2]
        exact h.apart a b ha hb' hab k hk
theorem LL.new {z : Value} (hz : z = .slice none 0 0) (h : RowG wr B m (fun _ => z)) (hB : B < b0) : LL b0 wr B m (fun _ => z) (List.replicate m []) := by
  subst hz
  refine ⟨by simp, h, fun j hj => ?_, fun i j _ _ _ g hg => by simp [Value.ownBlock] at hg, hB⟩
  rw [List.getElem_replicate]
  exact World.ownsRow_nil _ _ _ _
end

theorem contS_eq (l : List ByteArray) (x : ByteArray) : Lib.containsS l x = hasS l x := by
  rw [Bool.eq_iff_iff, Lib.containsS_iff]
  unfold hasS
  rw [List.any_eq_true]
  constructor
  · intro h; exact ⟨x, h, by simp⟩
  · rintro ⟨y, hy, e⟩
    have e' : y.data.toList = x.data.toList := of_decide_eq_true e
    have : y = x := by
      cases y; cases x
      simp only [ByteArray.mk.injEq]
      exact Array.toList_inj.1 e'
    exact this ▸ hy

end Go.Proofs.YtgdagknjnidmiaaGreatDoor
/- A struct variable of one's own that is written: block q holds its cells. -/
set_option linter.unusedVariables false
namespace Go.Proofs.YtgdagknjnidmiaaGreatDoor
open Go.RowKit

/-- block q holds the cells cs, all writable -/
def OB (w : World) (q : Nat) (cs : List Value) (t : TypeId) : Prop := w.heap[q]? = some (.cells cs.toArray t (0, 0))
section
variable {w w' : World} {q : Nat} {cs : List Value} {t : TypeId}
theorem OB.new (w : World) (cs : List Value) (t : TypeId) : OB (w.alloc (.cells cs.toArray t)) w.heap.size cs t := heap_alloc_new w _
theorem OB.lt (h : OB w q cs t) : q < w.heap.size := (Array.getElem?_eq_some_iff.1 h).1
theorem OB.cell (h : OB w q cs t) (i : Nat) (v : Value) (hv : cs[i]? = some v) : w.cell? ⟨q, i, none⟩ = some v := by
  unfold OB at h
  simp only [World.cell?, h, List.getElem?_toArray]
  rw [hv]
  rfl
theorem OB.free (h : OB w q cs t) (i : Nat) : w.frozen? ⟨q, i, none⟩ = false := by
  unfold OB at h
  simp [World.frozen?, h]
theorem OB.xb (h : OB w q cs t) : XB w q cs := ⟨h.lt, fun i v hv => h.cell i v hv⟩
theorem OB.below (h : OB w q cs t) (hb : Below w.heap.size w w') : OB w' q cs t := (hb.block q h.lt).trans h
theorem OB.grown {row : Option Nat} (h : OB w q cs t) (hb : w.grownBy w' row) (hr : row ≠ some q) : OB w' q cs t := (hb.block q h.lt (fun e => hr e.symm)).trans h
theorem OB.alloc (h : OB w q cs t) (o : Obj) : OB (w.alloc o) q cs t := h.below ((Below.refl _ _).alloc (Nat.le_refl _) o)
theorem OB.drewN (h : OB w q cs t) (n : Nat) : OB (w.drewN n) q cs t := h
theorem OB.set (h : OB w q cs t) (i : Nat) (v : Value) : OB (w.setCell ⟨q, i, none⟩ v) q (cs.set i v) t := by
  unfold OB at *
  have hq := (Array.getElem?_eq_some_iff.1 h).1
  simp only [World.setCell]
  rw [Array.getElem?_modify, if_pos rfl, h]
  simp
theorem OB.put {cs' : List Value} (h : OB w q cs t) (i : Nat) (v : Value) (e : cs' = cs.set i v) : OB (w.setCell ⟨q, i, none⟩ v) q cs' t := by
  rw [e]
  exact h.set i v
end
end Go.Proofs.YtgdagknjnidmiaaGreatDoor
/- Stream.Range. -/
set_option linter.unusedVariables false
namespace Go.Proofs.YtgdagknjnidmiaaGreatDoor
open Go.RowKit

theorem range_any (S : SC) (K : Nat) (lo hi : Int) (w : World) (hs : Strm w S K) (hK : K ≤ 1000000) (h1 : lo ≤ hi) (h2 : -1000000 ≤ lo) (h3 : hi ≤ 1000000) :
    Calls Tryz.prog 15 #[S.p, .int .i64 lo, .int .i64 hi] w (GenI S (K + 1) w fun r => lo ≤ r ∧ r ≤ hi) := by
  go_enter Tryz.func15, Tryz.ntmps15
  go_wp2_with fail
  with_reducible refine (next_any S _ _ _ hs (by omega) (by omega)).mono ?_
  rintro e w1 ⟨r, ⟨hm0, hm1, -⟩, rfl, k1, s1⟩
  have hm2 := hm1 (by omega)
  clear hm1
  go_wp2
  go_ret
  exact ⟨_, ⟨by omega, by omega⟩, rfl, k1, s1⟩
end Go.Proofs.YtgdagknjnidmiaaGreatDoor
/- A region that draws its order, by an invariant: what holds of the slots that it writes and of the world, whichever operations have come up. -/
set_option linter.unusedVariables false
namespace Go.Proofs.YtgdagknjnidmiaaGreatDoor
open Go.RowKit

section
variable {P : Program} {md : Region.Mode} {ops : Array Oper} {Q : Exit → Act → World → Prop}
/-- the frame a0 with the slots ds as v says -/
def setAll (a0 : Act) (ds : List Nat) (v : Nat → Value) : Act := ds.foldl (fun a d => a.put (some d) (v d)) a0
def upd (v : Nat → Value) (d : Nat) (x : Value) : Nat → Value := fun e => if e = d then x else v e

theorem wpAny_run (I : Nat → Array Bool → Act → World → Prop) (h0 : ∀ listed a w, I 0 listed a w → wpAny P md ops Q 0 listed a w)
    (hs : ∀ fuel listed a w, I (fuel + 1) listed a w → wpAny P md ops Q (fuel + 1) listed a w ∨ (Region.ready md ops listed ≠ [] ∧ ∀ i ∈ Region.ready md ops listed, wpOp P ops Q i (fun a' w' => I fuel (listed.setIfInBounds i true) a' w') a w)) :
    ∀ fuel listed a w, I fuel listed a w → wpAny P md ops Q fuel listed a w
  | 0, listed, a, w, h => h0 listed a w h
  | fuel + 1, listed, a, w, h => by
    rcases hs fuel listed a w h with h1 | ⟨h1, h2⟩
    · exact h1
    · exact ⟨fun h3 => absurd h3 h1, fun i hi => wpOp_mono (fun a' w' h' => wpAny_run I h0 hs fuel _ a' w' h') (h2 i hi)⟩

/-- an operation that is not guarded -/
theorem wpOp_plain {i : Nat} {o : Oper} {K : Act → World → Prop} {a : Act} {w : World} (hi : ops[i]? = some o) (hg : o.guard = none) (h : Oper.wp P o a w K Q) : wpOp P ops Q i K a w := by
  unfold Go.wpOp
  simp only [hi]
  rw [if_pos (by simp [Region.wanted, hg])]
  exact .inl h

theorem upd_same {v : Nat → Value} {d : Nat} {x : Value} (h : v d = x) : upd v d x = v := by
  funext e
  unfold upd
  split
  · rename_i he; rw [he, h]
  · rfl

/-- by an invariant over the slots ds -/
theorem wpAny_inv {a0 : Act} {w0 : World} {fuel0 : Nat} {listed0 : Array Bool} (ds : List Nat) (v0 : Nat → Value) (J : Nat → Array Bool → (Nat → Value) → World → Prop) (ha : a0 = setAll a0 ds v0) (hst : J fuel0 listed0 v0 w0)
    (hs : ∀ fuel listed v w, J fuel listed v w → wpAny P md ops Q fuel listed (setAll a0 ds v) w ∨
      ∃ f, fuel = f + 1 ∧ Region.ready md ops listed ≠ [] ∧ ∀ i ∈ Region.ready md ops listed, wpOp P ops Q i (fun a' w' => ∃ v', a' = setAll a0 ds v' ∧ J f (listed.setIfInBounds i true) v' w') (setAll a0 ds v) w) :
    wpAny P md ops Q fuel0 listed0 a0 w0 := by
  refine wpAny_run (fun fuel listed a w => ∃ v, a = setAll a0 ds v ∧ J fuel listed v w) ?_ ?_ fuel0 listed0 a0 w0 ⟨v0, ha, hst⟩
  · rintro listed a w ⟨v, rfl, h⟩
    rcases hs 0 listed v w h with h1 | ⟨f, hf, _⟩
    · exact h1
    · omega
  · rintro fuel listed a w ⟨v, rfl, h⟩
    rcases hs (fuel + 1) listed v w h with h1 | ⟨f, hf, h2, h3⟩
    · exact .inl h1
    · obtain rfl : fuel = f := by omega
      exact .inr ⟨h2, h3⟩
end
/-- an operation that is not guarded, and that does not panic -/
theorem wpOp_calm {P : Program} {ops : Array Oper} {Q : Exit → Act → World → Prop} {i : Nat} {o : Oper} {K : Act → World → Prop} {a : Act} {w : World} (hi : ops[i]? = some o) (hg : o.guard = none)
    (h : ∀ (K' : Act → World → Prop) (Q' : Exit → Act → World → Prop), (∀ a' w', K a' w' → K' a' w') → Oper.wp P o a w K' Q') : wpOp P ops Q i K a w :=
  wpOp_plain hi hg (h K Q fun _ _ h => h)
end Go.Proofs.YtgdagknjnidmiaaGreatDoor
/- Gains as records; what is wrong with a list of them, in plain words. -/
set_option linter.unusedVariables false
namespace Go.Proofs.YtgdagknjnidmiaaGreatDoor
open Go.RowKit

structure Gn where
  id : ByteArray
  person : ByteArray
  at_ : Int
  cents : Int
def Gn.cells (x : Gn) : List Value := [.string x.id, .string x.person, .int .i64 x.at_, .int .i64 x.cents]
def Gn.ok (x : Gn) : Prop := x.id.size ≤ 100 ∧ x.person.size ≤ 100 ∧ -9223372036854775808 ≤ x.at_ ∧ x.at_ ≤ 9223372036854775807 ∧ -9223372036854775808 ≤ x.cents ∧ x.cents ≤ 9223372036854775807
theorem Gn.len (x : Gn) : x.cells.length = 4 := rfl

def centB (n : Int) : Bool := decide (0 ≤ n ∧ n ≤ 1000000000000)
def gE (b1 b2 b3 b4 b5 : Bool) : Int := if b1 = false then 5 else if b2 then 6 else if b3 = false then 5 else if b4 = false then 1 else if b5 = false then 1 else 0
def gidsOf (l : List Gn) (k : Nat) : List ByteArray := (l.take k).map Gn.id
theorem gidsOf_succ (l : List Gn) (k : Nat) (hk : k < l.length) : gidsOf l (k + 1) = gidsOf l k ++ [l[k].id] := by
  unfold gidsOf
  rw [List.take_succ_eq_append_getElem hk, List.map_append]
  rfl
theorem gidsOf_take (l : List Gn) (k : Nat) : gidsOf (l.take k) (l.take k).length = gidsOf l k := by
  unfold gidsOf
  rw [List.take_length]
def gstepE (pre : List Gn) (x : Gn) : Int := gE (keyB x.id) (hasS (pre.map Gn.id) x.id) (keyB x.person) (momB x.at_) (centB x.cents)
def gainGo : List Gn → List Gn → Int
  | _, [] => 0
  | pre, x :: r => if gstepE pre x = 0 then gainGo (pre ++ [x]) r else gstepE pre x
def gainE (l : List Gn) : Int := gainGo [] l
def GainInv (l : List Gn) (k : Nat) : Prop := gainE l = gainGo (l.take k) (l.drop k)
theorem GainInv.zero (l : List Gn) : GainInv l 0 := rfl
theorem GainInv.step {l : List Gn} {k : Nat} (h : GainInv l k) (hk : k < l.length) : (gstepE (l.take k) l[k] ≠ 0 → gainE l = gstepE (l.take k) l[k]) ∧ (gstepE (l.take k) l[k] = 0 → GainInv l (k + 1)) := by
  unfold GainInv at *
  rw [List.drop_eq_getElem_cons hk, gainGo] at h
  refine ⟨fun h0 => ?_, fun h0 => ?_⟩
  · rw [h, if_neg h0]
  · rw [h, if_pos h0, List.take_succ_eq_append_getElem hk]
theorem GainInv.done {l : List Gn} {k : Nat} (h : GainInv l k) (hk : l.length ≤ k) : gainE l = 0 := by
  unfold GainInv at h
  rw [h, List.drop_of_length_le hk]
  cases l.take k <;> rfl
end Go.Proofs.YtgdagknjnidmiaaGreatDoor
/- The places of the letters before a gain, in plain words. -/
set_option linter.unusedVariables false
namespace Go.Proofs.YtgdagknjnidmiaaGreatDoor
open Go.RowKit

def pathP (g : Gn) (span : Int) (x : Snt) : Bool := (x.person.toList == g.person.toList) && decide (x.at_ < g.at_) && decide (g.at_ - x.at_ ≤ span)
def hitP (P : Snt → Bool) (l : List Snt) (i : Nat) : Bool := match l[i]? with
  | some x => P x
  | none => false
def pIdx (P : Snt → Bool) (l : List Snt) (k : Nat) : List Int := ((List.range' 0 k).filter (hitP P l)).map Int.ofNat
def pSel (P : Snt → Bool) (l : List Snt) (j : Nat) : List Int := ((List.range' j (l.length - j)).filter (hitP P l)).map Int.ofNat
theorem hitP_at (P : Snt → Bool) (l : List Snt) (k : Nat) (hk : k < l.length) : hitP P l k = P l[k] := by
  unfold hitP
  rw [List.getElem?_eq_getElem hk]
theorem pIdx_succ (P : Snt → Bool) (l : List Snt) (k : Nat) (hk : k < l.length) : pIdx P l (k + 1) = pIdx P l k ++ (if P l[k] then [(k : Int)] else []) := by
  unfold pIdx
  rw [show List.range' 0 (k + 1) = List.range' 0 k ++ [k] by rw [List.range'_concat]; simp]
  rw [List.filter_append, List.map_append]
  congr 1
  rw [List.filter_cons, hitP_at P l k hk]
  cases P l[k] <;> rfl
theorem pSel_step (P : Snt → Bool) (l : List Snt) (j : Nat) (hj : j < l.length) : pSel P l j = (if P l[j] then [(j : Int)] else []) ++ pSel P l (j + 1) := by
  unfold pSel
  rw [show l.length - j = (l.length - (j + 1)) + 1 by omega, List.range'_succ, List.filter_cons, hitP_at P l j hj]
  cases P l[j] <;> rfl
theorem pSel_all (P : Snt → Bool) (l : List Snt) (j : Nat) (hj : j ≤ l.length) : pIdx P l l.length = pIdx P l j ++ pSel P l j := by
  unfold pIdx pSel
  rw [← List.map_append, ← List.filter_append]
  congr 2
  rw [show l.length = j + (l.length - j) by omega, ← List.range'_append_1]
  simp
theorem pSel_end (P : Snt → Bool) (l : List Snt) : pSel P l l.length = [] := by simp [pSel]
theorem pIdx_len (P : Snt → Bool) (l : List Snt) (k : Nat) : (pIdx P l k).length ≤ k := by
  unfold pIdx
  rw [List.length_map]
  exact Nat.le_trans (List.length_filter_le _ _) (by simp)
/-- the last twelve -/
def pathL (P : Snt → Bool) (l : List Snt) : List Int := (pIdx P l l.length).drop ((pIdx P l l.length).length - 12)
theorem pathL_zero (P : Snt → Bool) (l : List Snt) (h : (pSel P l 0).length ≤ 12) : pathL P l = pSel P l 0 := by
  have e := pSel_all P l 0 (Nat.zero_le _)
  have e0 : pIdx P l 0 = [] := rfl
  rw [e0, List.nil_append] at e
  unfold pathL
  rw [e, show (pSel P l 0).length - 12 = 0 by omega, List.drop_zero]
theorem pathL_full (P : Snt → Bool) (l : List Snt) (j : Nat) (hj : j ≤ l.length) (h : (pSel P l j).length = 12) : pathL P l = pSel P l j := by
  unfold pathL
  rw [pSel_all P l j hj, List.length_append, h, Nat.add_sub_cancel, List.drop_left]
theorem pIdx_rng (P : Snt → Bool) (l : List Snt) (k : Nat) : ∀ z ∈ pIdx P l k, 0 ≤ z ∧ z < k := by
  intro z hz
  unfold pIdx at hz
  obtain ⟨i, hi, rfl⟩ := List.mem_map.1 hz
  have := List.mem_filter.1 hi
  simp [List.mem_range'_1] at this
  simp
  omega

theorem sentGo_mom : ∀ (l pre : List Snt), sentGo pre l = 0 → ∀ x ∈ l, momB x.at_ = true
  | [], _, _, x, hx => by cases hx
  | y :: r, pre, h, x, hx => by
    rw [sentGo] at h
    split at h
    · rename_i h0
      rcases List.mem_cons.1 hx with rfl | hx
      · unfold stepE sE at h0
        cases hm : momB x.at_
        · rw [hm] at h0
          repeat (split at h0 <;> try cases h0)
          all_goals simp_all
        · rfl
      · exact sentGo_mom r _ h x hx
    · contradiction
theorem mom_bd {n : Int} (h : momB n = true) : 0 ≤ n ∧ n ≤ 4321439 := of_decide_eq_true h
theorem sentE_mom {l : List Snt} (h : sentE l = 0) : ∀ x ∈ l, 0 ≤ x.at_ ∧ x.at_ ≤ 4321439 := fun x hx => mom_bd (sentGo_mom l [] h x hx)
theorem gainE_mom {g : Gn} (h : gainE [g] = 0) : 0 ≤ g.at_ ∧ g.at_ ≤ 4321439 := by
  apply mom_bd
  unfold gainE at h
  rw [gainGo] at h
  split at h
  · rename_i h0
    unfold gstepE gE at h0
    cases hm : momB g.at_
    · rw [hm] at h0
      repeat (split at h0 <;> try cases h0)
      all_goals simp_all
    · rfl
  · contradiction
end Go.Proofs.YtgdagknjnidmiaaGreatDoor
