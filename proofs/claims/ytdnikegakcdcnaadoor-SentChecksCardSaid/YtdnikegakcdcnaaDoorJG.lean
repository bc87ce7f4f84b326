/- What holds in the drawn region of Stream.Gains, told by which of its operations have come up. -/
import Derived.Test.YtdnikegakcdcnaaDoorRecs
import Derived.Test.YtdnikegakcdcnaaDoorGainSpec
import Derived.Test.YtdnikegakcdcnaaDoorInvG
set_option linter.unusedVariables false
namespace Go.Proofs.YtdnikegakcdcnaaDoor
open Go.RowKit

/-- the slot d holds a new list of three -/
def BlkAt (wr : World) (S : SC) (v : Nat → Value) (d : Nat) (cs : Array Value) (t : TypeId) : Prop :=
  ∃ h, v d = .slice (some ⟨h, 0, none⟩) 3 3 ∧ h ≠ S.g ∧ wr.heap[h]? = some (.cells cs t (0, 0))
theorem BlkAt.kept {wr wr' : World} {S : SC} {v v' : Nat → Value} {d : Nat} {cs : Array Value} {t : TypeId} (h : BlkAt wr S v d cs t) (k : wr.grownBy wr' (some S.g)) (hv : v' d = v d) : BlkAt wr' S v' d cs t := by
  obtain ⟨h, e, hne, hb⟩ := h
  refine ⟨h, hv.trans e, hne, (k.block h ?_ (fun e => hne (by simpa using e))).trans hb⟩
  rcases Nat.lt_or_ge h wr.heap.size with h' | h'
  · exact h'
  · rw [Array.getElem?_eq_none h'] at hb; cases hb

structure JG (w : World) (b0 : Nat) (S : SC) (K0 g n cap : Nat) (l : List Gn) (x : Gn) (b7 b8 b9 b11 b12 b17 b18 b19 : Bool) (v : Nat → Value) (wr : World) : Prop where
  lst : LstR w b0 wr S (K0 + b9.toNat + b12.toNat + b19.toNat) 35 4 Gn.cells (.slice (some ⟨g, 0, none⟩) n cap) l
  p7 : b7 = true → v 49 = .string x.id
  p8 : b8 = true → BlkAt wr S v 50 #[.string ⟨#[]⟩, .string ⟨#[103, 97]⟩, .string x.id] 9
  p9 : b9 = true → ∃ s, v 51 = .string s ∧ s.size ≤ 100
  p11 : b11 = true → BlkAt wr S v 53 #[.int .i64 (-1), .int .i64 1000000000001, .int .i64 5] 3
  p12 : b12 = true → ∃ z, v 54 = .int .i64 z ∧ -1 ≤ z ∧ z ≤ 1000000000001
  p17 : b17 = true → v 59 = .int .i64 x.at_
  p18 : b18 = true → BlkAt wr S v 60 #[.int .i64 (-1), .int .i64 x.at_, .int .i64 4321440] 3
  p19 : b19 = true → ∃ z, v 61 = .int .i64 z ∧ (z = -1 ∨ z = x.at_ ∨ z = 4321440)

section
variable {w wr : World} {b0 : Nat} {S : SC} {K0 g n cap : Nat} {l : List Gn} {x : Gn} {b7 b8 b9 b11 b12 b17 b18 b19 : Bool} {v : Nat → Value}
theorem JG.s7 (h : JG w b0 S K0 g n cap l x false b8 b9 b11 b12 b17 b18 b19 v wr) : JG w b0 S K0 g n cap l x true b8 b9 b11 b12 b17 b18 b19 (upd v 49 (.string x.id)) wr :=
  ⟨h.lst, fun _ => rfl, fun e => h.p8 e, fun e => h.p9 e, fun e => h.p11 e, fun e => h.p12 e, fun e => h.p17 e, fun e => h.p18 e, fun e => h.p19 e⟩
theorem JG.s17 (h : JG w b0 S K0 g n cap l x b7 b8 b9 b11 b12 false b18 b19 v wr) : JG w b0 S K0 g n cap l x b7 b8 b9 b11 b12 true b18 b19 (upd v 59 (.int .i64 x.at_)) wr :=
  ⟨h.lst, fun e => h.p7 e, fun e => h.p8 e, fun e => h.p9 e, fun e => h.p11 e, fun e => h.p12 e, fun _ => rfl, fun e => h.p18 e, fun e => h.p19 e⟩
theorem lst_alloc {K : Nat} {t : TypeId} {C : Nat} {α : Type} {f : α → List Value} {u : Value} {l : List α} (h : LstR w b0 wr S K t C f u l) (hb : S.g < b0) (o : Obj) : LstR w b0 (wr.alloc o) S K t C f u l :=
  h.draw (World.grownBy_alloc wr o _) (strm_alloc h.2.1 o) hb
theorem blk_new {cs : Array Value} {t : TypeId} {d : Nat} (hs : S.g < wr.heap.size) : BlkAt (wr.alloc (.cells cs t)) S (upd v d (.slice (some ⟨wr.heap.size, 0, none⟩) 3 3)) d cs t :=
  ⟨wr.heap.size, by simp [upd], by omega, heap_alloc_new _ _⟩
theorem JG.s8 (h : JG w b0 S K0 g n cap l x true false b9 b11 b12 b17 b18 b19 v wr) (hb : S.g < b0) : JG w b0 S K0 g n cap l x true true b9 b11 b12 b17 b18 b19 (upd v 50 (.slice (some ⟨wr.heap.size, 0, none⟩) 3 3)) (wr.alloc (.cells #[.string ⟨#[]⟩, .string ⟨#[103, 97]⟩, .string x.id] 9)) :=
  have k := fun cs t => World.grownBy_alloc wr (.cells cs t) (some S.g)
  ⟨lst_alloc h.lst hb _, fun e => h.p7 e, fun _ => blk_new (Nat.lt_of_lt_of_le hb h.lst.2.2.2), fun e => h.p9 e, fun e => (h.p11 e).kept (k _ _) rfl, fun e => h.p12 e, fun e => h.p17 e, fun e => (h.p18 e).kept (k _ _) rfl, fun e => h.p19 e⟩
theorem JG.s11 (h : JG w b0 S K0 g n cap l x b7 b8 b9 false b12 b17 b18 b19 v wr) (hb : S.g < b0) : JG w b0 S K0 g n cap l x b7 b8 b9 true b12 b17 b18 b19 (upd v 53 (.slice (some ⟨wr.heap.size, 0, none⟩) 3 3)) (wr.alloc (.cells #[.int .i64 (-1), .int .i64 1000000000001, .int .i64 5] 3)) :=
  have k := fun cs t => World.grownBy_alloc wr (.cells cs t) (some S.g)
  ⟨lst_alloc h.lst hb _, fun e => h.p7 e, fun e => (h.p8 e).kept (k _ _) rfl, fun e => h.p9 e, fun _ => blk_new (Nat.lt_of_lt_of_le hb h.lst.2.2.2), fun e => h.p12 e, fun e => h.p17 e, fun e => (h.p18 e).kept (k _ _) rfl, fun e => h.p19 e⟩
theorem JG.s18 (h : JG w b0 S K0 g n cap l x b7 b8 b9 b11 b12 true false b19 v wr) (hb : S.g < b0) : JG w b0 S K0 g n cap l x b7 b8 b9 b11 b12 true true b19 (upd v 60 (.slice (some ⟨wr.heap.size, 0, none⟩) 3 3)) (wr.alloc (.cells #[.int .i64 (-1), .int .i64 x.at_, .int .i64 4321440] 3)) :=
  have k := fun cs t => World.grownBy_alloc wr (.cells cs t) (some S.g)
  ⟨lst_alloc h.lst hb _, fun e => h.p7 e, fun e => (h.p8 e).kept (k _ _) rfl, fun e => h.p9 e, fun e => (h.p11 e).kept (k _ _) rfl, fun e => h.p12 e, fun e => h.p17 e, fun _ => blk_new (Nat.lt_of_lt_of_le hb h.lst.2.2.2), fun e => h.p19 e⟩
theorem lst_drew {wr' : World} {K K1 K2 : Nat} {t : TypeId} {C : Nat} {α : Type} {f : α → List Value} {u : Value} {l : List α} (h : LstR w b0 wr S K t C f u l) (hb : S.g < b0) (k : wr.grownBy wr' (some S.g)) (s : Strm wr' S K1) (e : K1 = K2) : LstR w b0 wr' S K2 t C f u l :=
  e ▸ h.draw k s hb
theorem JG.s9 {wr' : World} {s : ByteArray} (h : JG w b0 S K0 g n cap l x b7 true false b11 b12 b17 b18 b19 v wr) (hb : S.g < b0) (k : wr.grownBy wr' (some S.g)) (st : Strm wr' S (K0 + 0 + b12.toNat + b19.toNat + 1)) (hs : s.size ≤ 100) :
    JG w b0 S K0 g n cap l x b7 true true b11 b12 b17 b18 b19 (upd v 51 (.string s)) wr' :=
  ⟨lst_drew h.lst hb k st (by simp; omega), fun e => h.p7 e, fun e => (h.p8 e).kept k rfl, fun _ => ⟨s, rfl, hs⟩, fun e => (h.p11 e).kept k rfl, fun e => h.p12 e, fun e => h.p17 e, fun e => (h.p18 e).kept k rfl, fun e => h.p19 e⟩
theorem JG.s12 {wr' : World} {z : Int} (h : JG w b0 S K0 g n cap l x b7 b8 true true false b17 b18 b19 v wr) (hb : S.g < b0) (k : wr.grownBy wr' (some S.g)) (st : Strm wr' S (K0 + 1 + 0 + b19.toNat + 1)) (hs : -1 ≤ z ∧ z ≤ 1000000000001) :
    JG w b0 S K0 g n cap l x b7 b8 true true true b17 b18 b19 (upd v 54 (.int .i64 z)) wr' :=
  ⟨lst_drew h.lst hb k st (by simp; omega), fun e => h.p7 e, fun e => (h.p8 e).kept k rfl, fun e => h.p9 e, fun e => (h.p11 e).kept k rfl, fun _ => ⟨z, rfl, hs⟩, fun e => h.p17 e, fun e => (h.p18 e).kept k rfl, fun e => h.p19 e⟩
theorem JG.s19 {wr' : World} {z : Int} (h : JG w b0 S K0 g n cap l x b7 b8 b9 b11 true b17 true false v wr) (hb : S.g < b0) (k : wr.grownBy wr' (some S.g)) (st : Strm wr' S (K0 + b9.toNat + 1 + 0 + 1)) (hs : z = -1 ∨ z = x.at_ ∨ z = 4321440) :
    JG w b0 S K0 g n cap l x b7 b8 b9 b11 true b17 true true (upd v 61 (.int .i64 z)) wr' :=
  ⟨lst_drew h.lst hb k st (by simp <;> omega), fun e => h.p7 e, fun e => (h.p8 e).kept k rfl, fun e => h.p9 e, fun e => (h.p11 e).kept k rfl, fun e => h.p12 e, fun e => h.p17 e, fun e => (h.p18 e).kept k rfl, fun _ => ⟨z, rfl, hs⟩⟩

/-- the cells of the record that is changed -/
theorem lst_cells {K : Nat} {t : TypeId} {j : Nat} (h : LstR w b0 wr S K t 4 Gn.cells (.slice (some ⟨g, 0, none⟩) n cap) l) (hj : j < l.length) :
    wr.cell? ⟨g, j * 4, none⟩ = some (.string l[j].id) ∧ wr.cell? ⟨g, j * 4 + 1, none⟩ = some (.string l[j].person) ∧ wr.cell? ⟨g, j * 4 + 2, none⟩ = some (.int .i64 l[j].at_) ∧ wr.cell? ⟨g, j * 4 + 3, none⟩ = some (.int .i64 l[j].cents) := by
  obtain ⟨a, c, e, hI, _⟩ := RAt.of_own h.1 (fun x _ => x.len)
  obtain ⟨p, off, h1, h2, h3, h4, h5, h6⟩ := hI.at4 hj (v0 := .string l[j].id) (v1 := .string l[j].person) (v2 := .int .i64 l[j].at_) (v3 := .int .i64 l[j].cents) rfl
  subst h1
  simp only [Value.slice.injEq, Option.some.injEq, Addr.mk.injEq, and_true] at e
  obtain ⟨⟨rfl, rfl⟩, _, _⟩ := e
  simp only [Nat.zero_add] at h3 h4 h5 h6
  exact ⟨h3, h4, h5, h6⟩
end
end Go.Proofs.YtdnikegakcdcnaaDoor
