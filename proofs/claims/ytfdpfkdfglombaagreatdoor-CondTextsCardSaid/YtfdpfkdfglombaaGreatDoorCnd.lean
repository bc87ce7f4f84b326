/- Conditions as trees: what lies where in memory, and what it says. -/
import Derived.Test.YtfdpfkdfglombaaGreatDoorRecs
set_option linter.unusedVariables false
namespace Go.Proofs.YtfdpfkdfglombaaGreatDoor
open Go.RowKit

def i64B (n : Int) : Prop := -9223372036854775808 ≤ n ∧ n ≤ 9223372036854775807
/-- a value of a field -/
structure Vl where
  kind : Int
  text : ByteArray
  num : Int
def Vl.cells (x : Vl) : List Value := [.int .i64 x.kind, .string x.text, .int .i64 x.num]
theorem Vl.len (x : Vl) : x.cells.length = 3 := rfl
def Vl.ok (x : Vl) : Prop := i64B x.kind ∧ x.text.size ≤ 10 ∧ i64B x.num
instance : Inhabited Vl := ⟨⟨0, ⟨#[]⟩, 0⟩⟩
/-- a comparison of a field of events -/
structure Wh where
  field : ByteArray
  sign : ByteArray
  val : Vl
def Wh.cells (x : Wh) : List Value := [.string x.field, .string x.sign, .int .i64 x.val.kind, .string x.val.text, .int .i64 x.val.num]
theorem Wh.len (x : Wh) : x.cells.length = 5 := rfl
def Wh.ok (x : Wh) : Prop := x.field.size ≤ 1000 ∧ x.sign.size ≤ 1000 ∧ x.val.ok
instance : Inhabited Wh := ⟨⟨⟨#[]⟩, ⟨#[]⟩, default⟩⟩
/-- a condition without those in it, and where its lists lie -/
structure Nd where
  kind : Int
  name : ByteArray
  field : ByteArray
  sign : ByteArray
  va : Option Addr
  vc : Nat
  vals : List Vl
  wa : Option Addr
  wc : Nat
  whs : List Wh
  within : Int
  number : Int
  aa : Option Addr
  ac : Nat
def Nd.ok (x : Nd) : Prop := i64B x.kind ∧ x.name.size ≤ 1000 ∧ x.field.size ≤ 1000 ∧ x.sign.size ≤ 1000 ∧ (x.vals.length ≤ x.vc ∧ x.vc ≤ maxLen ∧ x.vals.length ≤ 10) ∧ (x.whs.length ≤ x.wc ∧ x.wc ≤ maxLen ∧ x.whs.length ≤ 1000) ∧ i64B x.within ∧ i64B x.number ∧ (∀ v ∈ x.vals, v.ok) ∧ ∀ v ∈ x.whs, v.ok
instance : Inhabited Nd := ⟨⟨0, ⟨#[]⟩, ⟨#[]⟩, ⟨#[]⟩, none, 0, [], none, 0, [], 0, 0, none, 0⟩⟩
/-- a condition -/
inductive Cn where
  | mk (n : Nd) (args : List Cn)
def Cn.nd : Cn → Nd
  | .mk n _ => n
def Cn.args : Cn → List Cn
  | .mk _ l => l
instance : Inhabited Cn := ⟨.mk default []⟩
def Cn.cells (c : Cn) : List Value := [.int .i64 c.nd.kind, .string c.nd.name, .string c.nd.field, .string c.nd.sign, .slice c.nd.va c.nd.vals.length c.nd.vc, .slice c.nd.wa c.nd.whs.length c.nd.wc, .int .i64 c.nd.within, .int .i64 c.nd.number, .slice c.nd.aa c.args.length c.nd.ac]
theorem Cn.len (c : Cn) : c.cells.length = 9 := rfl
/-- how many others a condition has at most -/
def wdM : Nat := 19
theorem le_wdM {n : Nat} (h : n ≤ 5) : n ≤ wdM := Nat.le_trans h (by decide)
theorem wdM_le {n : Nat} (h : n ≤ wdM) : n ≤ 1000 := Nat.le_trans h (by decide)
/-- a condition lies in memory; it is at most d deep -/
def TAt : Nat → World → Cn → Prop
  | 0, _, _ => False
  | d + 1, w, c => c.nd.ok ∧ (c.args.length ≤ c.nd.ac ∧ c.nd.ac ≤ maxLen ∧ c.args.length ≤ wdM) ∧ RAt w c.nd.va 3 Vl.cells c.nd.vals ∧ RAt w c.nd.wa 5 Wh.cells c.nd.whs ∧ RAt w c.nd.aa 9 Cn.cells c.args ∧ ∀ x ∈ c.args, TAt d w x
/-- a list that has something lies elsewhere -/
def Far (a : Option Addr) (n g : Nat) : Prop := 0 < n → ∀ p off, a = some ⟨p, off, none⟩ → p ≠ g
/-- no part of a condition lies in block g -/
def FarT : Nat → Cn → Nat → Prop
  | 0, _, _ => True
  | d + 1, c, g => Far c.nd.va c.nd.vals.length g ∧ Far c.nd.wa c.nd.whs.length g ∧ Far c.nd.aa c.args.length g ∧ ∀ x ∈ c.args, FarT d x g
section
variable {α : Type} {w w' : World} {a : Option Addr} {C g : Nat} {f : α → List Value} {l : List α}
theorem RAt.kept {row : Option Nat} (h : RAt w a C f l) (k : w.grownBy w' row) (hg : ∀ g, row = some g → Far a l.length g) : RAt w' a C f l := by
  intro j hj
  obtain ⟨p, off, h1, h2, h3⟩ := h j hj
  exact ⟨p, off, h1, Nat.lt_of_lt_of_le h2 k.size, fun i v hv => k.cell (h3 i v hv) (fun e => hg p e.symm (by omega) p off h1 rfl)⟩
theorem RAt.newFar (h : RAt w a C f l) (hg : w.heap.size ≤ g) : Far a l.length g := by
  intro h0 p off e
  obtain ⟨p', off', h1, h2, -⟩ := h 0 h0
  rw [e] at h1
  injection h1 with h1
  injection h1 with h1
  omega
end
section
variable {w w' : World} {g : Nat}
theorem TAt.kept {row : Option Nat} (k : w.grownBy w' row) : ∀ {d : Nat} {c : Cn}, TAt d w c → (∀ g, row = some g → FarT d c g) → TAt d w' c
  | 0, _, h, _ => h
  | d + 1, c, ⟨h1, h2, h3, h4, h5, h6⟩, hf => ⟨h1, h2, h3.kept k (fun g e => (hf g e).1), h4.kept k (fun g e => (hf g e).2.1), h5.kept k (fun g e => (hf g e).2.2.1), fun x hx => TAt.kept k (h6 x hx) (fun g e => (hf g e).2.2.2 x hx)⟩
theorem TAt.below {d : Nat} {c : Cn} (h : TAt d w c) (b : Below w.heap.size w w') : TAt d w' c :=
  h.kept (row := none) ⟨b.os, b.tape, b.output, b.size, fun i hi _ => b.block i hi⟩ (fun g e => by cases e)
theorem TAt.alloc {d : Nat} {c : Cn} (h : TAt d w c) (o : Obj) : TAt d (w.alloc o) c := h.below ((Below.refl _ _).alloc (Nat.le_refl _) o)
theorem TAt.newFar (hg : w.heap.size ≤ g) : ∀ {d : Nat} {c : Cn}, TAt d w c → FarT d c g
  | 0, _, _ => trivial
  | d + 1, c, ⟨h1, h2, h3, h4, h5, h6⟩ => ⟨h3.newFar hg, h4.newFar hg, h5.newFar hg, fun x hx => TAt.newFar hg (h6 x hx)⟩
theorem TAt.mono : ∀ {d d' : Nat} {c : Cn}, d ≤ d' → TAt d w c → TAt d' w c
  | 0, _, _, _, h => h.elim
  | d + 1, 0, _, hd, _ => absurd hd (by omega)
  | d + 1, d' + 1, c, hd, ⟨h1, h2, h3, h4, h5, h6⟩ => ⟨h1, h2, h3, h4, h5, fun x hx => TAt.mono (by omega) (h6 x hx)⟩
theorem FarT.mono : ∀ {d d' : Nat} {c : Cn}, d ≤ d' → TAt d w c → FarT d c g → FarT d' c g
  | 0, _, _, _, h, _ => h.elim
  | d + 1, 0, _, hd, _, _ => absurd hd (by omega)
  | d + 1, d' + 1, c, hd, ⟨h1, h2, h3, h4, h5, h6⟩, ⟨f1, f2, f3, f4⟩ => ⟨f1, f2, f3, fun x hx => FarT.mono (by omega) (h6 x hx) (f4 x hx)⟩
end
/-- how many conditions there are, and how deep they are -/
def szN : Nat → Cn → Nat
  | 0, _ => 0
  | d + 1, c => 1 + (c.args.map (szN d)).sum
def dpN : Nat → Cn → Nat
  | 0, _ => 0
  | d + 1, c => 1 + (c.args.map (dpN d)).foldl max 0
end Go.Proofs.YtfdpfkdfglombaaGreatDoor
