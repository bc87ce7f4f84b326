/- Offers, items and baskets as records; what is done with them, in plain words. -/
import Derived.Test.YtmhnnbffhciinaaDoorTgSpec
import Derived.Test.YtmhnnbffhciinaaDoorMoment
import Derived.Test.YtmhnnbffhciinaaDoorLists
set_option linter.unusedVariables false
namespace Go.Proofs.YtmhnnbffhciinaaDoor
open Go.RowKit

/-- an offer; its tags: where they lie, their capacity, and what they are -/
structure Of where
  key : ByteArray
  kind : Int
  a : Int
  b : Int
  tv : Option Addr
  tc : Nat
  tags : List ByteArray
  least : Int
  most : Int
  group : ByteArray
  alone : Bool
  order : Int
  from_ : Int
  to_ : Int
def Of.cells (x : Of) : List Value := [.string x.key, .int .i64 x.kind, .int .i64 x.a, .int .i64 x.b, .slice x.tv x.tags.length x.tc, .int .i64 x.least, .int .i64 x.most, .string x.group, .bool x.alone, .int .i64 x.order, .int .i64 x.from_, .int .i64 x.to_]
def Of.ok (x : Of) : Prop := x.key.size ≤ 100 ∧ -10 ≤ x.kind ∧ x.kind ≤ 10 ∧ -2000000000000 ≤ x.a ∧ x.a ≤ 2000000000000 ∧ -100 ≤ x.b ∧ x.b ≤ 100 ∧ x.tags.length ≤ 20 ∧ (∀ s ∈ x.tags, s.size ≤ 100) ∧ -2000000000000 ≤ x.least ∧ x.least ≤ 2000000000000 ∧ -2000000000000 ≤ x.most ∧ x.most ≤ 2000000000000 ∧ x.group.size ≤ 100 ∧ -10000 ≤ x.order ∧ x.order ≤ 10000 ∧ -100000000 ≤ x.from_ ∧ x.from_ ≤ 100000000 ∧ -100000000 ≤ x.to_ ∧ x.to_ ≤ 100000000
theorem Of.len (x : Of) : x.cells.length = 12 := rfl
structure It where
  key : ByteArray
  cents : Int
  many : Int
  tv : Option Addr
  tc : Nat
  tags : List ByteArray
def It.cells (x : It) : List Value := [.string x.key, .int .i64 x.cents, .int .i64 x.many, .slice x.tv x.tags.length x.tc]
def It.ok (x : It) : Prop := x.key.size ≤ 100 ∧ -100000000 ≤ x.cents ∧ x.cents ≤ 100000000 ∧ -1000 ≤ x.many ∧ x.many ≤ 1000 ∧ x.tags.length ≤ 20 ∧ (∀ s ∈ x.tags, s.size ≤ 100)
theorem It.len (x : It) : x.cells.length = 4 := rfl

theorem RAt.at12 {α : Type} {w : World} {a : Option Addr} {C : Nat} {f : α → List Value} {l : List α} (h : RAt w a C f l) {j : Nat} (hj : j < l.length) {v0 v1 v2 v3 v4 v5 v6 v7 v8 v9 v10 v11 : Value} (e : f l[j] = [v0, v1, v2, v3, v4, v5, v6, v7, v8, v9, v10, v11]) :
    ∃ p off, a = some ⟨p, off, none⟩ ∧ p < w.heap.size ∧ w.cell? ⟨p, off + j * C, none⟩ = some v0 ∧ w.cell? ⟨p, off + j * C + 1, none⟩ = some v1 ∧ w.cell? ⟨p, off + j * C + 2, none⟩ = some v2 ∧ w.cell? ⟨p, off + j * C + 3, none⟩ = some v3 ∧ w.cell? ⟨p, off + j * C + 4, none⟩ = some v4 ∧ w.cell? ⟨p, off + j * C + 5, none⟩ = some v5 ∧ w.cell? ⟨p, off + j * C + 6, none⟩ = some v6 ∧ w.cell? ⟨p, off + j * C + 7, none⟩ = some v7 ∧ w.cell? ⟨p, off + j * C + 8, none⟩ = some v8 ∧ w.cell? ⟨p, off + j * C + 9, none⟩ = some v9 ∧ w.cell? ⟨p, off + j * C + 10, none⟩ = some v10 ∧ w.cell? ⟨p, off + j * C + 11, none⟩ = some v11 := by
  obtain ⟨p, off, h1, h2, h3⟩ := h j hj
  rw [e] at h3
  exact ⟨p, off, h1, h2, h3 0 _ rfl, h3 1 _ rfl, h3 2 _ rfl, h3 3 _ rfl, h3 4 _ rfl, h3 5 _ rfl, h3 6 _ rfl, h3 7 _ rfl, h3 8 _ rfl, h3 9 _ rfl, h3 10 _ rfl, h3 11 _ rfl⟩
theorem XB.at12 {w : World} {q : Nat} {v0 v1 v2 v3 v4 v5 v6 v7 v8 v9 v10 v11 : Value} (h : XB w q [v0, v1, v2, v3, v4, v5, v6, v7, v8, v9, v10, v11]) : w.cell? ⟨q, 0, none⟩ = some v0 ∧ w.cell? ⟨q, 1, none⟩ = some v1 ∧ w.cell? ⟨q, 2, none⟩ = some v2 ∧ w.cell? ⟨q, 3, none⟩ = some v3 ∧ w.cell? ⟨q, 4, none⟩ = some v4 ∧ w.cell? ⟨q, 5, none⟩ = some v5 ∧ w.cell? ⟨q, 6, none⟩ = some v6 ∧ w.cell? ⟨q, 7, none⟩ = some v7 ∧ w.cell? ⟨q, 8, none⟩ = some v8 ∧ w.cell? ⟨q, 9, none⟩ = some v9 ∧ w.cell? ⟨q, 10, none⟩ = some v10 ∧ w.cell? ⟨q, 11, none⟩ = some v11 :=
  ⟨h.2 0 _ rfl, h.2 1 _ rfl, h.2 2 _ rfl, h.2 3 _ rfl, h.2 4 _ rfl, h.2 5 _ rfl, h.2 6 _ rfl, h.2 7 _ rfl, h.2 8 _ rfl, h.2 9 _ rfl, h.2 10 _ rfl, h.2 11 _ rfl⟩
/-- the tags of records lie in memory -/
def TagsAt {α : Type} (tv : α → Option Addr) (tags : α → List ByteArray) (w : World) (l : List α) : Prop := ∀ x ∈ l, StrsAt w (tv x) (tags x)
theorem TagsAt.below {α : Type} {tv : α → Option Addr} {tags : α → List ByteArray} {w w' : World} {l : List α} (h : TagsAt tv tags w l) (hb : Below w.heap.size w w') : TagsAt tv tags w' l := fun x hx => (h x hx).below hb
theorem TagsAt.take {α : Type} {tv : α → Option Addr} {tags : α → List ByteArray} {w : World} {l : List α} (h : TagsAt tv tags w l) (n : Nat) : TagsAt tv tags w (l.take n) := fun x hx => h x (List.mem_of_mem_take hx)

/-- the greatest A of a kind; 0: there is no such kind -/
def kindM (k : Int) : Int := if k = 1 then 100 else if k = 2 then 1000000000000 else if k = 3 then 20 else if k = 4 then 1000000000000 else 0
def ofB (x : Of) : Bool := decide (1 ≤ x.a) && decide (x.a ≤ kindM x.kind) && (if x.kind = 3 then decide (1 ≤ x.b) && decide (x.b ≤ 20) else decide (x.b = 0)) && decide (0 ≤ x.least) && decide (x.least ≤ 1000000000000) && decide (0 ≤ x.most) && decide (x.most ≤ 1000000000000) && decide (0 ≤ x.order) && decide (x.order ≤ 1000)
def ofT (x : Of) : Bool := decide (0 ≤ x.from_) && decide (x.from_ ≤ 4321439) && decide (x.from_ < x.to_) && decide (x.to_ ≤ 4321440)
/-- what is wrong with an offer behind others -/
def ofSt (b1 b2 bk b3 b4 : Bool) (bg : Bool) (te : Int) (bs : Bool) : Int :=
  if b1 = false then 5 else if b2 then 6 else if bk = false then 4 else if b3 = false then 1 else if b4 = false then 1 else if bg = false then 5 else if te ≠ 0 then te else if bs then 3 else 0
def ofstepE (pre : List Of) (x : Of) : Int :=
  ofSt (keyB x.key) (hasS (pre.map Of.key) x.key) (decide (1 ≤ x.kind ∧ x.kind ≤ 4)) (ofB x) (ofT x) (decide (x.group.size = 0) || keyB x.group) (tgE x.tags) (decide (0 < x.tags.length) && decide (x.kind = 4))
def ofGo : List Of → List Of → Int
  | _, [] => 0
  | pre, x :: r => if ofstepE pre x = 0 then ofGo (pre ++ [x]) r else ofstepE pre x
def ofE (l : List Of) : Int := ofGo [] l
def OfInv (l : List Of) (k : Nat) : Prop := ofE l = ofGo (l.take k) (l.drop k)
theorem OfInv.zero (l : List Of) : OfInv l 0 := rfl
theorem OfInv.step {l : List Of} {k : Nat} (h : OfInv l k) (hk : k < l.length) : (ofstepE (l.take k) l[k] ≠ 0 → ofE l = ofstepE (l.take k) l[k]) ∧ (ofstepE (l.take k) l[k] = 0 → OfInv l (k + 1)) := by
  unfold OfInv at *
  rw [List.drop_eq_getElem_cons hk, ofGo] at h
  refine ⟨fun h0 => ?_, fun h0 => ?_⟩
  · rw [h, if_neg h0]
  · rw [h, if_pos h0, List.take_succ_eq_append_getElem hk]
theorem OfInv.done {l : List Of} {k : Nat} (h : OfInv l k) (hk : l.length ≤ k) : ofE l = 0 := by
  unfold OfInv at h
  rw [h, List.drop_eq_nil_of_le hk]
  rfl
/-- what is wrong with an item behind others -/
def itSt (b1 b2 b3 : Bool) (te : Int) : Int := if b1 = false then 5 else if b2 then 6 else if b3 = false then 1 else te
def itB (x : It) : Bool := decide (0 ≤ x.cents) && decide (x.cents ≤ 10000000) && decide (1 ≤ x.many) && decide (x.many ≤ 100)
def itstepE (pre : List It) (x : It) : Int := itSt (keyB x.key) (hasS (pre.map It.key) x.key) (itB x) (tgE x.tags)
def itGo : List It → List It → Int
  | _, [] => 0
  | pre, x :: r => if itstepE pre x = 0 then itGo (pre ++ [x]) r else itstepE pre x
def bkE (l : List It) (ship : Int) : Int := if itGo [] l ≠ 0 then itGo [] l else if ship < 0 ∨ 1000000000000 < ship then 1 else 0
def ItInv (l : List It) (k : Nat) : Prop := itGo [] l = itGo (l.take k) (l.drop k)
theorem ItInv.zero (l : List It) : ItInv l 0 := rfl
theorem ItInv.step {l : List It} {k : Nat} (h : ItInv l k) (hk : k < l.length) : (itstepE (l.take k) l[k] ≠ 0 → itGo [] l = itstepE (l.take k) l[k]) ∧ (itstepE (l.take k) l[k] = 0 → ItInv l (k + 1)) := by
  unfold ItInv at *
  rw [List.drop_eq_getElem_cons hk, itGo] at h
  refine ⟨fun h0 => ?_, fun h0 => ?_⟩
  · rw [h, if_neg h0]
  · rw [h, if_pos h0, List.take_succ_eq_append_getElem hk]
theorem ItInv.done {l : List It} {k : Nat} (h : ItInv l k) (hk : l.length ≤ k) : itGo [] l = 0 := by
  unfold ItInv at h
  rw [h, List.drop_eq_nil_of_le hk]
  rfl
/-- the item has a tag of the offer, or the offer wants none -/
def mtB (x : Of) (y : It) : Bool := decide (x.tags.length = 0) || x.tags.any fun s => hasS y.tags s
end Go.Proofs.YtmhnnbffhciinaaDoor
