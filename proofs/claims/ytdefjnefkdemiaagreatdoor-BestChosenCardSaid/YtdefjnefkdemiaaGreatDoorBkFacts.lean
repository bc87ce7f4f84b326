/- The facts of offers and of a basket that a statement has drawn: the offers' row is its own, and may be written. -/
import Derived.Test.YtdefjnefkdemiaaGreatDoorDel
import Derived.Test.YtdefjnefkdemiaaGreatDoorOfs
import Derived.Test.YtdefjnefkdemiaaGreatDoorBkMake
set_option linter.unusedVariables false
namespace Go.Proofs.YtdefjnefkdemiaaGreatDoor
open Go.RowKit

structure BF (w0 : World) (S : SC) (b1 b2 : Nat) (a : Option Addr) (n c : Nat) (l : List Of) (ai : Option Addr) (ni ci : Nat) (li : List It) (w : World) : Prop where
  gr : w0.grownBy w (some S.g)
  own : w.ownsRow b1 37 12 (.slice a n c) n (l.flatMap Of.cells)
  tg : ∀ x ∈ l, TgF w S x.tv x.tags
  oi : w.ownsRow b2 60 4 (.slice ai ni ci) ni (li.flatMap It.cells)
  ti : ∀ y ∈ li, TgF w S y.tv y.tags
section
variable {w0 w w' : World} {S : SC} {b1 b2 n c ni ci m : Nat} {a ai : Option Addr} {l l' : List Of} {li : List It}
theorem BF.draw (h : BF w0 S b1 b2 a n c l ai ni ci li w) (k : w.grownBy w' (some S.g)) (h1 : S.g < b1) (h2 : S.g < b2) : BF w0 S b1 b2 a n c l ai ni ci li w' :=
  ⟨grown_trans h.gr k, own_grown h.own k (fun g hg e => by have := (h.own.lt g hg).1; injection e with e; omega), fun x hx => (h.tg x hx).draw k,
    own_grown h.oi k (fun g hg e => by have := (h.oi.lt g hg).1; injection e with e; omega), fun x hx => (h.ti x hx).draw k⟩
theorem BF.below (h : BF w0 S b1 b2 a n c l ai ni ci li w) (b : Below w.heap.size w w') : BF w0 S b1 b2 a n c l ai ni ci li w' :=
  ⟨grown_trans h.gr (grown_of_below b _), own_below h.own b, fun x hx => (h.tg x hx).below b, own_below h.oi b, fun x hx => (h.ti x hx).below b⟩
theorem BF.ro (h : BF w0 S b1 b2 a n c l ai ni ci li w) (hn : l.length = n) : RAt w a 12 Of.cells l := own_rat h.own hn (fun x _ => x.len)
theorem BF.ri (h : BF w0 S b1 b2 a n c l ai ni ci li w) (hn : li.length = ni) : RAt w ai 4 It.cells li := own_rat h.oi hn (fun x _ => x.len)
theorem BF.tgo (h : BF w0 S b1 b2 a n c l ai ni ci li w) : TagsAt Of.tv Of.tags w l := fun x hx => (h.tg x hx).strs
theorem BF.tgi (h : BF w0 S b1 b2 a n c l ai ni ci li w) : TagsAt It.tv It.tags w li := fun x hx => (h.ti x hx).strs
/-- a write to a row of offers leaves tags alone -/
theorem tg_write {tv : Option Addr} {tags : List ByteArray} (t : TgF w S tv tags) (own : w.ownsRow b1 37 12 (.slice a n c) n (l.flatMap Of.cells)) (k : w.grownBy w' (Value.slice a n c).ownBlock) : TgF w' S tv tags := by
  refine t.kept k (fun p cur fr e hc => ?_)
  rcases own.2 with ⟨h0, _⟩ | ⟨g, cap, cur', h0, _, hg, _⟩
  · rw [h0] at e; cases e
  · rw [h0] at e
    obtain rfl := Option.some.inj e
    rw [hg] at hc
    injection hc with hc
    injection hc with _ hc _
    exact absurd hc (by decide)
theorem BF.seen (h : BF w0 S b1 b2 a n c l ai ni ci li w) (k : w.grownBy w' (Value.slice a n c).ownBlock) (hn : li.length = ni) (hb : ∀ g, (Value.slice a n c).ownBlock = some g → g < b2) : RAt w' ai 4 It.cells li ∧ TagsAt It.tv It.tags w' li ∧ ∀ x ∈ l, StrsAt w' x.tv x.tags :=
  ⟨own_rat (own_grown h.oi k (fun g hg e => by have := (h.oi.lt g hg).1; have := hb g e; omega)) hn (fun x _ => x.len), fun y hy => (tg_write (h.ti y hy) h.own k).strs, fun x hx => (tg_write (h.tg x hx) h.own k).strs⟩
theorem BF.write (h : BF w0 S b1 b2 a n c l ai ni ci li w) (k : w.grownBy w' (Value.slice a n c).ownBlock) (o : w'.ownsRow b1 37 12 (.slice a m c) m (l'.flatMap Of.cells)) (hl : ∀ x ∈ l', x ∈ l)
    (hb : ∀ g, (Value.slice a n c).ownBlock = some g → g < b2) (h0 : w0.heap.size ≤ b1) : BF w0 S b1 b2 a m c l' ai ni ci li w' :=
  ⟨grown_own h.gr k (fun q hq => by have := (h.own.lt q hq).1; omega), o, fun x hx => tg_write (h.tg x (hl x hx)) h.own k,
    own_grown h.oi k (fun g hg e => by have := (h.oi.lt g hg).1; have := hb g e; omega), fun x hx => tg_write (h.ti x hx) h.own k⟩
/-- one field of one offer -/
theorem BF.put {g i j : Nat} {u : Value} {x : Of} (h : BF w0 S b1 b2 (some ⟨g, 0, none⟩) n c l ai ni ci li w) (hn : l.length = n) (hj : j < l.length) (hi : i < 12) (hx : x.cells = (l[j].cells).set i u) (htv : x.tv = l[j].tv) (htg : x.tags = l[j].tags)
    (hb : ∀ g', (Value.slice (some ⟨g, 0, none⟩) n c).ownBlock = some g' → g' < b2) (h0 : w0.heap.size ≤ b1) : BF w0 S b1 b2 (some ⟨g, 0, none⟩) n c (l.set j x) ai ni ci li (w.setCell ⟨g, j * 12 + i, none⟩ u) := by
  obtain ⟨o1, g1⟩ := h.own.stored (j * 12 + i) u
  rw [fm_set 12 Of.cells l (fun x _ => x.len) j i hj hi x u hx] at o1
  refine ⟨grown_own h.gr g1 (fun q hq => by have := (h.own.lt q hq).1; omega), o1, fun y hy => ?_,
    own_grown h.oi g1 (fun g' hg e => by have := (h.oi.lt g' hg).1; have := hb g' e; omega), fun y hy => tg_write (h.ti y hy) h.own g1⟩
  rcases List.mem_or_eq_of_mem_set hy with hy | rfl
  · exact tg_write (h.tg y hy) h.own g1
  · rw [htv, htg]
    exact tg_write (h.tg _ (List.getElem_mem hj)) h.own g1
end
theorem goS_len (li : List It) : ∀ (m : List Of) (s : PrS), (m.foldl (stepP li) s).left.length = s.left.length ∧ (m.foldl (stepP li) s).cuts.length = s.cuts.length + m.length
  | [], s => ⟨rfl, rfl⟩
  | x :: m, s => by
    obtain ⟨h1, h2⟩ := goS_len li m (stepP li s x)
    simp only [List.foldl_cons]
    refine ⟨h1.trans (subL_length _ _), ?_⟩
    rw [h2]
    simp [stepP]
    omega
theorem prS_len (l : List Of) (li : List It) (ship t : Int) : (bkPrS l li ship t).left.length ≤ li.length ∧ (bkPrS l li ship t).cuts.length ≤ l.length := by
  unfold bkPrS
  split
  · unfold goP
    obtain ⟨h1, h2⟩ := goS_len li ((srtO l).take l.length) (startP li ship)
    refine ⟨by rw [h1]; simp [startP], ?_⟩
    rw [h2]
    have : (startP li ship).cuts.length = 0 := rfl
    rw [this, List.length_take]
    omega
  · exact ⟨Nat.zero_le _, Nat.zero_le _⟩
end Go.Proofs.YtdefjnefkdemiaaGreatDoor
