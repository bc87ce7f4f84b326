/- Writes to a purse. -/
import Derived.Test.YtdnikegakcdcnaaDoorPurseOps
import Derived.Deep.AppendLies
set_option linter.unusedVariables false
namespace Go.Proofs.YtdnikegakcdcnaaDoor
open Go.RowKit

theorem Chg.one (w : World) (p : Addr) (u : Value) : Chg w (w.setCell p u) (fun i => i = p.block) :=
  Chg.set (B := fun i => i = p.block) (Chg.refl w _) (p := p) (Or.inl rfl) u
section
variable {b0 : Nat} {gs : List Nat} {t : TypeId} {g : Nat} {bl : List Bd} {hv : Value} {hl : List Hd} {now : Int} {w w' w1 wb : World}
/-- the blocks that a purse may write -/
def PB (g : Nat) (hv : Value) (i : Nat) : Prop := i = g ∨ hv.ownBlock = some i
theorem Pu.setNow (h : Pu b0 gs t g bl hv hl now w) (u : Int) : Pu b0 gs t g bl hv hl u (w.setCell ⟨g, 2, none⟩ (.int .i64 u)) ∧ Chg w (w.setCell ⟨g, 2, none⟩ (.int .i64 u)) (PB g hv) := by
  obtain ⟨ba, bc, h1, h2, h3, h4, h5⟩ := h.hdr
  have hgl := h.glt g h.mem
  have k : Chg w (w.setCell ⟨g, 2, none⟩ (.int .i64 u)) (fun i => i = g) := Chg.one w ⟨g, 2, none⟩ _
  refine ⟨⟨⟨ba, bc, ?_, k.recs h2 (fun p off e hb => ?_), h3, h4, h5⟩, k.own h.own (fun i hi hb => ?_), h.mem, h.glt, Nat.le_trans h.le k.size⟩, k.mono fun i hi => .inl (.inl hi)⟩
  · simp [World.setCell, Array.getElem?_modify, h1]
  · have := (h5 p off e).2
    rw [hb] at this
    exact this h.mem
  · have := (h.own.lt i hi).1
    omega
theorem Pu.setSt {k n cap : Nat} {j : Nat} (h : Pu b0 gs t g bl (.slice (some ⟨k, 0, none⟩) n cap) hl now w) (hn : hl.length = n) (hj : j < hl.length) (u : Int) :
    Pu b0 gs t g bl (.slice (some ⟨k, 0, none⟩) n cap) (hl.set j ⟨hl[j].no, hl[j].key, hl[j].cents, hl[j].at_, hl[j].until_, u⟩) now (w.setCell ⟨k, j * 6 + 5, none⟩ (.int .i64 u)) ∧
    Chg w (w.setCell ⟨k, j * 6 + 5, none⟩ (.int .i64 u)) (PB g (.slice (some ⟨k, 0, none⟩) n cap)) ∧ w.cell? ⟨k, j * 6 + 5, none⟩ = some (.int .i64 hl[j].state) ∧ w.frozen? ⟨k, j * 6 + 5, none⟩ = false := by
  subst hn
  obtain ⟨ba, bc, h1, h2, h3, h4, h5⟩ := h.hdr
  have hgl := h.glt g h.mem
  have hk := (h.own.lt k (by simp [Value.ownBlock])).1
  have kc : Chg w (w.setCell ⟨k, j * 6 + 5, none⟩ (.int .i64 u)) (fun i => i = k) := Chg.one w ⟨k, j * 6 + 5, none⟩ _
  obtain ⟨o1, o2⟩ := h.own.stored (j * 6 + 5) (.int .i64 u)
  rw [fm_set 6 Hd.cells hl (fun x _ => x.len) j 5 hj (by omega) ⟨hl[j].no, hl[j].key, hl[j].cents, hl[j].at_, hl[j].until_, u⟩ _ rfl] at o1
  refine ⟨⟨⟨ba, bc, kc.blk h1 (fun e => by omega), kc.recs h2 (fun p off e hb => ?_), h3, h4, h5⟩, by simpa using o1, h.mem, h.glt, Nat.le_trans h.le kc.size⟩, kc.mono fun i hi => .inl (.inr (by rw [hi]; rfl)), ?_, h.own.frozenAt _⟩
  · have := (h5 p off e).1
    omega
  · rw [h.own.cellAt _ (by omega), fm_get 6 Hd.cells hl (fun x _ => x.len) j 5 hj (by omega)]
    rfl
/-- a hold more -/
theorem Pu.app {k n cap : Nat} {x : Hd} (h : Pu b0 gs t g bl hv hl now w) (hn : hl.length = n) (hR : w.grownBy wb none)
    (own : w1.ownsRow b0 94 6 (.slice (some ⟨k, 0, none⟩) (n + 1) cap) (n + 1) (hl.flatMap Hd.cells ++ x.cells)) (hg : wb.grownBy w1 hv.ownBlock) (hat : hv.ownBlock = some k ∨ k = wb.heap.size) :
    w1.cell? ⟨g, 1, none⟩ = some hv ∧ w1.frozen? ⟨g, 1, none⟩ = false ∧
    Pu b0 gs t g bl (.slice (some ⟨k, 0, none⟩) (n + 1) cap) (hl ++ [x]) now (w1.setCell ⟨g, 1, none⟩ (.slice (some ⟨k, 0, none⟩) (n + 1) cap)) ∧
    Chg w (w1.setCell ⟨g, 1, none⟩ (.slice (some ⟨k, 0, none⟩) (n + 1) cap)) (PB g hv) ∧
    (hv.ownBlock = some k ∨ w.heap.size ≤ k) := by
  subst hn
  obtain ⟨ba, bc, h1, h2, h3, h4, h5⟩ := h.hdr
  have hgl := h.glt g h.mem
  have hrow : ∀ q, hv.ownBlock = some q → b0 ≤ q := fun q hq => (h.own.lt q hq).1
  have c1 : Chg w w1 (fun i => hv.ownBlock = some i) := (Chg.of_grown (B := fun i => hv.ownBlock = some i) hR (fun q e => by cases e)).trans (Chg.of_grown (B := fun i => hv.ownBlock = some i) hg (fun q e => e)) (fun i hi => .inl hi)
  have hng : ¬ hv.ownBlock = some g := fun e => by have := hrow g e; omega
  have hb1 := c1.blk h1 hng
  have c2 : Chg w1 (w1.setCell ⟨g, 1, none⟩ (.slice (some ⟨k, 0, none⟩) (hl.length + 1) cap)) (fun i => i = g) := Chg.one w1 ⟨g, 1, none⟩ _
  have hkb := (own.lt k (by simp [Value.ownBlock])).1
  refine ⟨by simp [World.cell?, hb1], by simp [World.frozen?, hb1], ⟨⟨ba, bc, ?_, ?_, h3, h4, h5⟩, ?_, h.mem, h.glt, ?_⟩, ?_, ?_⟩
  · simp [World.setCell, Array.getElem?_modify, hb1]
  · exact c2.recs (c1.recs h2 (fun p off e hb => by have := hrow p hb; have := (h5 p off e).1; omega)) (fun p off e hb => by have := (h5 p off e).2; rw [hb] at this; exact this h.mem)
  · have := c2.own own (fun i hi hb => by
      have : k = i := by simpa [Value.ownBlock] using hi
      omega)
    simpa using this
  · exact Nat.le_trans h.le (Nat.le_trans c1.size c2.size)
  · exact (c1.mono (B' := PB g hv) fun i hi => .inl (.inr hi)).trans c2 (fun i hi => .inl (.inl hi))
  · rcases hat with e | e
    · exact .inl e
    · right
      have := hR.size
      omega
end
/-- what a call that may write a purse leaves -/
def POut (b0 : Nat) (gs : List Nat) (t : TypeId) (g : Nat) (bl : List Bd) (hv : Value) (w : World) (r : Value) (hl' : List Hd) (now' : Int) (e : Ending) (w' : World) : Prop :=
  ∃ hv', e = .returned r ∧ Pu b0 gs t g bl hv' hl' now' w' ∧ Chg w w' (PB g hv) ∧ (∀ k, hv'.ownBlock = some k → hv.ownBlock = some k ∨ w.heap.size ≤ k)
theorem POut.same {b0 : Nat} {gs : List Nat} {t : TypeId} {g : Nat} {bl : List Bd} {hv : Value} {hl : List Hd} {now : Int} {w w' : World} {r : Value} (h : Pu b0 gs t g bl hv hl now w) (hb : Below w.heap.size w w') : POut b0 gs t g bl hv w r hl now (.returned r) w' :=
  ⟨hv, rfl, h.below hb, Chg.of_below hb _, fun k hk => .inl hk⟩

/-- what Reserve does -/
def resE (bl : List Bd) (hl : List Hd) (now : Int) (key : ByteArray) (cents t u : Int) : Int :=
  if bdAt bl key < 0 then 8 else if cents < 1 ∨ 1000000000000 < cents ∨ momB t = false ∨ u ≤ t ∨ 4321440 < u then 1 else if t < now then 7 else if pacV (bdGet bl key) t < tkV hl key t + cents then 12 else 0
def resV (bl : List Bd) (hl : List Hd) (now : Int) (key : ByteArray) (cents t u : Int) : Value :=
  if resE bl hl now key cents t u = 0 then .tuple #[.int .i64 ((hl.length : Int) + 1), .int .i64 0] else .tuple #[.int .i64 0, .int .i64 (resE bl hl now key cents t u)]
def resL (bl : List Bd) (hl : List Hd) (now : Int) (key : ByteArray) (cents t u : Int) : List Hd :=
  if resE bl hl now key cents t u = 0 then hl ++ [⟨(hl.length : Int) + 1, key, cents, t, u, 1⟩] else hl
def resN (bl : List Bd) (hl : List Hd) (now : Int) (key : ByteArray) (cents t u : Int) : Int := if resE bl hl now key cents t u = 0 then t else now
/-- what Commit and Release do: ok tells the states that may be turned -/
def turnE (hl : List Hd) (now no t : Int) (ok : Int → Bool) : Int :=
  if no < 1 ∨ (hl.length : Int) < no then 8 else if momB t = false then 1 else if t < now then 7 else if ok (stV (hl.getD (no - 1).toNat ⟨0, ⟨#[]⟩, 0, 0, 0, 0⟩) t) = false then 11 else 0
def stSet (x : Hd) (u : Int) : Hd := ⟨x.no, x.key, x.cents, x.at_, x.until_, u⟩
def turnL (hl : List Hd) (now no t : Int) (ok : Int → Bool) (u : Int) : List Hd :=
  if turnE hl now no t ok = 0 then hl.set (no - 1).toNat (stSet (hl.getD (no - 1).toNat ⟨0, ⟨#[]⟩, 0, 0, 0, 0⟩) u) else hl
def turnN (hl : List Hd) (now no t : Int) (ok : Int → Bool) : Int := if turnE hl now no t ok = 0 then t else now
def ok1 (s : Int) : Bool := decide (s = 1)
def ok2 (s : Int) : Bool := decide (s = 1) || decide (s = 2)
end Go.Proofs.YtdnikegakcdcnaaDoor
