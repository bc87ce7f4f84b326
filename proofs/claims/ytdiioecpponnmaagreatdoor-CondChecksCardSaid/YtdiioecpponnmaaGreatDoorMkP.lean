/- What the maker of a condition holds while it makes one. -/
import Derived.Test.YtdiioecpponnmaaGreatDoorMkC
import Derived.Test.YtdiioecpponnmaaGreatDoorMask
set_option linter.unusedVariables false
namespace Go.Proofs.YtdiioecpponnmaaGreatDoor
open Go.RowKit

/-- the lists of a condition that is being made lie behind q0 -/
structure Pt (q0 : Nat) (va : Option Addr) (vals : List Vl) (wa : Option Addr) (whs : List Wh) (wr : World) : Prop where
  rv : RAt wr va 3 Vl.cells vals
  rw' : RAt wr wa 5 Wh.cells whs
  fv : ∀ g, g ≤ q0 → Far va vals.length g
  fw : ∀ g, g ≤ q0 → Far wa whs.length g
section
variable {w wr w' : World} {S : SC} {q0 K K' M : Nat} {va wa : Option Addr} {vals : List Vl} {whs : List Wh} {cs : List Value} {t : TypeId}
theorem Pt.nil (q0 : Nat) (wr : World) : Pt q0 none [] none [] wr := ⟨RAt.nil _ _ _ _, RAt.nil _ _ _ _, fun g _ h => absurd h (by simp), fun g _ h => absurd h (by simp)⟩
theorem Pt.kept {g : Nat} (h : Pt q0 va vals wa whs wr) (k : wr.grownBy w' (some g)) (hg : g ≤ q0) : Pt q0 va vals wa whs w' :=
  ⟨h.rv.kept k (fun g' e => by obtain rfl := Option.some.inj e; exact h.fv _ hg), h.rw'.kept k (fun g' e => by obtain rfl := Option.some.inj e; exact h.fw _ hg), h.fv, h.fw⟩
theorem Pt.alloc (h : Pt q0 va vals wa whs wr) (o : Obj) : Pt q0 va vals wa whs (wr.alloc o) := h.kept (World.grownBy_alloc _ _ (some 0)) (Nat.zero_le _)
/-- a maker's leaf -/
theorem leafC {n : Nd} (hp : Pt q0 n.va n.vals n.wa n.whs wr) (hok : n.ok) (haa : n.aa = none) (hac : n.ac = 0) (hq : w.heap.size ≤ q0) (k : w.grownBy wr (some S.g)) (s : Strm wr S K) (hM : 1 ≤ M) (hvl : n.vals.length ≤ 100) (hwl : n.whs.length ≤ 100) :
    GenC S K w 1 M (.returned (.agg (Cn.mk n []).cells.toArray)) wr := by
  refine ⟨.mk n [], rfl, ⟨hok, ⟨by simp [Cn.args], by simp only [Cn.nd]; omega, by simp [Cn.args]⟩, hp.rv, hp.rw', RAt.nil _ _ _ _, fun x hx => by cases hx⟩, fun g hg => ⟨hp.fv g (by omega), hp.fw g (by omega), fun h => absurd h (by simp [Cn.args]), fun x hx => by cases hx⟩, ⟨?_, hvl, hwl, fun x hx => by cases hx⟩, k, s⟩
  show 1 + 0 ≤ M
  omega
theorem vals_one (w : World) (x : Vl) : RAt (w.alloc (.cells #[.int .i64 x.kind, .string x.text, .int .i64 x.num] 47)) (some ⟨w.heap.size, 0, none⟩) 3 Vl.cells [x] := by
  refine RAt.block (t := 47) ?_ (fun x _ => rfl)
  rw [heap_alloc_new]
  rfl
end
def condZ : List Value := [.int .i64 0, .string ⟨#[]⟩, .string ⟨#[]⟩, .string ⟨#[]⟩, .slice none 0 0, .slice none 0 0, .int .i64 0, .int .i64 0, .slice none 0 0]
/-- a condition in a variable of its own, whose values grow -/
structure TW (w : World) (S : SC) (q0 q : Nat) (name : ByteArray) (cur : Value) (l : List Vl) (K : Nat) (wr : World) : Prop where
  mkk : Mk w S q0 condZ 30 K wr
  bx : OB wr q [.int .i64 8, .string name, .string ⟨#[]⟩, .string ⟨#[]⟩, cur, .slice none 0 0, .int .i64 0, .int .i64 0, .slice none 0 0] 30
  own : wr.ownsRow (q + 1) 47 3 cur l.length (l.flatMap Vl.cells)
  lt : q0 < q
section
variable {w wr w' : World} {S : SC} {q0 q K K' : Nat} {name : ByteArray} {cur : Value} {l : List Vl}
theorem TW.draw (h : TW w S q0 q name cur l K wr) (k : wr.grownBy w' (some S.g)) (s : Strm w' S K') : TW w S q0 q name cur l K' w' := by
  have h1 := h.mkk.sg
  have h2 := h.lt
  refine ⟨h.mkk.draw k s, h.bx.grown k (fun e => by have := Option.some.inj e; omega), ?_, h.lt⟩
  refine h.own.kept k ?_
  cases hv : cur.ownBlock with
  | none => exact .inl rfl
  | some b => exact .inr (fun e => by have := (h.own.lt b hv).1; have := Option.some.inj e; omega)
theorem TW.alloc (h : TW w S q0 q name cur l K wr) (o : Obj) : TW w S q0 q name cur l K (wr.alloc o) := h.draw (World.grownBy_alloc _ _ _) (strm_alloc h.mkk.st _)
theorem TW.mono (h : TW w S q0 q name cur l K wr) (hK : K ≤ K') : TW w S q0 q name cur l K' wr := h.draw ⟨rfl, rfl, rfl, Nat.le_refl _, fun _ _ _ => rfl⟩ (strm_mono h.mkk.st hK)
theorem TW.drew (h : TW w S q0 q name cur l K wr) : TW w S q0 q name cur l K wr.drew := h.draw ⟨rfl, rfl, rfl, Nat.le_refl _, fun _ _ _ => rfl⟩ (show Strm wr.drew S K from h.mkk.st)
theorem TW.app {v' : Value} {x : Vl} (h : TW w S q0 q name cur l K wr) (k : wr.grownBy w' cur.ownBlock) (own : w'.ownsRow (q + 1) 47 3 v' (l.length + 1) (l.flatMap Vl.cells ++ x.cells)) :
    w'.cell? ⟨q, 4, none⟩ = some cur ∧ w'.frozen? ⟨q, 4, none⟩ = false ∧ q < w'.heap.size ∧ TW w S q0 q name v' (l ++ [x]) K (w'.setCell ⟨q, 4, none⟩ v') := by
  have h1 := h.mkk.sg
  have h2 := h.lt
  have h3 := h.mkk.lo
  have hr : ∀ b, cur.ownBlock = some b → q + 1 ≤ b := fun b hb => (h.own.lt b hb).1
  have hbx : OB w' q _ 30 := h.bx.grown k (fun e => by have := hr q e; omega)
  have hmk0 : OB w' q0 condZ 30 := h.mkk.ob.grown k (fun e => by have := hr q0 e; omega)
  have hgr : w.grownBy w' (some S.g) := grown_own h.mkk.gr k (fun b hb => by have := hr b hb; omega)
  have hst : Strm w' S K := strm_own h.mkk.st k (fun b hb => by have := hr b hb; omega)
  have hset : w'.grownBy (w'.setCell ⟨q, 4, none⟩ v') (some q) := ⟨rfl, rfl, rfl, by simp [World.setCell], fun i _ hne => Below.heap_setCell w' _ _ i (by rintro rfl; exact hne rfl)⟩
  refine ⟨hbx.cell 4 _ rfl, hbx.free 4, hbx.lt, ⟨⟨hmk0.grown hset (fun e => by have := Option.some.inj e; omega), strm_own hst hset (fun b hb => by have := Option.some.inj hb; omega), grown_own hgr hset (fun b hb => by have := Option.some.inj hb; omega), h.mkk.lo, h1⟩, hbx.put 4 v' rfl, ?_, h.lt⟩⟩
  have own' : w'.ownsRow (q + 1) 47 3 v' (l ++ [x]).length ((l ++ [x]).flatMap Vl.cells) := by simpa using own
  refine own'.kept hset ?_
  cases hv : v'.ownBlock with
  | none => exact .inl rfl
  | some b => exact .inr (fun e => by have := (own'.lt b hv).1; have := Option.some.inj e; omega)
/-- what the drawn region keeps -/
structure JV (w : World) (S : SC) (q0 q : Nat) (name : ByteArray) (cur : Value) (l : List Vl) (K0 : Nat) (s1 s4 s5 : Nat) (b : Msk) (v : Nat → Value) (wr : World) : Prop where
  base : TW w S q0 q name cur l (K0 + 2 * (b 4).toNat) wr
  p1 : b 1 = true → v s1 = cur
  p4 : b 4 = true → ∃ x : Vl, v s4 = .agg #[.int .i64 x.kind, .string x.text, .int .i64 x.num] ∧ x.ok
  p5 : b 5 = true → ∃ h, ∃ x : Vl, v s5 = .slice (some ⟨h, 0, none⟩) 1 1 ∧ x.ok ∧ h ≠ S.g ∧ OB wr h [.int .i64 x.kind, .string x.text, .int .i64 x.num] 47
end
end Go.Proofs.YtdiioecpponnmaaGreatDoor
