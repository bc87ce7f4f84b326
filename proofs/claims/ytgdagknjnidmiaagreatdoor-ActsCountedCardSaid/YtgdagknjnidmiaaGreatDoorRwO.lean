/- A map of one's own from strings to rows, each in a block of its own. -/
import Derived.Test.YtgdagknjnidmiaaGreatDoorM1
import Derived.Test.YtgdagknjnidmiaaGreatDoorActP
set_option linter.unusedVariables false
namespace Go.Proofs.YtgdagknjnidmiaaGreatDoor
open Go.RowKit Go.Maps

theorem rowW_below {w w' : World} {b0 C n : Nat} {t : TypeId} {v : Value} {xs : List Value} (own : w.ownsRow b0 t C v n xs) (hb : Below w.heap.size w w') : w'.ownsRow b0 t C v n xs := by
  refine own.kept (grown_of_below hb none) ?_
  cases v.ownBlock with
  | none => exact .inl rfl
  | some q => exact .inr (by simp)
theorem rowW_grown {w w' : World} {b0 C n : Nat} {t : TypeId} {v : Value} {xs : List Value} {row : Option Nat} (own : w.ownsRow b0 t C v n xs) (hb : w.grownBy w' row) (h : ∀ g, v.ownBlock = some g → row ≠ some g) : w'.ownsRow b0 t C v n xs := by
  refine own.kept hb ?_
  cases hv : v.ownBlock with
  | none => exact .inl rfl
  | some g => exact .inr (fun e => h g hv e.symm)
theorem rowW_shape {w : World} {b0 C n : Nat} {t : TypeId} {v : Value} {xs : List Value} (own : w.ownsRow b0 t C v n xs) : ∃ a c, v = .slice a n c ∧ n ≤ c ∧ c ≤ maxLen := by
  rcases own.2 with ⟨e, h0⟩ | ⟨g, cap, cur, e, _, _, h1, h2, _⟩
  · exact ⟨none, 0, by rw [e, h0], by omega, Nat.zero_le _⟩
  · exact ⟨_, _, e, h1, h2⟩
/-- what stands at the keys: pointers -/
def ptW (ks : List ByteArray) (blk : ByteArray → Nat) : ByteArray → Value := fun s => if hasS ks s = true then .pointer (some ⟨blk s, 0, none⟩) else .pointer none
/-- block b is a map of rows; each lies in block blk s; all of them at lo or behind -/
structure RwO (w : World) (b n lo : Nat) (c : Rws) (blk : ByteArray → Nat) : Prop where
  map : VM w (.pointer none) b n c.keys (ptW c.keys blk)
  box : ∀ s, s ∈ c.keys → OB w (blk s) (c.at_ s).cells 37
  lo_ : ∀ s, s ∈ c.keys → lo ≤ blk s
  ne : ∀ s, s ∈ c.keys → blk s ≠ b
  inj : ∀ s t, s ∈ c.keys → t ∈ c.keys → blk s = blk t → s = t
  lob : lo ≤ b
  z : ∀ s, s ∉ c.keys → ∀ j, c.f s j = 0
def zRow (s : ByteArray) : List Value := [.string s, .int .i64 0, .int .i64 0, .int .i64 0, .int .i64 0, .int .i64 0]
section
variable {w w' w2 : World} {b n lo q : Nat} {c : Rws} {blk : ByteArray → Nat} {s : ByteArray}
theorem RwO.made (w : World) {lo : Nat} (h : lo ≤ w.heap.size) : RwO (w.alloc (.map #[] 0)) w.heap.size 0 lo ⟨[], fun _ _ => 0⟩ (fun _ => 0) :=
  ⟨VM.made w _, fun s hs => by simp at hs, fun s hs => by simp at hs, fun s hs => by simp at hs, fun s t hs => by simp at hs, h, fun _ _ _ => rfl⟩
theorem RwO.below (h : RwO w b n lo c blk) (hb : Below w.heap.size w w') : RwO w' b n lo c blk :=
  ⟨h.map.below hb, fun s hs => (h.box s hs).below hb, h.lo_, h.ne, h.inj, h.lob, h.z⟩
theorem RwO.grown {row : Option Nat} (h : RwO w b n lo c blk) (k : w.grownBy w' row) (h1 : row ≠ some b) (h2 : ∀ s, s ∈ c.keys → row ≠ some (blk s)) : RwO w' b n lo c blk :=
  ⟨h.map.kept k (fun e => h1 e.symm), fun s hs => (h.box s hs).grown k (h2 s hs), h.lo_, h.ne, h.inj, h.lob, h.z⟩
theorem RwO.yes (hs : hasS c.keys s = true) : ptW c.keys blk s = .pointer (some ⟨blk s, 0, none⟩) := if_pos hs
theorem RwO.no (hs : hasS c.keys s = false) : ptW c.keys blk s = .pointer none := if_neg (by rw [hs]; decide)
theorem RwO.new (h : RwO w b n lo c blk) (hs : hasS c.keys s = false) (hq : w.heap.size = q) (hlo : lo ≤ q)
    (hv : VM w2 (.pointer none) b (n + 1) (addK c.keys s) (putV (ptW c.keys blk) s (.pointer (some ⟨q, 0, none⟩)))) (k : (w.alloc (.cells (zRow s).toArray 37)).grownBy w2 (some b)) :
    RwO w2 b (n + 1) lo ⟨addK c.keys s, c.f⟩ (fun x => if sameS s x = true then q else blk x) := by
  have hbl := h.map.lt
  have hns : s ∉ c.keys := fun e => by rw [hasS_mem.2 e] at hs; cases hs
  have z1 := h.z s hns
  have hnew : ∀ x, x ∈ c.keys → ¬ sameS s x = true := fun x hx e => hns (by rw [sameS_eq.1 e]; exact hx)
  have hlt : ∀ x, x ∈ c.keys → blk x ≠ q := fun x hx e => by have := (h.box x hx).lt; omega
  refine ⟨?_, fun x hx => ?_, fun x hx => ?_, fun x hx => ?_, fun x y hx hy e => ?_, h.lob, fun x hx => h.z x fun e => hx (addK_mem.2 (Or.inl e))⟩
  · have e : putV (ptW c.keys blk) s (.pointer (some ⟨q, 0, none⟩)) = ptW (addK c.keys s) (fun x => if sameS s x = true then q else blk x) := by
      funext x
      unfold putV ptW
      rw [hasS_addK]
      by_cases e : sameS s x = true
      · simp [e]
      · have e' : sameS s x = false := by simpa using e
        simp [e']
    rw [← e]
    exact hv
  · rcases addK_mem.1 hx with hx | rfl
    · rw [if_neg (hnew x hx)]
      exact ((h.box x hx).alloc _).grown k (fun e => h.ne x hx (Option.some.inj e).symm)
    · rw [if_pos (sameS_eq.2 rfl)]
      have e : (Rws.at_ ⟨addK c.keys x, c.f⟩ x).cells = zRow x := by
        show [Value.string x, .int .i64 (c.f x 1 : Int), .int .i64 (c.f x 2 : Int), .int .i64 (c.f x 3 : Int), .int .i64 (c.f x 4 : Int), .int .i64 (c.f x 5 : Int)] = _
        rw [z1, z1, z1, z1, z1]; rfl
      rw [e, ← hq]
      exact (OB.new w (zRow x) 37).grown k (fun e => by have := Option.some.inj e; omega)
  · rcases addK_mem.1 hx with hx | rfl
    · rw [if_neg (hnew x hx)]; exact h.lo_ x hx
    · rw [if_pos (sameS_eq.2 rfl)]; exact hlo
  · rcases addK_mem.1 hx with hx | rfl
    · rw [if_neg (hnew x hx)]; exact h.ne x hx
    · rw [if_pos (sameS_eq.2 rfl)]; omega
  · rcases addK_mem.1 hx with hx1 | hx1 <;> rcases addK_mem.1 hy with hy1 | hy1
    · rw [if_neg (hnew x hx1), if_neg (hnew y hy1)] at e
      exact h.inj x y hx1 hy1 e
    · rw [if_neg (hnew x hx1), if_pos (sameS_eq.2 hy1.symm)] at e
      exact absurd e (hlt x hx1)
    · rw [if_neg (hnew y hy1), if_pos (sameS_eq.2 hx1.symm)] at e
      exact absurd e.symm (hlt y hy1)
    · exact hx1.trans hy1.symm
/-- one row was written -/
theorem RwO.cnt (h : RwO w b n lo c blk) (hs : s ∈ c.keys) (k : w.grownBy w' (some (blk s))) (f' : Nat → Nat) (ho : OB w' (blk s) (Rw.cells ⟨s, f'⟩) 37) :
    RwO w' b n lo ⟨c.keys, fun x j => if sameS s x = true then f' j else c.f x j⟩ blk := by
  refine ⟨h.map.kept k (fun e => h.ne s hs (Option.some.inj e).symm), fun x hx => ?_, h.lo_, h.ne, h.inj, h.lob, fun x hx j => ?_⟩
  · by_cases e : sameS s x = true
    · have e2 := sameS_eq.1 e
      subst e2
      show OB w' (blk s) (Rw.cells ⟨s, fun j => if sameS s s = true then f' j else c.f s j⟩) _
      rw [show (fun j => if sameS s s = true then f' j else c.f s j) = f' from funext fun j => if_pos e]
      exact ho
    · show OB w' (blk x) (Rw.cells ⟨x, fun j => if sameS s x = true then f' j else c.f x j⟩) _
      rw [show (fun j => if sameS s x = true then f' j else c.f x j) = c.f x from funext fun j => if_neg e]
      exact (h.box x hx).grown k (fun e' => e (sameS_eq.2 (h.inj s x hs hx (Option.some.inj e'))))
  · show (if sameS s x = true then f' j else c.f x j) = 0
    rw [if_neg (fun e => hx (by rw [← sameS_eq.1 e]; exact hs))]
    exact h.z x hx j
end
end Go.Proofs.YtgdagknjnidmiaaGreatDoor
