/- A list of one's own that grows beside the stream. -/
import Derived.Test.YtfdpfkdfglombaaGreatDoorPickAt
import Derived.Test.YtfdpfkdfglombaaGreatDoorInts
set_option linter.unusedVariables false
namespace Go.Proofs.YtfdpfkdfglombaaGreatDoor
open Go.RowKit

theorem grown_own {w W W' : World} {row : Option Nat} {g : Nat} (h : w.grownBy W (some g)) (k : W.grownBy W' row) (hr : ∀ q, row = some q → w.heap.size ≤ q) : w.grownBy W' (some g) :=
  ⟨k.os.trans h.os, k.tape.trans h.tape, k.output.trans h.output, Nat.le_trans h.size k.size, fun i hi hne => (k.block i (Nat.lt_of_lt_of_le hi h.size) (fun e => by have := hr i e.symm; omega)).trans (h.block i hi hne)⟩
theorem strm_own {W W' : World} {row : Option Nat} {S : SC} {K : Nat} (h : Strm W S K) (k : W.grownBy W' row) (hr : ∀ q, row = some q → S.g < q) : Strm W' S K := by
  have hg := strm_lt h
  obtain ⟨⟨x, hx, hb⟩, hBg, hlen, hel⟩ := h
  refine ⟨⟨x, hx, (k.block _ hg (fun e => by have := hr _ e.symm; omega)).trans hb⟩, hBg, hlen, fun i hi => ?_⟩
  obtain ⟨b, off, n, h1, h2, h3, h4⟩ := hel i hi
  exact ⟨b, off, n, h1, h2, k.cell h3 (fun e => by have : S.g < b := hr _ e.symm; omega), h4⟩
/-- the list keeps while the stream is drawn from -/
theorem row_kept {W W' : World} {S : SC} {base e size : Nat} {v : Value} {k : Nat} {xs : List Value} (h : W.ownsRow base e size v k xs) (hg : W.grownBy W' (some S.g)) (hb : S.g < base) : W'.ownsRow base e size v k xs := by
  refine h.kept hg ?_
  cases hv : v.ownBlock with
  | none => exact .inl rfl
  | some q =>
    refine .inr fun e => ?_
    have := (h.lt q hv).1
    simp at e
    omega
theorem row_form {W : World} {base : Nat} {v : Value} {k : Nat} {zs : List Int} {t : TypeId} (h : W.ownsRow base t 1 v k (zs.map (Value.int .i64))) : ∃ a c, v = .slice a k c ∧ IntsAt W a zs := by
  rcases h.2 with ⟨rfl, h0⟩ | ⟨g, cap, cur, rfl, _⟩
  · subst h0
    have hl : zs.length = 0 := by have := h.1; simpa using this
    obtain rfl := List.eq_nil_of_length_eq_zero hl
    exact ⟨none, 0, rfl, IntsAt.nil _ _⟩
  · exact ⟨_, cap, rfl, IntsAt.of_own h⟩
end Go.Proofs.YtfdpfkdfglombaaGreatDoor
