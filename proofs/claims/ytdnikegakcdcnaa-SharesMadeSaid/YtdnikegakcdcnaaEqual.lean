/- slices.Equal on slices of ints that read alike. -/
import Derived.Test.YtdnikegakcdcnaaShareOf
import Derived.Test.YtdnikegakcdcnaaShelf
set_option linter.unusedVariables false
namespace Go.Proofs.Ytdnikegakcdcnaa
open Go.RowKit

theorem equal_same (w : World) (v v' : Value) (l : List Int) (h : SliceIs w v l) (h' : SliceIs w v' l) (hl : l.length ≤ 9223372036854775807) :
    Calls Try.prog 34 #[v, v'] w fun e w' => e = .returned (.bool true) ∧ ∃ q, w' = w.drewN q := by
  obtain ⟨a, c, rfl, hI⟩ := h
  obtain ⟨b, d, rfl, hJ⟩ := h'
  cases l with
  | nil =>
    refine (Try.slices_Equal_int_empty a b c 0 d w (by decide)).mono ?_
    rintro e w' ⟨rfl, rfl⟩
    exact ⟨rfl, 0, rfl⟩
  | cons z l =>
    obtain ⟨p1, o1, rfl, -, -⟩ := hI 0 (by simp)
    obtain ⟨p2, o2, rfl, -, -⟩ := hJ 0 (by simp)
    refine (Try.slices_Equal_int p1 o1 (z :: l).length c p2 o2 (z :: l).length d (z :: l) (z :: l) w (Nat.le_refl _) (Nat.le_refl _) hl hl (fun j hj => ?_) (fun j hj => ?_)).mono ?_
    · obtain ⟨p, off, h1, h2, h3⟩ := hI j hj
      injection h1 with h1
      injection h1 with e1 e2
      subst e1 e2
      rw [h3, List.getD_eq_getElem?_getD, List.getElem?_eq_getElem hj]
      rfl
    · obtain ⟨p, off, h1, h2, h3⟩ := hJ j hj
      injection h1 with h1
      injection h1 with e1 e2
      subst e1 e2
      rw [h3, List.getD_eq_getElem?_getD, List.getElem?_eq_getElem hj]
      rfl
    · rintro e w' ⟨rfl, hw⟩
      exact ⟨by simp, hw⟩
end Go.Proofs.Ytdnikegakcdcnaa
