/- Facts that stay while the stream is drawn from. -/
import Derived.Test.YtgdagknjnidmiaaGreatDoorM1
import Derived.Test.YtgdagknjnidmiaaGreatDoorM2
set_option linter.unusedVariables false
namespace Go.Proofs.YtgdagknjnidmiaaGreatDoor
open Go.RowKit

/-- P holds in this world, and in every world that comes out of it by draws from the stream and new blocks -/
def Kp (S : SC) (P : World → Prop) (w : World) : Prop := ∀ w', w.grownBy w' (some S.g) → P w'
section
variable {S : SC} {P Q : World → Prop} {w w' : World}
theorem grown_same (w : World) (r : Option Nat) : w.grownBy w r := ⟨rfl, rfl, rfl, Nat.le_refl _, fun _ _ _ => rfl⟩
theorem Kp.now (h : Kp S P w) : P w := h w (grown_same w _)
theorem Kp.up (h : Kp S P w) (k : w.grownBy w' (some S.g)) : Kp S P w' := fun w'' k' => h w'' (grown_trans k k')
theorem Kp.below (h : Kp S P w) (b : Below w.heap.size w w') : Kp S P w' := h.up (grown_of_below b _)
theorem Kp.alloc (h : Kp S P w) (o : Obj) : Kp S P (w.alloc o) := h.up (World.grownBy_alloc w o _)
theorem Kp.drew (h : Kp S P w) : Kp S P w.drew := h.up (grown_drew (grown_same w _))
theorem Kp.and (h : Kp S P w) (h' : Kp S Q w) : Kp S (fun w => P w ∧ Q w) w := fun w' k => ⟨h w' k, h' w' k⟩
theorem Kp.mp (h : Kp S P w) (f : ∀ w, P w → Q w) : Kp S Q w := fun w' k => f w' (h w' k)
theorem Kp.grown {w0 : World} (h : w0.grownBy w (some S.g)) : Kp S (fun w => w0.grownBy w (some S.g)) w := fun w' k => grown_trans h k
theorem Kp.ints {a : Option Addr} {zs : List Int} (h : IntsAt w a zs) (hg : ∀ p off, a = some ⟨p, off, none⟩ → p ≠ S.g) : Kp S (fun w => IntsAt w a zs) w := fun w' k => h.grown k hg
theorem Kp.recs {α : Type} {a : Option Addr} {C : Nat} {f : α → List Value} {l : List α} (h : RAt w a C f l) (hg : ∀ p off, a = some ⟨p, off, none⟩ → p ≠ S.g) : Kp S (fun w => RAt w a C f l) w := fun w' k => h.grown k hg
theorem Kp.box {q : Nat} {cs : List Value} (h : XB w q cs) (hq : q ≠ S.g) : Kp S (fun w => XB w q cs) w := fun w' k => h.grown k (by simpa using fun e => hq e.symm)
end
end Go.Proofs.YtgdagknjnidmiaaGreatDoor
