/- slices.EqualFunc over tables that read alike. -/
import Derived.Test.YtgdagknjnidmiaaGreatDoorOutR
import Derived.Test.YtgdagknjnidmiaaGreatDoorShelf
import Derived.Deep.Cut
set_option linter.unusedVariables false
namespace Go.Proofs.YtgdagknjnidmiaaGreatDoor
open Go.RowKit

theorem equalT_ints (w : World) (b1 b2 : Nat) (l : List Int) (n c d : Nat) (hn : l.length = n) (h : IntsAt w (some ⟨b1, 0, none⟩) l) (h' : IntsAt w (some ⟨b2, 0, none⟩) l) (hl : n ≤ 1000) :
    Calls Tryz.prog 14 #[.slice (some ⟨b1, 0, none⟩) n c, .slice (some ⟨b2, 0, none⟩) n d] w fun e w' => e = .returned (.bool true) ∧ ∃ q, w' = w.drewN q := by
  refine (Tryz.slices_Equal_int b1 0 n c b2 0 n d l l w (by omega) (by omega) (by omega) (by omega) (fun j hj => ?_) (fun j hj => ?_)).mono ?_
  · obtain ⟨p, off, h1, h2, h3⟩ := h j hj
    injection h1 with h1
    injection h1 with e1 e2
    subst e1 e2
    rw [h3, List.getD_eq_getElem?_getD, List.getElem?_eq_getElem hj]
    rfl
  · obtain ⟨p, off, h1, h2, h3⟩ := h' j hj
    injection h1 with h1
    injection h1 with e1 e2
    subst e1 e2
    rw [h3, List.getD_eq_getElem?_getD, List.getElem?_eq_getElem hj]
    rfl
  · rintro e w' ⟨rfl, hw⟩
    exact ⟨by simp, hw⟩
theorem eqTab_nil (w : World) : Calls Tryz.prog 13 #[.slice none 0 0, .slice none 0 0, .func (.func 14) #[] #[]] w fun e w' => e = .returned (.bool true) ∧ ∃ q, w' = w.drewN q := by
  go_enter Tryz.func13, Tryz.ntmps13
  go_wp2_with fail
  refine wp_loop_rounds 1 ?_
  rw [rounds_succ]
  go_wp2
  go_ret
  exact ⟨rfl, 0, rfl⟩
theorem eqTab_any (w : World) (v v' : Value) (n : Nat) (f : Nat → Nat → Nat) (h : TabIs w v n f) (h' : TabIs w v' n f) (hn : n ≤ 1000) :
    Calls Tryz.prog 13 #[v, v', .func (.func 14) #[] #[]] w fun e w' => e = .returned (.bool true) ∧ ∃ q, w' = w.drewN q := by
  obtain ⟨g1, r1, rfl, hA⟩ := h
  obtain ⟨g2, r2, rfl, hB⟩ := h'
  have HA := Lib.hid hA
  have HB := Lib.hid hB
  clear hA hB
  go_enter Tryz.func13, Tryz.ntmps13
  go_wp2_with fail
  go_loopw [7, 8, 9, 17] (fun _ _ _ i wr => ∃ (k q : Nat), k ≤ n ∧ i = .int .i64 k ∧ wr = w.drewN q) (fun _ _ _ i _ => n - (intOf i).toNat)
  case atStart => exact ⟨0, 0, Nat.zero_le _, rfl, rfl⟩
  case round =>
    obtain ⟨k, q, hk, rfl, rfl⟩ := hrel
    by_cases hlt : k < n
    · have hk0 : (0 : Int) ≤ (k : Int) := by omega
      have hk1 : (k : Int) < (n : Int) := by omega
      have y0 := (HA.out.drewN q).tab.cell k hlt
      rw [if_pos hlt] at y0
      have y1 := (HA.out.drewN q).tab.lt
      have z0 := (HB.out.drewN q).tab.cell k hlt
      rw [if_pos hlt] at z0
      have z1 := (HB.out.drewN q).tab.lt
      have C := Lib.hid (equalT_ints (w.drewN q) (r1 k) (r2 k) ((List.range n).map fun j => (f k j : Int)) n n n (by simp)
        (((HA.out.drewN q).row k hlt).ints (by simp) (fun j hj => by simp)) (((HB.out.drewN q).row k hlt).ints (by simp) (fun j hj => by simp)) hn)
      generalize hwq : w.drewN q = wq at *
      have HWQ := Lib.hid hwq
      clear hwq
      go_wp2_with fail
      with_reducible refine C.out.mono ?_
      rintro e w2 ⟨rfl, q2, rfl⟩
      go_wp2_with fail
      go_roundw
      case rel => exact ⟨k + 1, q + q2, by omega, by go_num, by rw [← HWQ.out, World.drewN_drewN]⟩
      case measure => simp [intOf]; omega
    · go_wp2_with fail
      go_ret
      exact ⟨rfl, q, rfl⟩
end Go.Proofs.YtgdagknjnidmiaaGreatDoor
