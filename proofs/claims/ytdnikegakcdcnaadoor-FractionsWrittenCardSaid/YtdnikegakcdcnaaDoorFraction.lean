/- The contract of the maker Fraction. -/
import Derived.Test.YtdnikegakcdcnaaDoorPart
import Derived.Test.YtdnikegakcdcnaaDoorMem
set_option linter.unusedVariables false
namespace Go.Proofs.YtdnikegakcdcnaaDoor
open Go.RowKit

/-- what a call that draws a fraction from the stream leaves -/
def GenF (S : SC) (K : Nat) (w : World) (e : Ending) (w' : World) : Prop :=
  ∃ n d : Int, I64 n ∧ I64 d ∧ e = .returned (.agg #[.int .i64 n, .int .i64 d]) ∧ w.grownBy w' (some S.g) ∧ Strm w' S K
theorem i64_wrap (x : Int) : I64 (wrap64 x) := wrap64_bd x
theorem i64_ediv {a x : Int} (h0 : 0 ≤ a) (h : a ≤ 9223372036854775807) (hx : 1 ≤ x) : I64 (a / x) := by
  have h1 : a / x ≤ a := Int.ediv_le_self x h0
  have h2 : 0 ≤ a / x := Int.ediv_nonneg h0 (by omega)
  unfold I64; omega
theorem i64_tdiv {a : Int} (x : Int) (h0 : -9223372036854775807 ≤ a) (h : a ≤ 9223372036854775807) : I64 (a.tdiv x) := by
  have := Frac.tdiv_abs_le a x
  unfold I64; omega

set_option maxHeartbeats 4000000 in
theorem fraction_any (S : SC) (K : Nat) (w : World) (hs : Strm w S K) (hK : K + 5 ≤ 1099511627776) :
    Calls Tryd.prog 87 #[S.p] w (GenF S (K + 5) w) := by
  have hgs := strm_lt hs
  go_enter Tryd.func87, Tryd.ntmps87
  go_wp2_with fail
  have hs0 := strm_alloc hs (.cells #[.int .i64 0, .int .i64 0] 117)
  with_reducible refine (part_any S K _ hs0 (by omega)).mono ?_
  rintro e w1 ⟨a, ⟨ha1, ha2⟩, rfl, g1, s1⟩
  go_wp2_with fail
  with_reducible refine (part_any S (K + 2) _ s1 (by omega)).mono ?_
  rintro e w2 ⟨b, ⟨hb1, hb2⟩, rfl, g2, s2⟩
  go_wp2_with fail
  with_reducible refine (flip_any S (K + 4) _ _ s2 (by omega) (by omega)).mono ?_
  rintro e w3 ⟨f, rfl, g3, s3⟩
  have gg := grown_trans (grown_trans g1 g2) g3
  clear g1 g2 g3 s1 s2 hs0
  have hne : some w.heap.size ≠ some S.g := by simp; omega
  have c0 : w3.cell? ⟨w.heap.size, 0, none⟩ = some (.int .i64 0) := gg.cell (by go_simp) hne
  have c1 : w3.cell? ⟨w.heap.size, 1, none⟩ = some (.int .i64 0) := gg.cell (by go_simp) hne
  have f0 : w3.frozen? ⟨w.heap.size, 0, none⟩ = false := (gg.frozen_far ⟨w.heap.size, 0, none⟩ (by simp) hne).trans (by go_simp)
  have f1 : w3.frozen? ⟨w.heap.size, 1, none⟩ = false := (gg.frozen_far ⟨w.heap.size, 1, none⟩ (by simp) hne).trans (by go_simp)
  have gw : w.grownBy w3 (some S.g) := grown_trans (World.grownBy_alloc w _ _) gg
  have HG := Lib.hid gw
  clear gg hne gw
  cases f with
  | true =>
    go_wp2
    refine bodyPost_ret (v := .agg #[.int .i64 a, .int .i64 b]) (by simp [results, Tryd.results87, go_sem, c0, c1]) rfl ⟨a, b, ⟨ha1, ha2⟩, ⟨hb1, hb2⟩, rfl, ?_, ?_⟩
    · exact grown_set (grown_set HG.out (.inr (Nat.le_refl _)) _) (.inr (Nat.le_refl _)) _
    · exact strm_set (strm_set s3 hgs _) hgs _
  | false =>
    rcases (show b < 1 ∨ (1 ≤ b ∧ b ≤ 4611686018427387904) ∨ 4611686018427387904 < b by omega) with hb | ⟨hb, hb'⟩ | hb <;>
    rcases (show 4611686018427387904 < a ∨ a < -4611686018427387904 ∨ (0 ≤ a ∧ a ≤ 4611686018427387904) ∨ (-4611686018427387904 ≤ a ∧ a < 0) by omega) with ha | ha | ⟨ha, ha'⟩ | ⟨ha, ha'⟩
    all_goals
      go_wp2_with fail
      go_loopw [5, 6] (fun x y wr => ∃ (X Y : Int) (m : Nat), 0 ≤ X ∧ X ≤ 4611686018427387904 ∧ 0 ≤ Y ∧ Y ≤ 4611686018427387904 ∧ 1 ≤ X + Y ∧ x = .int .i64 X ∧ y = .int .i64 Y ∧ wr = w3.drewN m) (fun _ y _ => (intOf y).toNat)
      case atStart => exact ⟨_, _, 0, by omega, by omega, by omega, by omega, by omega, rfl, rfl, rfl⟩
      case round =>
        obtain ⟨X, Y, m, x0, x1, y0, y1, xy, rfl, rfl, rfl⟩ := hrel
        by_cases hY : Y = 0
        · subst hY
          have hX : (X == 0) = false := by simp; omega
          have hX1 : 1 ≤ X := by omega
          go_wp2_with fail
          go_region
          go_wp2
          refine bodyPost_ret (by simp [results, Tryd.results87, go_sem, c0, c1]; exact ⟨rfl, rfl⟩) rfl ⟨_, _, ?_, ?_, rfl, ?_, ?_⟩
          · first | exact i64_ediv (by omega) (by omega) hX1 | exact i64_tdiv _ (by omega) (by omega) | exact i64_wrap _ | (unfold I64; omega)
          · first | exact i64_ediv (by omega) (by omega) hX1 | exact i64_tdiv _ (by omega) (by omega) | exact i64_wrap _ | (unfold I64; omega)
          · exact grown_set (grown_set (grownBy_drewN HG.out _) (.inr (Nat.le_refl _)) _) (.inr (Nat.le_refl _)) _
          · exact strm_set (strm_set (strm_drewN s3 _) hgs _) hgs _
        · have hY1 : 1 ≤ Y := by omega
          have hYne : (Y != 0) = true := by simp [hY]
          have k1 := Int.emod_nonneg X hY
          have k2 := Int.emod_lt_of_pos X (show 0 < Y by omega)
          clear hY
          go_wp2_with fail
          go_quiet (fail)
          go_wp2
          go_roundw
          case rel => exact ⟨Y, X % Y, _, by omega, by omega, k1, by omega, by omega, rfl, rfl, World.drewN_drewN ..⟩
          case measure => simp [intOf]; omega
end Go.Proofs.YtdnikegakcdcnaaDoor
