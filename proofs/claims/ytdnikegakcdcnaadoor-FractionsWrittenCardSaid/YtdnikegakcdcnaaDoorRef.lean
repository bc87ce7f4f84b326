/- Contracts of the references of fractions: common, reduced, ReduceOf, FractionOf. -/
import Derived.Test.YtdnikegakcdcnaaDoorRight
set_option linter.unusedVariables false
namespace Go.Proofs.YtdnikegakcdcnaaDoor
open Go.RowKit

theorem common_any (a b : Nat) (w : World) (ha : a < 9223372036854775808) (hb : b < 9223372036854775808) :
    Calls Tryd.prog 234 #[.int .i64 a, .int .i64 b] w (Drw (.int .i64 (Nat.gcd a b)) w) := by
  go_enter Tryd.func234, Tryd.ntmps234
  go_wp2
  go_loopw [0, 1] (fun u v wr => ∃ x y m : Nat, x < 9223372036854775808 ∧ y < 9223372036854775808 ∧ u = .int .i64 x ∧ v = .int .i64 y ∧ Hid (Nat.gcd x y = Nat.gcd a b) ∧ wr = w.drewN m) (fun _ v _ => (intOf v).toNat)
  case atStart => exact ⟨a, b, 0, ha, hb, rfl, rfl, rfl, rfl⟩
  case round =>
    obtain ⟨x, y, m, hx, hy, rfl, rfl, HG, rfl⟩ := hrel
    by_cases h : y = 0
    · subst h
      go_wp2
      go_ret
      exact ⟨ret_int (by rw [← HG.out, Nat.gcd_zero_right]), m, rfl⟩
    · have hlt : x % y < y := Nat.mod_lt _ (by omega)
      have hne : ((y : Int) != 0) = true := by simp; omega
      go_wp2
      go_quiet (fail)
      go_wp2
      go_roundw
      case rel =>
        refine ⟨y, x % y, _, hy, by omega, rfl, by go_num, ?_, World.drewN_drewN ..⟩
        show Nat.gcd y (x % y) = Nat.gcd a b
        rw [← HG.out, Nat.gcd_comm x y, Nat.gcd_rec y x, Nat.gcd_comm]
      case measure =>
        simp [intOf]
        omega
theorem common_int (a b : Int) (w : World) (ha0 : 0 ≤ a) (hb0 : 0 ≤ b) (ha : a < 9223372036854775808) (hb : b < 9223372036854775808) :
    Calls Tryd.prog 234 #[.int .i64 a, .int .i64 b] w (Drw (.int .i64 (Nat.gcd a.natAbs b.natAbs)) w) := by
  obtain ⟨x, rfl⟩ := Int.eq_ofNat_of_zero_le ha0
  obtain ⟨y, rfl⟩ := Int.eq_ofNat_of_zero_le hb0
  simp only [Int.natAbs_natCast]
  exact common_any x y w (by omega) (by omega)
theorem reduced_nz (D : Int) (w : World) (h1 : 1 ≤ D) (h2 : D ≤ 4611686018427387904) :
    Calls Tryd.prog 216 #[.int .i64 0, .int .i64 (-D)] w fun e w' => e = .returned (.agg #[.int .i64 0, .int .i64 1]) ∧ Below w.heap.size w w' := by
  have HG := Lib.hid (show Nat.gcd (0 : Int).natAbs D.natAbs = D.natAbs by simp)
  have HD := Lib.hid (show ((D.natAbs : Nat) : Int) = D by omega)
  have HT := Lib.hid (show D / D = 1 from Int.ediv_self (by omega))
  go_enter Tryd.func216, Tryd.ntmps216
  go_wp2_with fail
  with_reducible refine (common_int _ _ _ (by omega) (by omega) (by omega) (by omega)).mono ?_
  rintro e w' ⟨rfl, m, rfl⟩
  simp only [Int.natAbs_zero, Nat.gcd_zero_left, HD.out]
  have hne : (D == 0) = false := by simp; omega
  have hq := HT.out
  go_wp2_with fail
  go_region
  go_wp2
  go_returns
  refine ⟨rfl, ?_⟩
  exact Below.setCell (Below.setCell (below_drewN ((Below.refl _ _).alloc (Nat.le_refl _) _) _) (Nat.le_refl _) _) (Nat.le_refl _) _
theorem reduced_pp (n d : Int) (w : World) (hd : 1 ≤ d) (hn : 0 ≤ n) (hd1 : -4611686018427387904 ≤ d) (hd2 : d ≤ 4611686018427387904) (hn1 : -4611686018427387904 ≤ n) (hn2 : n ≤ 4611686018427387904) :
    Calls Tryd.prog 216 #[.int .i64 n, .int .i64 d] w fun e w' => e = .returned (.agg #[.int .i64 (Frac.redN n d), .int .i64 (Frac.redD n d)]) ∧ Below w.heap.size w w' := by
  have hp := Frac.gg_pos n d (by omega)
  have hl := Frac.gg_le n d (by omega)
  have eN : Frac.redN n d = (n.tdiv (Frac.gg n d)) := by unfold Frac.redN; rw [if_neg (by omega)]
  have eD : Frac.redD n d = (d.tdiv (Frac.gg n d)) := by unfold Frac.redD; rw [if_neg (by omega)]
  have b1 := Frac.tdiv_abs_le n (Frac.gg n d)
  have b2 := Frac.tdiv_abs_le d (Frac.gg n d)
  unfold Frac.gg at *
  rw [eN, eD]
  clear eN eD
  generalize hG : Nat.gcd n.natAbs d.natAbs = G at *
  have HG := Lib.hid hG
  clear hG
  go_enter Tryd.func216, Tryd.ntmps216
  go_wp2_with fail
  with_reducible refine (common_int _ _ _ (by omega) (by omega) (by omega) (by omega)).mono ?_
  rintro e w' ⟨rfl, m, rfl⟩
  simp only [HG.out]
  have hne : ((G : Int) == 0) = false := by simp; omega
  go_wp2_with fail
  go_region
  go_wp2
  go_returns
  refine ⟨rfl, ?_⟩
  exact Below.setCell (Below.setCell (below_drewN ((Below.refl _ _).alloc (Nat.le_refl _) _) _) (Nat.le_refl _) _) (Nat.le_refl _) _
theorem reduced_pn (n d : Int) (w : World) (hd : 1 ≤ d) (hn : n < 0) (hd1 : -4611686018427387904 ≤ d) (hd2 : d ≤ 4611686018427387904) (hn1 : -4611686018427387904 ≤ n) (hn2 : n ≤ 4611686018427387904) :
    Calls Tryd.prog 216 #[.int .i64 n, .int .i64 d] w fun e w' => e = .returned (.agg #[.int .i64 (Frac.redN n d), .int .i64 (Frac.redD n d)]) ∧ Below w.heap.size w w' := by
  have hp := Frac.gg_pos n d (by omega)
  have hl := Frac.gg_le n d (by omega)
  have eN : Frac.redN n d = (n.tdiv (Frac.gg n d)) := by unfold Frac.redN; rw [if_neg (by omega)]
  have eD : Frac.redD n d = (d.tdiv (Frac.gg n d)) := by unfold Frac.redD; rw [if_neg (by omega)]
  have b1 := Frac.tdiv_abs_le n (Frac.gg n d)
  have b2 := Frac.tdiv_abs_le d (Frac.gg n d)
  unfold Frac.gg at *
  rw [eN, eD]
  clear eN eD
  generalize hG : Nat.gcd n.natAbs d.natAbs = G at *
  have HG := Lib.hid hG
  clear hG
  go_enter Tryd.func216, Tryd.ntmps216
  go_wp2_with fail
  with_reducible refine (common_int _ _ _ (by omega) (by omega) (by omega) (by omega)).mono ?_
  rintro e w' ⟨rfl, m, rfl⟩
  simp only [Int.natAbs_neg, HG.out]
  have hne : ((G : Int) == 0) = false := by simp; omega
  go_wp2_with fail
  go_region
  go_wp2
  go_returns
  refine ⟨rfl, ?_⟩
  exact Below.setCell (Below.setCell (below_drewN ((Below.refl _ _).alloc (Nat.le_refl _) _) _) (Nat.le_refl _) _) (Nat.le_refl _) _
theorem reduced_np (n d : Int) (w : World) (hd : d < 0) (hn : 0 < n) (hd1 : -4611686018427387904 ≤ d) (hd2 : d ≤ 4611686018427387904) (hn1 : -4611686018427387904 ≤ n) (hn2 : n ≤ 4611686018427387904) :
    Calls Tryd.prog 216 #[.int .i64 n, .int .i64 d] w fun e w' => e = .returned (.agg #[.int .i64 (Frac.redN n d), .int .i64 (Frac.redD n d)]) ∧ Below w.heap.size w w' := by
  have hp := Frac.gg_pos n d (by omega)
  have hl := Frac.gg_le n d (by omega)
  have eN : Frac.redN n d = -(n.tdiv (Frac.gg n d)) := by unfold Frac.redN; rw [if_pos (by omega), Int.neg_tdiv]
  have eD : Frac.redD n d = -(d.tdiv (Frac.gg n d)) := by unfold Frac.redD; rw [if_pos (by omega), Int.neg_tdiv]
  have b1 := Frac.tdiv_abs_le n (Frac.gg n d)
  have b2 := Frac.tdiv_abs_le d (Frac.gg n d)
  unfold Frac.gg at *
  rw [eN, eD]
  clear eN eD
  generalize hG : Nat.gcd n.natAbs d.natAbs = G at *
  have HG := Lib.hid hG
  clear hG
  go_enter Tryd.func216, Tryd.ntmps216
  go_wp2_with fail
  with_reducible refine (common_int _ _ _ (by omega) (by omega) (by omega) (by omega)).mono ?_
  rintro e w' ⟨rfl, m, rfl⟩
  simp only [Int.natAbs_neg, HG.out]
  have hne : ((G : Int) == 0) = false := by simp; omega
  go_wp2_with fail
  go_region
  go_wp2
  go_returns
  refine ⟨rfl, ?_⟩
  exact Below.setCell (Below.setCell (below_drewN ((Below.refl _ _).alloc (Nat.le_refl _) _) _) (Nat.le_refl _) _) (Nat.le_refl _) _
theorem reduced_nn (n d : Int) (w : World) (hd : d < 0) (hn : n < 0) (hd1 : -4611686018427387904 ≤ d) (hd2 : d ≤ 4611686018427387904) (hn1 : -4611686018427387904 ≤ n) (hn2 : n ≤ 4611686018427387904) :
    Calls Tryd.prog 216 #[.int .i64 n, .int .i64 d] w fun e w' => e = .returned (.agg #[.int .i64 (Frac.redN n d), .int .i64 (Frac.redD n d)]) ∧ Below w.heap.size w w' := by
  have hp := Frac.gg_pos n d (by omega)
  have hl := Frac.gg_le n d (by omega)
  have eN : Frac.redN n d = -(n.tdiv (Frac.gg n d)) := by unfold Frac.redN; rw [if_pos (by omega), Int.neg_tdiv]
  have eD : Frac.redD n d = -(d.tdiv (Frac.gg n d)) := by unfold Frac.redD; rw [if_pos (by omega), Int.neg_tdiv]
  have b1 := Frac.tdiv_abs_le n (Frac.gg n d)
  have b2 := Frac.tdiv_abs_le d (Frac.gg n d)
  unfold Frac.gg at *
  rw [eN, eD]
  clear eN eD
  generalize hG : Nat.gcd n.natAbs d.natAbs = G at *
  have HG := Lib.hid hG
  clear hG
  go_enter Tryd.func216, Tryd.ntmps216
  go_wp2_with fail
  with_reducible refine (common_int _ _ _ (by omega) (by omega) (by omega) (by omega)).mono ?_
  rintro e w' ⟨rfl, m, rfl⟩
  simp only [Int.natAbs_neg, HG.out]
  have hne : ((G : Int) == 0) = false := by simp; omega
  go_wp2_with fail
  go_region
  go_wp2
  go_returns
  refine ⟨rfl, ?_⟩
  exact Below.setCell (Below.setCell (below_drewN ((Below.refl _ _).alloc (Nat.le_refl _) _) _) (Nat.le_refl _) _) (Nat.le_refl _) _
theorem reduced_any (n d : Int) (w : World) (hd : d ≠ 0) (hd1 : -4611686018427387904 ≤ d) (hd2 : d ≤ 4611686018427387904) (hn1 : -4611686018427387904 ≤ n) (hn2 : n ≤ 4611686018427387904) :
    Calls Tryd.prog 216 #[.int .i64 n, .int .i64 d] w fun e w' => e = .returned (.agg #[.int .i64 (Frac.redN n d), .int .i64 (Frac.redD n d)]) ∧ Below w.heap.size w w' := by
  by_cases h : d < 0
  · by_cases h' : 0 ≤ n
    · by_cases h0 : n = 0
      · subst h0
        obtain ⟨D, rfl⟩ : ∃ D : Int, d = -D := ⟨-d, by omega⟩
        have e1 : Frac.redN 0 (-D) = 0 := by unfold Frac.redN; simp
        have e2 : Frac.redD 0 (-D) = 1 := by
          unfold Frac.redD Frac.gg
          rw [if_pos h, Int.neg_neg, Int.natAbs_zero, Nat.gcd_zero_left, Int.natAbs_neg, Int.natAbs_of_nonneg (by omega), Int.tdiv_self (by omega)]
        rw [e1, e2]
        exact reduced_nz D w (by omega) (by omega)
      · exact reduced_np n d w h (by omega) hd1 hd2 hn1 hn2
    · exact reduced_nn n d w h (by omega) hd1 hd2 hn1 hn2
  · by_cases h' : 0 ≤ n
    · exact reduced_pp n d w (by omega) h' hd1 hd2 hn1 hn2
    · exact reduced_pn n d w (by omega) (by omega) hd1 hd2 hn1 hn2
end Go.Proofs.YtdnikegakcdcnaaDoor
