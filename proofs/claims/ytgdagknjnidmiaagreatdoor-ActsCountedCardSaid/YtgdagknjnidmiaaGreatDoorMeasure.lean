/- Contracts of measure's arithmetic of fractions: divisor, size, within, reduce, isRight, cmp's Compare. -/
import Derived.Test.YtgdagknjnidmiaaGreatDoorStream
import Derived.Test.YtgdagknjnidmiaaGreatDoorFrac
import Derived.Handy
namespace Go.Proofs.YtgdagknjnidmiaaGreatDoor
open Go.RowKit

/-- a call that returns v and leaves the world but for draws -/
def Drw (v : Value) (w : World) (e : Ending) (w' : World) : Prop := e = .returned v ∧ ∃ n, w' = w.drewN n

theorem below_drewN {B : Nat} {a w : World} (h : Below B a w) (n : Nat) : Below B a (w.drewN n) := ⟨h.os, h.tape, h.output, h.size, h.block⟩

theorem divisor_any (a b : Nat) (w : World) (ha : a < 18446744073709551616) (hb : b < 18446744073709551616) :
    Calls Tryz.prog 105 #[.int .u64 a, .int .u64 b] w (Drw (.int .u64 (Nat.gcd a b)) w) := by
  go_enter Tryz.func105, Tryz.ntmps105
  go_wp2
  go_loopw [0, 1] (fun u v wr => ∃ x y m : Nat, x < 18446744073709551616 ∧ y < 18446744073709551616 ∧ u = .int .u64 x ∧ v = .int .u64 y ∧ Hid (Nat.gcd x y = Nat.gcd a b) ∧ wr = w.drewN m) (fun _ v _ => (intOf v).toNat)
  case atStart => exact ⟨a, b, 0, ha, hb, rfl, rfl, rfl, rfl⟩
  case round =>
    obtain ⟨x, y, m, hx, hy, rfl, rfl, HG, rfl⟩ := hrel
    by_cases h : y = 0
    · subst h
      go_wp2
      go_ret
      exact ⟨ret_int (by rw [← HG.out, Nat.gcd_zero_right]), m, rfl⟩
    · have hlt : x % y < y := Nat.mod_lt _ (by omega)
      have hne : ((y : Int) != 0) = true := by simp; omega
      go_wp2
      go_quiet (fail)
      go_wp2
      go_roundw
      case rel =>
        refine ⟨y, x % y, _, hy, by omega, rfl, by go_num, ?_, World.drewN_drewN ..⟩
        show Nat.gcd y (x % y) = Nat.gcd a b
        rw [← HG.out, Nat.gcd_comm x y, Nat.gcd_rec y x, Nat.gcd_comm]
      case measure =>
        simp [intOf]
        omega

theorem size_any (n : Int) (w : World) (h1 : -9223372036854775808 ≤ n) (h2 : n ≤ 9223372036854775807) :
    Calls Tryz.prog 106 #[.int .i64 n] w fun e w' => e = .returned (.int .u64 (n.natAbs : Int)) ∧ w = w' := by
  by_cases h : n < 0
  · go_enter Tryz.func106, Tryz.ntmps106
    go_wp2
    go_ret
    exact ⟨ret_int (by simp only [IntKind.wrap_u64]; omega), rfl⟩
  · go_enter Tryz.func106, Tryz.ntmps106
    go_wp2
    go_ret
    exact ⟨ret_int (by omega), rfl⟩

theorem within_yes (n lo hi : Int) (w : World) (h1 : lo ≤ n) (h2 : n ≤ hi) :
    Calls Tryz.prog 30 #[.int .i64 n, .int .i64 lo, .int .i64 hi] w fun e w' => e = .returned (.bool true) ∧ w = w' := by
  go_enter Tryz.func30, Tryz.ntmps30
  go_wp2
  go_ret
  exact ⟨rfl, rfl⟩
theorem within_no (n lo hi : Int) (w : World) (h : n < lo ∨ hi < n) :
    Calls Tryz.prog 30 #[.int .i64 n, .int .i64 lo, .int .i64 hi] w fun e w' => e = .returned (.bool false) ∧ w = w' := by
  by_cases h1 : n < lo
  · have h1' : ¬ lo ≤ n := by omega
    go_enter Tryz.func30, Tryz.ntmps30
    go_wp2
    go_ret
    exact ⟨rfl, rfl⟩
  · have h2 : ¬ n ≤ hi := by omega
    have h3 : lo ≤ n := by omega
    clear h
    go_enter Tryz.func30, Tryz.ntmps30
    go_wp2
    go_ret
    exact ⟨rfl, rfl⟩
/-- the value of a fraction -/
def fr (n d : Int) : Value := .agg #[.int .i64 n, .int .i64 d]
theorem reduce_pos (n d : Int) (w : World) (hd : 1 ≤ d) (hd2 : d ≤ 4611686018427387904) (hn1 : -4611686018427387904 ≤ n) (hn2 : n ≤ 4611686018427387904) :
    Calls Tryz.prog 74 #[.int .i64 n, .int .i64 d] w fun e w' => e = .returned (fr (Frac.redN n d) (Frac.redD n d)) ∧ Below w.heap.size w w' := by
  have hp := Frac.gg_pos n d (by omega)
  have hl := Frac.gg_le n d (by omega)
  have eN : Frac.redN n d = n.tdiv (Frac.gg n d) := by unfold Frac.redN; rw [if_neg (by omega)]
  have eD : Frac.redD n d = d.tdiv (Frac.gg n d) := by unfold Frac.redD; rw [if_neg (by omega)]
  have b1 := Frac.tdiv_abs_le n (Frac.gg n d)
  have b2 := Frac.tdiv_abs_le d (Frac.gg n d)
  unfold Frac.gg at *
  rw [eN, eD]
  clear eN eD
  generalize hG : Nat.gcd n.natAbs d.natAbs = G at *
  have HG := Lib.hid hG
  clear hG
  go_enter Tryz.func74, Tryz.ntmps74
  go_wp2_with fail
  with_reducible refine (size_any _ _ (by omega) (by omega)).mono ?_
  rintro e w' ⟨rfl, rfl⟩
  go_wp2_with fail
  with_reducible refine (size_any _ _ (by omega) (by omega)).mono ?_
  rintro e w' ⟨rfl, rfl⟩
  go_wp2_with fail
  with_reducible refine (divisor_any _ _ _ (by omega) (by omega)).mono ?_
  rintro e w' ⟨rfl, m, rfl⟩
  rw [HG.out]
  have hne : ((G : Int) == 0) = false := by simp; omega
  go_wp2_with fail
  go_region
  go_wp2
  go_returns
  refine ⟨rfl, ?_⟩
  exact Below.setCell (Below.setCell (below_drewN ((Below.refl _ _).alloc (Nat.le_refl _) _) _) (Nat.le_refl _) _) (Nat.le_refl _) _
theorem reduce_neg (n d : Int) (w : World) (hd : d < 0) (hd2 : -4611686018427387904 ≤ d) (hn1 : -4611686018427387904 ≤ n) (hn2 : n ≤ 4611686018427387904) :
    Calls Tryz.prog 74 #[.int .i64 n, .int .i64 d] w fun e w' => e = .returned (fr (Frac.redN n d) (Frac.redD n d)) ∧ Below w.heap.size w w' := by
  have hp := Frac.gg_pos n d (by omega)
  have hl := Frac.gg_le n d (by omega)
  have eN : Frac.redN n d = -(n.tdiv (Frac.gg n d)) := by unfold Frac.redN; rw [if_pos (by omega), Int.neg_tdiv]
  have eD : Frac.redD n d = -(d.tdiv (Frac.gg n d)) := by unfold Frac.redD; rw [if_pos (by omega), Int.neg_tdiv]
  have b1 := Frac.tdiv_abs_le n (Frac.gg n d)
  have b2 := Frac.tdiv_abs_le d (Frac.gg n d)
  have e3 := Frac.gg_neg n d
  unfold Frac.gg at *
  rw [eN, eD]
  clear eN eD
  generalize hG : Nat.gcd n.natAbs d.natAbs = G at *
  have HG := Lib.hid hG
  clear hG e3
  go_enter Tryz.func74, Tryz.ntmps74
  go_wp2_with fail
  with_reducible refine (size_any _ _ (by omega) (by omega)).mono ?_
  rintro e w' ⟨rfl, rfl⟩
  go_wp2_with fail
  with_reducible refine (size_any _ _ (by omega) (by omega)).mono ?_
  rintro e w' ⟨rfl, rfl⟩
  go_wp2_with fail
  with_reducible refine (divisor_any _ _ _ (by omega) (by omega)).mono ?_
  rintro e w' ⟨rfl, m, rfl⟩
  rw [HG.out]
  have hne : ((G : Int) == 0) = false := by simp; omega
  go_wp2_with fail
  go_region
  go_wp2
  go_returns
  refine ⟨rfl, ?_⟩
  exact Below.setCell (Below.setCell (below_drewN ((Below.refl _ _).alloc (Nat.le_refl _) _) _) (Nat.le_refl _) _) (Nat.le_refl _) _
theorem reduce_any (n d : Int) (w : World) (hd : d ≠ 0) (hd1 : -4611686018427387904 ≤ d) (hd2 : d ≤ 4611686018427387904) (hn1 : -4611686018427387904 ≤ n) (hn2 : n ≤ 4611686018427387904) :
    Calls Tryz.prog 74 #[.int .i64 n, .int .i64 d] w fun e w' => e = .returned (fr (Frac.redN n d) (Frac.redD n d)) ∧ Below w.heap.size w w' := by
  by_cases h : d < 0
  · exact reduce_neg n d w h hd1 hn1 hn2
  · exact reduce_pos n d w (by omega) hd2 hn1 hn2

theorem isNaN_int (n : Int) (w : World) : Calls Tryz.prog 140 #[.int .i64 n] w fun e w' => e = .returned (.bool false) ∧ w = w' := by
  go_enter Tryz.func140, Tryz.ntmps140
  go_wp2
  go_ret
  exact ⟨rfl, rfl⟩
theorem compare_int (x y : Int) (w : World) : Calls Tryz.prog 112 #[.int .i64 x, .int .i64 y] w fun e w' => e = .returned (.int .i64 (Frac.cmpI x y)) ∧ w = w' := by
  rcases Frac.cmpI_cases x y with ⟨h, k⟩ | ⟨h, k⟩ | ⟨h, k⟩
  · rw [k]; clear k
    go_enter Tryz.func112, Tryz.ntmps112
    go_wp2_with (go_at_call 140; refine (isNaN_int _ _).mono ?_; rintro e w' ⟨rfl, rfl⟩)
    go_ret
    exact ⟨rfl, rfl⟩
  · rw [k]; clear k; subst h
    go_enter Tryz.func112, Tryz.ntmps112
    go_wp2_with (go_at_call 140; refine (isNaN_int _ _).mono ?_; rintro e w' ⟨rfl, rfl⟩)
    go_ret
    exact ⟨rfl, rfl⟩
  · rw [k]; clear k
    have h2 : ¬ x < y := by omega
    go_enter Tryz.func112, Tryz.ntmps112
    go_wp2_with (go_at_call 140; refine (isNaN_int _ _).mono ?_; rintro e w' ⟨rfl, rfl⟩)
    go_ret
    exact ⟨rfl, rfl⟩
end Go.Proofs.YtgdagknjnidmiaaGreatDoor
