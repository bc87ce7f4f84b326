/- Contracts of the references floor and CompareOf. -/
import Derived.Test.YtdnikegakcdcnaaRight
import Derived.Test.YtdnikegakcdcnaaFrac
set_option linter.unusedVariables false
namespace Go.Proofs.Ytdnikegakcdcnaa
open Go.RowKit

theorem ediv_of_tdiv (a b : Int) (hb : 1 ≤ b) : a / b = if a.tmod b < 0 then a.tdiv b - 1 else a.tdiv b := by
  have h1 := Int.mul_tdiv_add_tmod a b
  have h2 := Int.mul_ediv_add_emod a b
  have h3 := emod_of_tmod a b hb
  split
  · rename_i h
    rw [if_pos h] at h3
    have : b * (a / b) = b * (a.tdiv b - 1) := by rw [Int.mul_sub]; omega
    exact Int.eq_of_mul_eq_mul_left (by omega) this
  · rename_i h
    rw [if_neg h] at h3
    have : b * (a / b) = b * a.tdiv b := by omega
    exact Int.eq_of_mul_eq_mul_left (by omega) this
theorem floor_any (a b : Int) (w : World) (ha1 : -4611686018427387904 ≤ a) (ha2 : a ≤ 4611686018427387904) (hb : 1 ≤ b) (hb2 : b ≤ 4611686018427387904) :
    Calls Try.prog 53 #[.int .i64 a, .int .i64 b] w fun e w' => e = .returned (.int .i64 (a / b)) ∧ w = w' := by
  have HE := Lib.hid (ediv_of_tdiv a b hb)
  by_cases h0 : 0 ≤ a
  · have k1 := Int.emod_nonneg a (show b ≠ 0 by omega)
    have k2 : a / b ≤ a := Int.ediv_le_self b h0
    have k3 : 0 ≤ a / b := Int.ediv_nonneg h0 (by omega)
    go_enter Try.func53, Try.ntmps53
    go_wp2
    go_ret
    exact ⟨rfl, rfl⟩
  · have b1 := Frac.tdiv_abs_le a b
    obtain ⟨t1, t2⟩ := tmod_bd a b hb (by omega)
    go_enter Try.func53, Try.ntmps53
    go_wp2
    · go_ret
      exact ⟨ret_int (by rw [HE.out, if_pos (by assumption)]), rfl⟩
    · go_ret
      exact ⟨ret_int (by rw [HE.out, if_neg (by omega)]), rfl⟩

/-- what is left of a fraction behind its whole part lies below the denominator -/
theorem rest_bd (a b : Int) (hb : 1 ≤ b) : 0 ≤ a - a / b * b ∧ a - a / b * b < b := by
  have h := Int.mul_ediv_add_emod a b
  have h1 := Int.emod_nonneg a (show b ≠ 0 by omega)
  have h2 := Int.emod_lt_of_pos a (show 0 < b by omega)
  rw [Int.mul_comm] at h
  omega

set_option maxHeartbeats 1000000 in
theorem CompareOf_any (k : Nat) : ∀ (a b c d : Int) (w : World), b.toNat + d.toNat < k → -4611686018427387904 ≤ a → a ≤ 4611686018427387904 → 1 ≤ b → b ≤ 4611686018427387904 →
    -4611686018427387904 ≤ c → c ≤ 4611686018427387904 → 1 ≤ d → d ≤ 4611686018427387904 →
    Calls Try.prog 15 #[.agg #[.int .i64 a, .int .i64 b], .agg #[.int .i64 c, .int .i64 d]] w fun e w' => e = .returned (.int .i64 (Frac.cmpF a b c d)) ∧ Below w.heap.size w w' := by
  induction k with
  | zero => intro a b c d w h; omega
  | succ k ih =>
    intro a b c d w hk ha1 ha2 hb1 hb2 hc1 hc2 hd1 hd2
    have IH := Lib.hid ih
    clear ih
    obtain ⟨r1, r2⟩ := rest_bd a b hb1
    obtain ⟨s1, s2⟩ := rest_bd c d hd1
    have HN := Lib.hid (Frac.cmpF_floor_ne a b c d hb1 hd1)
    have HR := Lib.hid (Frac.cmpF_rest a b c d)
    have H0 := Lib.hid (Frac.cmpF_rest0 (a - a / b * b) b (c - c / d * d) d hb1 hd1 r1 s1)
    have q1 : a / b ≤ 4611686018427387904 := Int.le_trans (Int.ediv_le_ediv (by omega) ha2) (Int.ediv_le_self b (by omega))
    have q2 : -4611686018427387904 ≤ a / b := by
      have : -4611686018427387904 ≤ (-4611686018427387904) / b := by
        rw [Int.le_ediv_iff_mul_le (by omega)]
        have := Int.mul_le_mul_of_nonneg_left hb1 (show (0:Int) ≤ 4611686018427387904 by omega)
        omega
      exact Int.le_trans this (Int.ediv_le_ediv (by omega) ha1)
    have q3 : c / d ≤ 4611686018427387904 := Int.le_trans (Int.ediv_le_ediv (by omega) hc2) (Int.ediv_le_self d (by omega))
    have q4 : -4611686018427387904 ≤ c / d := by
      have : -4611686018427387904 ≤ (-4611686018427387904) / d := by
        rw [Int.le_ediv_iff_mul_le (by omega)]
        have := Int.mul_le_mul_of_nonneg_left hd1 (show (0:Int) ≤ 4611686018427387904 by omega)
        omega
      exact Int.le_trans this (Int.ediv_le_ediv (by omega) hc1)
    have p1 : -9223372036854775808 ≤ a / b * b := by omega
    have p2 : a / b * b ≤ 9223372036854775807 := by omega
    have p3 : -9223372036854775808 ≤ c / d * d := by omega
    have p4 : c / d * d ≤ 9223372036854775807 := by omega
    have HF1 := Lib.hid (fun w => floor_any a b w ha1 ha2 hb1 hb2)
    have HF2 := Lib.hid (fun w => floor_any c d w hc1 hc2 hd1 hd2)
    generalize hx : a / b = x at *
    generalize hy : c / d = y at *
    clear hx hy
    generalize hxb : x * b = xb at *
    generalize hyd : y * d = yd at *
    have HXB := Lib.hid hxb
    have HYD := Lib.hid hyd
    clear hxb hyd
    go_enter Try.func15, Try.ntmps15
    go_wp2_with fail
    go_quiet ((go_at_call 53; first | (with_reducible exact quiet_left (HF1.out _)) | (with_reducible exact quiet_left (HF2.out _))))
    go_wp2_with fail
    have hxb := HXB.out
    have hyd := HYD.out
    go_quiet (fail)
    clear hxb hyd
    generalize a - xb = r at *
    generalize c - yd = s at *
    by_cases hxy : x = y
    · have e1 : (x != y) = false := by simp [hxy]
      have HR' := Lib.hid (HR.out hxy)
      clear hxy
      by_cases hr0 : r = 0
      · subst hr0
        have HC := Lib.hid (HR'.out.trans (H0.out (.inl rfl)))
        go_wp2_with fail
        with_reducible refine (compare_int _ _ _).mono ?_
        rintro e w' ⟨rfl, rfl⟩
        go_wp2
        go_ret
        exact ⟨ret_int HC.out.symm, below_drewN (by go_grown) _⟩
      · have e2 : (r == 0) = false := by simp [hr0]
        by_cases hs0 : s = 0
        · subst hs0
          have HC := Lib.hid (HR'.out.trans (H0.out (.inr rfl)))
          clear hr0
          go_wp2_with fail
          with_reducible refine (compare_int _ _ _).mono ?_
          rintro e w' ⟨rfl, rfl⟩
          go_wp2
          go_ret
          exact ⟨ret_int HC.out.symm, below_drewN (by go_grown) _⟩
        · have e3 : (s == 0) = false := by simp [hs0]
          have HC := Lib.hid (HR'.out.trans (Frac.cmpF_turn r b s d).symm)
          have hr1 : 1 ≤ r := by omega
          have hs1 : 1 ≤ s := by omega
          clear hr0 hs0
          go_wp2_with fail
          with_reducible refine (IH.out d s b r _ (by omega) (by omega) (by omega) hs1 (by omega) (by omega) (by omega) hr1 (by omega)).mono ?_
          rintro e w' ⟨rfl, hb⟩
          go_wp2
          go_ret
          refine ⟨ret_int HC.out.symm, ?_⟩
          exact Below.trans (below_drewN (((Below.refl _ _).alloc (Nat.le_refl _) _).alloc (by simp) _) _) (hb.mono (by simp; omega))
    · have e1 : (x != y) = true := by simp [hxy]
      have HC := Lib.hid (HN.out hxy)
      clear hxy
      go_wp2_with fail
      with_reducible refine (compare_int _ _ _).mono ?_
      rintro e w' ⟨rfl, rfl⟩
      go_wp2
      go_ret
      exact ⟨ret_int HC.out.symm, below_drewN (by go_grown) _⟩
end Go.Proofs.Ytdnikegakcdcnaa
