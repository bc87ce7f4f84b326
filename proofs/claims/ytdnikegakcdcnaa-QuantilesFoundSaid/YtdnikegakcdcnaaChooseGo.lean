/- Contracts of measure.choose, measure.Choose. -/
import Derived.Test.YtdnikegakcdcnaaRight
import Derived.Test.YtdnikegakcdcnaaChoose
set_option linter.unusedVariables false
namespace Go.Proofs.Ytdnikegakcdcnaa
open Go.RowKit

theorem divisor_int (a b : Int) (w : World) (ha0 : 0 ≤ a) (hb0 : 0 ≤ b) (ha : a < 18446744073709551616) (hb : b < 18446744073709551616) :
    Calls Try.prog 77 #[.int .u64 a, .int .u64 b] w (Drw (.int .u64 (Nat.gcd a.toNat b.toNat)) w) := by
  obtain ⟨x, rfl⟩ := Int.eq_ofNat_of_zero_le ha0
  obtain ⟨y, rfl⟩ := Int.eq_ofNat_of_zero_le hb0
  simp only [Int.toNat_natCast]
  exact divisor_any x y w (by omega) (by omega)

theorem ch_bd (n k : Nat) (hn : n ≤ 60) : Choose.ch n k ≤ 1152921504606846976 := by
  have h1 := Choose.ch_le n k
  have h2 : 2 ^ n ≤ 2 ^ 60 := Nat.pow_le_pow_right (by omega) hn
  omega

set_option maxHeartbeats 1000000 in
theorem choose_any (n k : Nat) (w : World) (hn : n ≤ 60) (hk : k ≤ n) :
    Calls Try.prog 55 #[.int .i64 n, .int .i64 k] w (Drw (.int .i64 (Choose.ch n k)) w) := by
  have hd : decide ((k : Int) < 0) = false := decide_eq_false (by omega)
  have hd2 : decide (n < k) = false := decide_eq_false (by omega)
  rcases (show (k ≤ n - k ∧ ∃ m, m = k) ∨ (n - k < k ∧ ∃ m, m = n - k) by
    by_cases h : k ≤ n - k
    · exact .inl ⟨h, _, rfl⟩
    · exact .inr ⟨by omega, _, rfl⟩) with ⟨h, m, hm⟩ | ⟨h, m, hm⟩
  all_goals
    have hm1 : m ≤ n := by omega
    have HM : Hid (Choose.ch n m = Choose.ch n k) := Lib.hid (by
      first | (rw [hm]; done) | (rw [hm]; exact (Choose.ch_symm n k hk).symm))
    go_enter Try.func55, Try.ntmps55
  · have h' : (k : Int) ≤ n - k := by omega
    subst hm
    go_wp2_with fail
    go_loopw [5, 20] (fun o i wr => ∃ (j q : Nat), j ≤ m ∧ i = .int .i64 j ∧ o = .int .i64 (Choose.ch n j) ∧ wr = w.drewN q) (fun _ i _ => m - (intOf i).toNat)
    case atStart => exact ⟨0, 0, Nat.zero_le _, rfl, by rw [Choose.ch_zero]; rfl, rfl⟩
    case round =>
      obtain ⟨j, q, hj, rfl, rfl, rfl⟩ := hrel
      have hb := ch_bd n j hn
      by_cases hlt : j < m
      · have HR := Lib.hid (Choose.ch_round n j (by omega))
        have hpos := Choose.ch_pos n j (by omega)
        generalize hc : Choose.ch n j = c at *
        clear hc
        go_wp2_with fail
        with_reducible refine (divisor_int _ _ _ (by omega) (by omega) (by omega) (by omega)).mono ?_
        rintro e w' ⟨rfl, q', rfl⟩
        have e1 : ((j : Int) + 1).toNat = j + 1 := by omega
        simp only [Int.toNat_natCast, e1]
        clear e1
        have g1 : 0 < Nat.gcd c (j + 1) := Nat.gcd_pos_of_pos_left _ hpos
        have g2 : Nat.gcd c (j + 1) ≤ j + 1 := Nat.gcd_le_right _ (by omega)
        generalize hg : Nat.gcd c (j + 1) = g at *
        have HG := Lib.hid hg
        clear hg
        have a1 : ((g : Int) == 0) = false := by simp; omega
        have E : (c : Int) / g * (((n : Int) - j) / (((j : Int) + 1) / g)) = (Choose.ch n (j + 1) : Nat) := by
          rw [← HR.out]
          have e2 : ((n - j : Nat) : Int) = (n : Int) - j := by omega
          simp only [Int.natCast_mul, Int.natCast_ediv, e2, Int.natCast_add]
          rfl
        have b1 := ch_bd n (j + 1) hn
        have t1 : 1 ≤ ((j : Int) + 1) / g := by
          rw [Int.le_ediv_iff_mul_le (by omega)]; omega
        have t2 : (((j : Int) + 1) / g == 0) = false := by simp; omega
        have p1 : 0 ≤ (c : Int) / g * (((n : Int) - j) / (((j : Int) + 1) / g)) := by omega
        have p2 : (c : Int) / g * (((n : Int) - j) / (((j : Int) + 1) / g)) ≤ 1152921504606846976 := by omega
        have q1 : 0 ≤ (c : Int) / g := Int.ediv_nonneg (by omega) (by omega)
        have q2 : (c : Int) / g ≤ 1152921504606846976 := Int.le_trans (Int.ediv_le_self _ (by omega)) (by omega)
        have HE := Lib.hid E
        clear E b1
        go_wp2_with fail
        go_region
        go_wp2
        go_roundw
        case rel => exact ⟨j + 1, _, by omega, by go_num, by rw [HE.out], rfl⟩
        case measure => simp [intOf]; omega
      · go_wp2
        go_ret
        obtain rfl : j = m := by omega
        exact ⟨ret_int (by first | rfl | rw [HM.out]), _, rfl⟩
  · have h' : ¬ ((k : Int) ≤ n - k) := by omega
    have HE := Lib.hid (show (n : Int) - k = (m : Int) by omega)
    clear hm
    go_wp2_with fail
    rw [HE.out]
    go_loopw [5, 20] (fun o i wr => ∃ (j q : Nat), j ≤ m ∧ i = .int .i64 j ∧ o = .int .i64 (Choose.ch n j) ∧ wr = w.drewN q) (fun _ i _ => m - (intOf i).toNat)
    case atStart => exact ⟨0, 0, Nat.zero_le _, rfl, by rw [Choose.ch_zero]; rfl, rfl⟩
    case round =>
      obtain ⟨j, q, hj, rfl, rfl, rfl⟩ := hrel
      have hb := ch_bd n j hn
      by_cases hlt : j < m
      · have HR := Lib.hid (Choose.ch_round n j (by omega))
        have hpos := Choose.ch_pos n j (by omega)
        generalize hc : Choose.ch n j = c at *
        clear hc
        go_wp2_with fail
        with_reducible refine (divisor_int _ _ _ (by omega) (by omega) (by omega) (by omega)).mono ?_
        rintro e w' ⟨rfl, q', rfl⟩
        have e1 : ((j : Int) + 1).toNat = j + 1 := by omega
        simp only [Int.toNat_natCast, e1]
        clear e1
        have g1 : 0 < Nat.gcd c (j + 1) := Nat.gcd_pos_of_pos_left _ hpos
        have g2 : Nat.gcd c (j + 1) ≤ j + 1 := Nat.gcd_le_right _ (by omega)
        generalize hg : Nat.gcd c (j + 1) = g at *
        have HG := Lib.hid hg
        clear hg
        have a1 : ((g : Int) == 0) = false := by simp; omega
        have E : (c : Int) / g * (((n : Int) - j) / (((j : Int) + 1) / g)) = (Choose.ch n (j + 1) : Nat) := by
          rw [← HR.out]
          have e2 : ((n - j : Nat) : Int) = (n : Int) - j := by omega
          simp only [Int.natCast_mul, Int.natCast_ediv, e2, Int.natCast_add]
          rfl
        have b1 := ch_bd n (j + 1) hn
        have t1 : 1 ≤ ((j : Int) + 1) / g := by
          rw [Int.le_ediv_iff_mul_le (by omega)]; omega
        have t2 : (((j : Int) + 1) / g == 0) = false := by simp; omega
        have p1 : 0 ≤ (c : Int) / g * (((n : Int) - j) / (((j : Int) + 1) / g)) := by omega
        have p2 : (c : Int) / g * (((n : Int) - j) / (((j : Int) + 1) / g)) ≤ 1152921504606846976 := by omega
        have q1 : 0 ≤ (c : Int) / g := Int.ediv_nonneg (by omega) (by omega)
        have q2 : (c : Int) / g ≤ 1152921504606846976 := Int.le_trans (Int.ediv_le_self _ (by omega)) (by omega)
        have HE := Lib.hid E
        clear E b1
        go_wp2_with fail
        go_region
        go_wp2
        go_roundw
        case rel => exact ⟨j + 1, _, by omega, by go_num, by rw [HE.out], rfl⟩
        case measure => simp [intOf]; omega
      · go_wp2
        go_ret
        obtain rfl : j = m := by omega
        exact ⟨ret_int (by first | rfl | rw [HM.out]), _, rfl⟩

theorem choose_none (n k : Int) (w : World) (h : k < 0 ∨ n < k) :
    Calls Try.prog 55 #[.int .i64 n, .int .i64 k] w (Drw (.int .i64 0) w) := by
  by_cases h1 : k < 0
  · clear h
    go_enter Try.func55, Try.ntmps55
    go_wp2
    go_ret
    exact ⟨rfl, 0, rfl⟩
  · have h2 : n < k := by omega
    clear h
    go_enter Try.func55, Try.ntmps55
    go_wp2
    go_ret
    exact ⟨rfl, 0, rfl⟩
/-- in how many ways k of n can be chosen, over the ints -/
def chI (n k : Int) : Int := if k < 0 then 0 else (Choose.ch n.toNat k.toNat : Nat)
theorem chI_bd (n k : Int) (hn : n ≤ 60) : 0 ≤ chI n k ∧ chI n k ≤ 1152921504606846976 := by
  unfold chI
  split
  · omega
  · have := ch_bd n.toNat k.toNat (by omega); omega
theorem choose_int (n k : Int) (w : World) (hn0 : 0 ≤ n) (hn : n ≤ 60) :
    Calls Try.prog 55 #[.int .i64 n, .int .i64 k] w (Drw (.int .i64 (chI n k)) w) := by
  by_cases h : k < 0 ∨ n < k
  · have e : chI n k = 0 := by
      unfold chI
      split
      · rfl
      · rw [Choose.ch_gt n.toNat k.toNat (by omega)]; rfl
    rw [e]
    exact choose_none n k w h
  · obtain ⟨x, rfl⟩ := Int.eq_ofNat_of_zero_le hn0
    obtain ⟨y, rfl⟩ := Int.eq_ofNat_of_zero_le (show 0 ≤ k by omega)
    have e : chI x y = (Choose.ch x y : Nat) := by unfold chI; rw [if_neg (by omega)]; simp
    rw [e]
    exact choose_any x y w (by omega) (by omega)

/-- Choose answers -/
def chV (n k : Int) : Int × Int := if n < 0 ∨ 60 < n ∨ k < 0 ∨ n < k then (0, 1) else (chI n k, 0)
theorem Choose_any (n k : Int) (w : World) :
    Calls Try.prog 17 #[.int .i64 n, .int .i64 k] w (Drw (.tuple #[.int .i64 (chV n k).1, .int .i64 (chV n k).2]) w) := by
  by_cases h1 : n < 0 ∨ 60 < n
  · have H := Lib.hid (show chV n k = (0, 1) by unfold chV; rw [if_pos (by omega)])
    rw [H.out]
    clear H
    go_enter Try.func17, Try.ntmps17
    go_wp2_with fail
    with_reducible refine (within_no _ _ _ _ h1).mono ?_
    rintro e w' ⟨rfl, rfl⟩
    go_wp2
    go_ret2
    exact ⟨rfl, 0, rfl⟩
  · by_cases h2 : k < 0 ∨ n < k
    · have H := Lib.hid (show chV n k = (0, 1) by unfold chV; rw [if_pos (by omega)])
      rw [H.out]
      clear H
      go_enter Try.func17, Try.ntmps17
      go_wp2_with fail
      with_reducible refine (within_yes _ _ _ _ (by omega) (by omega)).mono ?_
      rintro e w' ⟨rfl, rfl⟩
      go_wp2_with fail
      with_reducible refine (within_no _ _ _ _ h2).mono ?_
      rintro e w' ⟨rfl, rfl⟩
      go_wp2
      go_ret2
      exact ⟨rfl, 0, rfl⟩
    · have H := Lib.hid (show chV n k = (chI n k, 0) by unfold chV; rw [if_neg (by omega)])
      rw [H.out]
      clear H
      go_enter Try.func17, Try.ntmps17
      go_wp2_with fail
      with_reducible refine (within_yes _ _ _ _ (by omega) (by omega)).mono ?_
      rintro e w' ⟨rfl, rfl⟩
      go_wp2_with fail
      with_reducible refine (within_yes _ _ _ _ (by omega) (by omega)).mono ?_
      rintro e w' ⟨rfl, rfl⟩
      go_wp2_with fail
      with_reducible refine (choose_int _ _ _ (by omega) (by omega)).mono ?_
      rintro e w' ⟨rfl, q, rfl⟩
      go_wp2
      go_ret2
      exact ⟨rfl, q, rfl⟩
end Go.Proofs.Ytdnikegakcdcnaa
