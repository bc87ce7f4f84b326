/- The walk of the statement QuantilesFound. -/
import Derived.Test.YtdnikegakcdcnaaRow
import Derived.Test.YtdnikegakcdcnaaMeasures
import Derived.Test.YtdnikegakcdcnaaGrow
import Derived.Test.YtdnikegakcdcnaaChooseOf
import Derived.Test.YtdnikegakcdcnaaQuantile
set_option linter.unusedVariables false
namespace Go.Proofs.Ytdnikegakcdcnaa
open Go.RowKit

set_option maxRecDepth 100000 in
set_option maxHeartbeats 4000000 in
theorem quantilesFound_walk (a0 : Option Addr) (len0 cap0 : Nat) (z0 : List Int) (w : World) (w0 : IsRow .i64 w a0 len0 cap0 z0) :
    Calls Try.prog 6 #[.slice a0 len0 cap0] w fun e w' => e = .returned (.bool true) ∧ Below w.heap.size w w' := by
  obtain ⟨i0, hi, hz0, hz1, hz2⟩ := info_parts info_int
  obtain ⟨S, hBS, hp, s0, g0⟩ := strm_begin w0
  clear w0
  go_enter Try.func6, Try.ntmps6
  go_wp2_with fail
  clear hp
  with_reducible refine (next_any S _ _ _ s0 (by omega) (by omega)).mono ?_
  rintro e w1 ⟨m', ⟨hm0, hm1, -⟩, rfl, k1, s1⟩
  have hm2 := hm1 (by omega)
  obtain ⟨m, rfl⟩ := Int.eq_ofNat_of_zero_le hm0
  have g1 := grown_trans g0 k1
  have hS1 := strm_lt s1
  have hw1 := g1.size
  clear k1 s0 g0 hm0 hm1
  go_wp2_with fail
  go_loopw [4, 16] (fun v i wr => ∃ (k : Nat) (zs : List Int), k ≤ m ∧ i = .int .i64 k ∧ zs.length = k ∧ wr.ownsRow w1.heap.size 3 1 v k (zs.map (Value.int .i64)) ∧ Strm wr S (1 + 2 * k) ∧ w.grownBy wr (some S.g) ∧ w1.heap.size ≤ wr.heap.size) (fun _ i _ => m - (intOf i).toNat)
  case atStart => exact ⟨0, [], Nat.zero_le _, rfl, rfl, World.ownsRow_nil _ _ _ _, s1, g1, Nat.le_refl _⟩
  case round =>
    obtain ⟨k, zs, hk, rfl, hz, hrow, s2, g2, hw2⟩ := hrel
    clear s1 g1
    by_cases hlt : k < m
    · have HR := Lib.hid hrow
      clear hrow
      go_wp2_with fail
      with_reducible refine (next_any S _ _ _ s2 (by omega) (by omega)).mono ?_
      rintro e w3 ⟨y, -, rfl, k3, s3⟩
      have g3 := grown_trans g2 k3
      have HR3 := Lib.hid (row_kept HR.out k3 hS1)
      have hw3 := Nat.le_trans hw2 k3.size
      clear k3 g2 s2 HR
      go_wp2_with fail
      with_reducible refine (pick_at S _ [0, 1, 5, -5, 9223372036854775807, -9223372036854775808, y] 7 _ _ _ _ s3 (by omega) rfl (by omega) (by omega) (by simp) (by simp)).mono ?_
      rintro e w4 ⟨x, -, rfl, k4, s4⟩
      have g4 := grown_trans g3 k4
      have own4 := row_kept HR3.out k4 hS1
      have hw4 := Nat.le_trans hw3 k4.size
      clear k4 g3 s3 HR3
      go_wp2_with (at_builtin; refine wpList_append_own _ rfl _ _ 22 rfl w1.heap.size 3 i0 (.int .i64 0) 1 8 Try.underlying22 hi hz0 hz1 hz2 rfl (by decide) _ _ _ rfl (own4.alloc _) ⟨w4.heap.size, 0, none⟩ 1 1 [.int .i64 x] rfl rfl ?c1 ?c2 ?c3 ?c4 ?c5 ?_)
      case c1 => exact (fun j u h => by
        obtain rfl : j = 0 := by
          rcases j with _ | j
          · rfl
          · simp at h
        simp at h
        subst h
        simp [Addr.add])
      case c2 => simp [Value.oneCell']
      case c3 => unfold maxLen; omega
      case c4 => omega
      case c5 => simp; omega
      intro v2 w5 own5 hgrow5 hne5
      clear hne5
      have hr5 := fun q hq => (own4.lt q hq).1
      have g5 := grown_own (grown_alloc g4 _) hgrow5 (fun q hq => by have := hr5 q hq; omega)
      have s5 := strm_own (strm_alloc s4 _) hgrow5 (fun q hq => by have := hr5 q hq; omega)
      have hw5 : w1.heap.size ≤ w5.heap.size := by have := hgrow5.size; simp at this; omega
      have HO := Lib.hid own5
      clear own5 own4 hgrow5 g4 s4 hr5
      go_wp2
      go_roundw
      case rel => exact ⟨k + 1, zs ++ [x], by omega, by go_num, by simp [hz], by simpa using HO.out, strm_mono s5 (by omega), g5, hw5⟩
      case measure => simp [intOf]; omega
    · obtain rfl : k = m := by omega
      have HR := Lib.hid hrow
      clear hrow
      go_wp2_with fail
      with_reducible refine (pick_at S _ [1, 2, 3, 4, 100, 1000, 0, 1001] 8 _ _ _ _ s2 (by omega) rfl (by omega) (by omega) (by simp) (by simp)).mono ?_
      rintro e w3 ⟨den, hden, rfl, k3, s3⟩
      have hden' : 0 ≤ den ∧ den ≤ 1001 := by
        simp only [List.mem_cons, List.mem_nil_iff, or_false] at hden
        omega
      have g3 := grown_trans g2 k3
      have HR3 := Lib.hid (row_kept HR.out k3 hS1)
      clear k3 g2 s2 HR hden
      have t2 : 0 ≤ den.tdiv 2 ∧ den.tdiv 2 ≤ 1001 := by
        rw [Int.tdiv_eq_ediv_of_nonneg (by omega)]
        omega
      go_wp2_with fail
      generalize den.tdiv 2 = dh at *
      with_reducible refine (pick_at S _ [0, 1, dh, den, den + 1, -1] 6 _ _ _ _ s3 (by omega) rfl (by omega) (by omega) (by simp) (by simp)).mono ?_
      rintro e w4 ⟨num, hnum, rfl, k4, s4⟩
      have hnum' : -1 ≤ num ∧ num ≤ 1002 := by
        simp only [List.mem_cons, List.mem_nil_iff, or_false] at hnum
        omega
      have g4 := grown_trans g3 k4
      have own4 := row_kept HR3.out k4 hS1
      clear k4 g3 s3 HR3 hnum t2
      obtain ⟨a, c, rfl, I4⟩ := row_form own4
      have z4 := g4.size
      have B4 := below_of_grown g4 hBS
      have HQ1 := Lib.hid (fun w (hI : IntsAt w a zs) => Quantile_any a zs k c num den w hz (by omega) hI (by omega) (by omega))
      have HQ2 := Lib.hid (fun w (hI : IntsAt w a zs) => QuantileOf_any a zs k c num den w hz (by omega) hI (by omega) (by omega))
      generalize (qV zs num den).1 = q1 at *
      generalize (qV zs num den).2 = q2 at *
      have HI4 := Lib.hid I4
      clear own4 g4 s4 I4
      go_wp2_with fail
      with_reducible refine (HQ1.out _ HI4.out).mono ?_
      rintro e w5 ⟨rfl, b5⟩
      have HI5 := Lib.hid (HI4.out.below b5)
      have B5 := B4.trans (b5.mono z4)
      have z5 := B5.size
      clear B4 b5 HI4
      go_wp2_with fail
      with_reducible refine (HQ2.out _ HI5.out).mono ?_
      rintro e w6 ⟨rfl, rfl⟩
      go_wp2_with fail
      with_reducible refine (measures_any _).mono ?_
      rintro e w7 ⟨rfl, b7⟩
      have B7 := B5.trans (b7.mono z5)
      clear HQ1 HQ2 HI5 B5 b7
      go_wp2
      go_ret
      exact ⟨rfl, B7⟩
end Go.Proofs.Ytdnikegakcdcnaa
