/- The contract of the reference VerdictOf. -/
import Derived.Test.YtdnikegakcdcnaaVerdict
import Derived.Test.YtdnikegakcdcnaaExactOf
import Derived.Test.YtdnikegakcdcnaaCompareOf
set_option linter.unusedVariables false
namespace Go.Proofs.Ytdnikegakcdcnaa
open Go.RowKit

set_option maxHeartbeats 1000000 in
theorem VerdictOf_bad (a b c d level : Int) (w : World) (h : exF [a, b, c, d] ≠ 0) :
    Calls Try.prog 26 #[.int .i64 a, .int .i64 b, .int .i64 c, .int .i64 d, .int .i64 level] w fun e w' =>
      e = .returned (.tuple #[.int .i64 0, .int .i64 (exF [a, b, c, d])]) ∧ Below w.heap.size w w' := by
  have hf : (exF [a, b, c, d] != 0) = true := by simp [h]
  clear h
  go_enter Try.func26, Try.ntmps26
  go_wp2_with fail
  with_reducible refine (ExactFault_any _ [a, b, c, d] 4 _ _ rfl (by omega) ?hi).mono ?_
  case hi => exact IntsAt.new (zs := [a, b, c, d]) rfl
  rintro e w1 ⟨rfl, rfl⟩
  generalize hf' : exF [a, b, c, d] = f at *
  have HF := Lib.hid hf'
  clear hf'
  go_wp2
  go_ret2
  exact ⟨by rw [HF.out]; rfl, by go_grown⟩

set_option maxRecDepth 100000 in
set_option maxHeartbeats 2000000 in
theorem VerdictOf_good (a b c d : Nat) (level : Int) (w : World) (h : a + b + c + d ≤ 60) :
    Calls Try.prog 26 #[.int .i64 a, .int .i64 b, .int .i64 c, .int .i64 d, .int .i64 level] w fun e w' =>
      e = .returned (.tuple #[.int .i64 (vdG a b c d level).1, .int .i64 (vdG a b c d level).2]) ∧ Below w.heap.size w w' := by
  obtain ⟨n0, n1, d1, d2⟩ := ex_bd a b c d h
  have HZ := Lib.hid (show exF [(a : Int), b, c, d] = 0 by rw [exF4, if_neg (by omega), if_neg (by omega)])
  have HX := Lib.hid (fun w => ExactOf_good a b c d w h)
  have HV := Lib.hid (show vdG a b c d level = if level < 1 ∨ 500 < level then (0, 1)
    else if a + b = 0 ∨ c + d = 0 ∨ 0 < Frac.cmpF (Frac.redN (exFew a b c d : Nat) (exAll a b c d : Nat)) (Frac.redD (exFew a b c d : Nat) (exAll a b c d : Nat)) level 1000 then (0, 0)
    else if Frac.cmpF a (a + b : Nat) c (c + d : Nat) = 1 then (1, 0) else if Frac.cmpF a (a + b : Nat) c (c + d : Nat) = -1 then (2, 0) else (0, 0) from rfl)
  generalize Frac.redN (exFew a b c d : Nat) (exAll a b c d : Nat) = N at *
  generalize Frac.redD (exFew a b c d : Nat) (exAll a b c d : Nat) = D at *
  by_cases hl : level < 1 ∨ 500 < level
  · rw [if_pos hl] at HV
    rw [HV.out]
    clear HV HX
    by_cases hl1 : level < 1
    · clear hl
      go_enter Try.func26, Try.ntmps26
      go_wp2_with fail
      with_reducible refine (ExactFault_any _ [(a : Int), b, c, d] 4 _ _ rfl (by omega) ?hi).mono ?_
      case hi => exact IntsAt.new (zs := [(a : Int), b, c, d]) rfl
      rintro e w1 ⟨rfl, rfl⟩
      rw [HZ.out]
      go_wp2
      go_ret2
      exact ⟨rfl, by go_grown⟩
    · have hl2 : 500 < level := by omega
      clear hl
      go_enter Try.func26, Try.ntmps26
      go_wp2_with fail
      with_reducible refine (ExactFault_any _ [(a : Int), b, c, d] 4 _ _ rfl (by omega) ?hi).mono ?_
      case hi => exact IntsAt.new (zs := [(a : Int), b, c, d]) rfl
      rintro e w1 ⟨rfl, rfl⟩
      rw [HZ.out]
      go_wp2
      go_ret2
      exact ⟨rfl, by go_grown⟩
  · rw [if_neg hl] at HV
    have l1 : decide (level < 1) = false := decide_eq_false (by omega)
    have l2 : decide (500 < level) = false := decide_eq_false (by omega)
    by_cases hz0 : a + b = 0 ∨ c + d = 0
    · rw [if_pos (by omega)] at HV
      rw [HV.out]
      clear HV
      by_cases hz1 : a + b = 0
      · have q1 : ((a : Int) + b == 0) = true := by simp; omega
        go_enter Try.func26, Try.ntmps26
        go_wp2_with fail
        with_reducible refine (ExactFault_any _ [(a : Int), b, c, d] 4 _ _ rfl (by omega) ?hi).mono ?_
        case hi => exact IntsAt.new (zs := [(a : Int), b, c, d]) rfl
        rintro e w1 ⟨rfl, rfl⟩
        rw [HZ.out]
        go_wp2
        go_ret2
        exact ⟨rfl, by go_grown⟩
      · have q1 : ((a : Int) + b == 0) = false := by simp; omega
        have q2 : ((c : Int) + d == 0) = true := by simp; omega
        go_enter Try.func26, Try.ntmps26
        go_wp2_with fail
        with_reducible refine (ExactFault_any _ [(a : Int), b, c, d] 4 _ _ rfl (by omega) ?hi).mono ?_
        case hi => exact IntsAt.new (zs := [(a : Int), b, c, d]) rfl
        rintro e w1 ⟨rfl, rfl⟩
        rw [HZ.out]
        go_wp2
        go_ret2
        exact ⟨rfl, by go_grown⟩
    · have q1 : ((a : Int) + b == 0) = false := by simp; omega
      have q2 : ((c : Int) + d == 0) = false := by simp; omega
      have HP := Lib.hid (Frac.cmpF_red_right N D level 1000 (by omega))
      have HP2 := Lib.hid (show Frac.cmpF (Frac.redN a ((a : Int) + b)) (Frac.redD a ((a : Int) + b)) (Frac.redN c ((c : Int) + d)) (Frac.redD c ((c : Int) + d)) = Frac.cmpF a (a + b : Nat) c (c + d : Nat) by
        rw [Frac.cmpF_red_left _ _ _ _ (by omega), Frac.cmpF_red_right _ _ _ _ (by omega), Int.natCast_add, Int.natCast_add])
      have bR1 := Frac.redN_bd level 1000
      have bR2 := Frac.redD_bd level 1000 (by omega)
      have bA1 := Frac.redN_bd a ((a : Int) + b)
      have bA2 := Frac.redD_bd a ((a : Int) + b) (by omega)
      have bC1 := Frac.redN_bd c ((c : Int) + d)
      have bC2 := Frac.redD_bd c ((c : Int) + d) (by omega)
      go_enter Try.func26, Try.ntmps26
      go_wp2_with fail
      with_reducible refine (ExactFault_any _ [(a : Int), b, c, d] 4 _ _ rfl (by omega) ?hi).mono ?_
      case hi => exact IntsAt.new (zs := [(a : Int), b, c, d]) rfl
      rintro e w1 ⟨rfl, rfl⟩
      rw [HZ.out]
      go_wp2_with fail
      with_reducible refine (HX.out _).mono ?_
      rintro e w1 ⟨rfl, b1⟩
      have B1 : Below w.heap.size w w1 := ((Below.refl _ _).alloc (Nat.le_refl _) _).trans (b1.mono (by simp))
      have z1 := B1.size
      clear b1
      go_wp2_with fail
      with_reducible refine (reduced_any _ _ _ (by omega) (by omega) (by omega) (by omega) (by omega)).mono ?_
      rintro e w2 ⟨rfl, b2⟩
      have B2 := B1.trans (b2.mono z1)
      have z2 := B2.size
      clear b2 B1
      generalize Frac.redN level 1000 = rl at *
      generalize Frac.redD level 1000 = dl at *
      go_wp2_with fail
      with_reducible refine (CompareOf_any (D.toNat + dl.toNat + 1) _ _ _ _ _ (by omega) (by omega) (by omega) (by omega) (by omega) (by omega) (by omega) (by omega) (by omega)).mono ?_
      rintro e w3 ⟨rfl, b3⟩
      have B3 := B2.trans (b3.mono z2)
      have z3 := B3.size
      clear b3 B2
      rw [HP.out]
      have bq := Frac.cmpI_bd (N * 1000) (level * D)
      rw [show Frac.cmpI (N * 1000) (level * D) = Frac.cmpF N D level 1000 from rfl] at bq
      generalize Frac.cmpF N D level 1000 = q at *
      clear HP HX
      by_cases hq : 0 < q
      · rw [if_pos (.inr (.inr hq))] at HV
        have HV1 := Lib.hid (congrArg Prod.fst HV.out)
        have HV2 := Lib.hid (congrArg Prod.snd HV.out)
        clear HV
        go_wp2
        go_ret2
        exact ⟨by rw [HV1.out, HV2.out]; rfl, B3⟩
      · rw [if_neg (by omega)] at HV
        have hq' : decide (0 < q) = false := decide_eq_false (by omega)
        go_wp2_with fail
        with_reducible refine (reduced_any _ _ _ (by omega) (by omega) (by omega) (by omega) (by omega)).mono ?_
        rintro e w4 ⟨rfl, b4⟩
        have B4 := B3.trans (b4.mono z3)
        have z4 := B4.size
        clear b4 B3
        go_wp2_with fail
        with_reducible refine (reduced_any _ _ _ (by omega) (by omega) (by omega) (by omega) (by omega)).mono ?_
        rintro e w5 ⟨rfl, b5⟩
        have B5 := B4.trans (b5.mono z4)
        have z5 := B5.size
        clear b5 B4
        generalize Frac.redN (a : Int) ((a : Int) + b) = x1 at *
        generalize Frac.redD (a : Int) ((a : Int) + b) = y1 at *
        generalize Frac.redN (c : Int) ((c : Int) + d) = x2 at *
        generalize Frac.redD (c : Int) ((c : Int) + d) = y2 at *
        go_wp2_with fail
        with_reducible refine (CompareOf_any (y1.toNat + y2.toNat + 1) _ _ _ _ _ (by omega) (by omega) (by omega) (by omega) (by omega) (by omega) (by omega) (by omega) (by omega)).mono ?_
        rintro e w6 ⟨rfl, b6⟩
        have B6 := B5.trans (b6.mono z5)
        clear b6 B5
        rw [HP2.out]
        have br := Frac.cmpI_bd ((a : Int) * (c + d : Nat)) ((c : Int) * (a + b : Nat))
        rw [show Frac.cmpI ((a : Int) * (c + d : Nat)) ((c : Int) * (a + b : Nat)) = Frac.cmpF a (a + b : Nat) c (c + d : Nat) from rfl] at br
        generalize Frac.cmpF a (a + b : Nat) c (c + d : Nat) = r at *
        clear HP2
        rcases (show r = 1 ∨ r = -1 ∨ r = 0 by omega) with rfl | rfl | rfl
        · have HV1 := Lib.hid (congrArg Prod.fst HV.out)
          have HV2 := Lib.hid (congrArg Prod.snd HV.out)
          clear HV
          go_wp2
          go_ret2
          exact ⟨by rw [HV1.out, HV2.out]; rfl, B6⟩
        · have HV1 := Lib.hid (congrArg Prod.fst HV.out)
          have HV2 := Lib.hid (congrArg Prod.snd HV.out)
          clear HV
          go_wp2
          go_ret2
          exact ⟨by rw [HV1.out, HV2.out]; rfl, B6⟩
        · have HV1 := Lib.hid (congrArg Prod.fst HV.out)
          have HV2 := Lib.hid (congrArg Prod.snd HV.out)
          clear HV
          go_wp2
          go_ret2
          exact ⟨by rw [HV1.out, HV2.out]; rfl, B6⟩
theorem VerdictOf_any (a b c d level : Int) (w : World) :
    Calls Try.prog 26 #[.int .i64 a, .int .i64 b, .int .i64 c, .int .i64 d, .int .i64 level] w fun e w' =>
      e = .returned (.tuple #[.int .i64 (vdV a b c d level).1, .int .i64 (vdV a b c d level).2]) ∧ Below w.heap.size w w' := by
  by_cases h : exF [a, b, c, d] = 0
  · have e : vdV a b c d level = vdG a.toNat b.toNat c.toNat d.toNat level := by unfold vdV; rw [if_neg (by simpa using h)]
    rw [e]
    obtain ⟨x, y, z, t, rfl, rfl, rfl, rfl, hs⟩ := exF_good h
    exact VerdictOf_good x y z t level w hs
  · have e : vdV a b c d level = (0, exF [a, b, c, d]) := by unfold vdV; rw [if_pos h]
    rw [e]
    exact VerdictOf_bad a b c d level w h
end Go.Proofs.Ytdnikegakcdcnaa
