/- The contract of measure.Verdict. -/
import Derived.Test.YtdnikegakcdcnaaExact4
import Derived.Test.YtdnikegakcdcnaaCompare
set_option linter.unusedVariables false
namespace Go.Proofs.Ytdnikegakcdcnaa
open Go.RowKit

theorem redN_nonneg (n d : Int) (hn : 0 ≤ n) (hd : 1 ≤ d) : 0 ≤ Frac.redN n d := by
  unfold Frac.redN
  rw [if_neg (by omega)]
  exact Int.tdiv_nonneg hn (by have := Frac.gg_pos n d (by omega); omega)
/-- the exact test's fraction lies within its bounds -/
theorem ex_bd (a b c d : Nat) (h : a + b + c + d ≤ 60) : 0 ≤ Frac.redN (exFew a b c d : Nat) (exAll a b c d : Nat) ∧ Frac.redN (exFew a b c d : Nat) (exAll a b c d : Nat) ≤ 1152921504606846976 ∧
    1 ≤ Frac.redD (exFew a b c d : Nat) (exAll a b c d : Nat) ∧ Frac.redD (exFew a b c d : Nat) (exAll a b c d : Nat) ≤ 1152921504606846976 := by
  have l1 := allS_le (a + b) (c + d) (a + c) (a + c + 1) (by omega)
  have l2 := fewS_le (a + b) (c + d) (a + c) a (a + c + 1)
  have l3 := allS_pos (a + b) (c + d) (a + c) a (a + c + 1) (by omega) (by omega) (by omega) (by omega)
  have e1 : exFew a b c d = fewS (a + b) (c + d) (a + c) a (a + c + 1) := rfl
  have e2 : exAll a b c d = allS (a + b) (c + d) (a + c) (a + c + 1) := rfl
  have h1 := redN_nonneg (exFew a b c d : Nat) (exAll a b c d : Nat) (by omega) (by omega)
  have h2 := Frac.redN_bd (exFew a b c d : Nat) (exAll a b c d : Nat)
  have h3 := Frac.redD_bd (exFew a b c d : Nat) (exAll a b c d : Nat) (by omega)
  omega

/-- the verdict on good numbers -/
def vdG (a b c d : Nat) (level : Int) : Int × Int :=
  if level < 1 ∨ 500 < level then (0, 1)
  else if a + b = 0 ∨ c + d = 0 ∨ 0 < Frac.cmpF (Frac.redN (exFew a b c d : Nat) (exAll a b c d : Nat)) (Frac.redD (exFew a b c d : Nat) (exAll a b c d : Nat)) level 1000 then (0, 0)
  else if Frac.cmpF a (a + b : Nat) c (c + d : Nat) = 1 then (1, 0) else if Frac.cmpF a (a + b : Nat) c (c + d : Nat) = -1 then (2, 0) else (0, 0)
/-- what Verdict answers -/
def vdV (a b c d level : Int) : Int × Int := if exF [a, b, c, d] ≠ 0 then (0, exF [a, b, c, d]) else vdG a.toNat b.toNat c.toNat d.toNat level

set_option maxRecDepth 100000 in
set_option maxHeartbeats 2000000 in
theorem Verdict_good (a b c d : Nat) (level : Int) (w : World) (h : a + b + c + d ≤ 60) :
    Calls Try.prog 25 #[.int .i64 a, .int .i64 b, .int .i64 c, .int .i64 d, .int .i64 level] w fun e w' =>
      e = .returned (.tuple #[.int .i64 (vdG a b c d level).1, .int .i64 (vdG a b c d level).2]) ∧ Below w.heap.size w w' := by
  obtain ⟨n0, n1, d1, d2⟩ := ex_bd a b c d h
  have HX := Lib.hid (fun w => Exact_good a b c d w h)
  have HV := Lib.hid (show vdG a b c d level = if level < 1 ∨ 500 < level then (0, 1)
    else if a + b = 0 ∨ c + d = 0 ∨ 0 < Frac.cmpF (Frac.redN (exFew a b c d : Nat) (exAll a b c d : Nat)) (Frac.redD (exFew a b c d : Nat) (exAll a b c d : Nat)) level 1000 then (0, 0)
    else if Frac.cmpF a (a + b : Nat) c (c + d : Nat) = 1 then (1, 0) else if Frac.cmpF a (a + b : Nat) c (c + d : Nat) = -1 then (2, 0) else (0, 0) from rfl)
  generalize Frac.redN (exFew a b c d : Nat) (exAll a b c d : Nat) = N at *
  generalize Frac.redD (exFew a b c d : Nat) (exAll a b c d : Nat) = D at *
  obtain ⟨N', rfl⟩ := Int.eq_ofNat_of_zero_le n0
  obtain ⟨D', rfl⟩ := Int.eq_ofNat_of_zero_le (show 0 ≤ D by omega)
  by_cases hl : level < 1 ∨ 500 < level
  · rw [if_pos hl] at HV
    rw [HV.out]
    clear HV
    go_enter Try.func25, Try.ntmps25
    go_wp2_with fail
    with_reducible refine (HX.out _).mono ?_
    rintro e w1 ⟨rfl, b1⟩
    have hz := b1.size
    go_wp2_with fail
    with_reducible refine (within_no _ _ _ _ hl).mono ?_
    rintro e w2 ⟨rfl, rfl⟩
    clear hl
    go_wp2
    go_ret2
    exact ⟨rfl, b1.alloc hz _⟩
  · rw [if_neg hl] at HV
    obtain ⟨L, rfl⟩ := Int.eq_ofNat_of_zero_le (show 0 ≤ level by omega)
    by_cases hz0 : a + b = 0 ∨ c + d = 0
    · rw [if_pos (by omega)] at HV
      rw [HV.out]
      clear HV
      by_cases hz1 : a + b = 0
      · have q1 : ((a : Int) + b == 0) = true := by simp; omega
        go_enter Try.func25, Try.ntmps25
        go_wp2_with fail
        with_reducible refine (HX.out _).mono ?_
        rintro e w1 ⟨rfl, b1⟩
        have hz := b1.size
        go_wp2_with fail
        with_reducible refine (within_yes _ _ _ _ (by omega) (by omega)).mono ?_
        rintro e w2 ⟨rfl, rfl⟩
        go_wp2
        go_ret2
        exact ⟨rfl, b1.alloc hz _⟩
      · have q1 : ((a : Int) + b == 0) = false := by simp; omega
        have q2 : ((c : Int) + d == 0) = true := by simp; omega
        go_enter Try.func25, Try.ntmps25
        go_wp2_with fail
        with_reducible refine (HX.out _).mono ?_
        rintro e w1 ⟨rfl, b1⟩
        have hz := b1.size
        go_wp2_with fail
        with_reducible refine (within_yes _ _ _ _ (by omega) (by omega)).mono ?_
        rintro e w2 ⟨rfl, rfl⟩
        go_wp2
        go_ret2
        exact ⟨rfl, b1.alloc hz _⟩
    · have q1 : ((a : Int) + b == 0) = false := by simp; omega
      have q2 : ((c : Int) + d == 0) = false := by simp; omega
      have HP := Lib.hid (show Frac.cmpF (N' : Int) D' L 1000 = Frac.cmpI (N' * 1000 : Nat) (L * D' : Nat) by
        unfold Frac.cmpF; rw [Int.natCast_mul, Int.natCast_mul]; rfl)
      rw [HP.out] at HV
      go_enter Try.func25, Try.ntmps25
      go_wp2_with fail
      with_reducible refine (HX.out _).mono ?_
      rintro e w1 ⟨rfl, b1⟩
      have hz := b1.size
      go_wp2_with fail
      with_reducible refine (within_yes _ _ _ _ (by omega) (by omega)).mono ?_
      rintro e w2 ⟨rfl, rfl⟩
      have HPr : Hid (∀ w : World, Calls Try.prog 62 #[.int .u64 N', .int .u64 1000, .int .u64 L, .int .u64 D'] w fun e w' => e = .returned (.int .i64 (Frac.cmpI (N' * 1000 : Nat) (L * D' : Nat))) ∧ Below w.heap.size w w') :=
        Lib.hid (fun w => products_any N' 1000 L D' w (by omega) (by omega) (by omega) (by omega))
      have bq := Frac.cmpI_bd (N' * 1000 : Nat) (L * D' : Nat)
      generalize Frac.cmpI (N' * 1000 : Nat) (L * D' : Nat) = q at *
      go_wp2_with fail
      with_reducible refine (HPr.out _).mono ?_
      rintro e w2 ⟨rfl, b2⟩
      have HB := Lib.hid ((b1.alloc hz _).trans (b2.mono (by simp; omega)))
      clear b1 b2 HPr HX HP
      by_cases hq : 0 < q
      · rw [if_pos (.inr (.inr hq))] at HV
        have HV1 := Lib.hid (congrArg Prod.fst HV.out)
        have HV2 := Lib.hid (congrArg Prod.snd HV.out)
        clear HV
        go_wp2
        go_ret2
        exact ⟨by rw [HV1.out, HV2.out]; rfl, HB.out⟩
      · rw [if_neg (by omega)] at HV
        have HF := Lib.hid (show Frac.cmpF a (a + b : Nat) c (c + d : Nat) = Frac.cmpI ((a : Int) * ((c : Int) + d)) ((c : Int) * ((a : Int) + b)) by
          unfold Frac.cmpF; rw [Int.natCast_add, Int.natCast_add])
        rw [HF.out] at HV
        have m1 : a * (c + d) ≤ 60 * 60 := Nat.mul_le_mul (by omega) (by omega)
        have m2 : c * (a + b) ≤ 60 * 60 := Nat.mul_le_mul (by omega) (by omega)
        have m3 : ((a * (c + d) : Nat) : Int) = (a : Int) * ((c : Int) + d) := by rw [Int.natCast_mul, Int.natCast_add]
        have m4 : ((c * (a + b) : Nat) : Int) = (c : Int) * ((a : Int) + b) := by rw [Int.natCast_mul, Int.natCast_add]
        have p1 : 0 ≤ (a : Int) * ((c : Int) + d) := by omega
        have p2 : (a : Int) * ((c : Int) + d) ≤ 3600 := by omega
        have p3 : 0 ≤ (c : Int) * ((a : Int) + b) := by omega
        have p4 : (c : Int) * ((a : Int) + b) ≤ 3600 := by omega
        clear m1 m2 m3 m4 HF
        have br := Frac.cmpI_bd ((a : Int) * ((c : Int) + d)) ((c : Int) * ((a : Int) + b))
        have hq' : decide (0 < q) = false := decide_eq_false (by omega)
        go_wp2_with fail
        with_reducible refine (compare_int _ _ _).mono ?_
        rintro e w3 ⟨rfl, rfl⟩
        generalize Frac.cmpI ((a : Int) * ((c : Int) + d)) ((c : Int) * ((a : Int) + b)) = r at *
        rcases (show r = 1 ∨ r = -1 ∨ r = 0 by omega) with rfl | rfl | rfl
        · have HV1 := Lib.hid (congrArg Prod.fst HV.out)
          have HV2 := Lib.hid (congrArg Prod.snd HV.out)
          clear HV
          go_wp2
          go_ret2
          exact ⟨by rw [HV1.out, HV2.out]; rfl, HB.out⟩
        · have HV1 := Lib.hid (congrArg Prod.fst HV.out)
          have HV2 := Lib.hid (congrArg Prod.snd HV.out)
          clear HV
          go_wp2
          go_ret2
          exact ⟨by rw [HV1.out, HV2.out]; rfl, HB.out⟩
        · have HV1 := Lib.hid (congrArg Prod.fst HV.out)
          have HV2 := Lib.hid (congrArg Prod.snd HV.out)
          clear HV
          go_wp2
          go_ret2
          exact ⟨by rw [HV1.out, HV2.out]; rfl, HB.out⟩

theorem exV_bad {a b c d : Int} (h : exF [a, b, c, d] ≠ 0) : exV a b c d = (0, 0, exF [a, b, c, d]) := by
  unfold exV; rw [if_pos h]
theorem exF_good {a b c d : Int} (h : exF [a, b, c, d] = 0) : ∃ x y z t : Nat, a = x ∧ b = y ∧ c = z ∧ d = t ∧ x + y + z + t ≤ 60 := by
  rw [exF4] at h
  have h0 : ¬ (a < 0 ∨ b < 0 ∨ c < 0 ∨ d < 0) := by
    intro h0; rw [if_pos h0] at h; omega
  rw [if_neg h0] at h
  have h1 : ¬ (60 < a ∨ 60 < b ∨ 60 < c ∨ 60 < d ∨ 60 < a + b + c + d) := by
    intro h1; rw [if_pos h1] at h; omega
  exact ⟨a.toNat, b.toNat, c.toNat, d.toNat, by omega, by omega, by omega, by omega, by omega⟩

set_option maxHeartbeats 1000000 in
theorem Verdict_any (a b c d level : Int) (w : World) :
    Calls Try.prog 25 #[.int .i64 a, .int .i64 b, .int .i64 c, .int .i64 d, .int .i64 level] w fun e w' =>
      e = .returned (.tuple #[.int .i64 (vdV a b c d level).1, .int .i64 (vdV a b c d level).2]) ∧ Below w.heap.size w w' := by
  by_cases h : exF [a, b, c, d] = 0
  · have e : vdV a b c d level = vdG a.toNat b.toNat c.toNat d.toNat level := by unfold vdV; rw [if_neg (by simpa using h)]
    rw [e]
    obtain ⟨x, y, z, t, rfl, rfl, rfl, rfl, hs⟩ := exF_good h
    exact Verdict_good x y z t level w hs
  · have e : vdV a b c d level = (0, exF [a, b, c, d]) := by unfold vdV; rw [if_pos h]
    rw [e]
    have HX := Lib.hid (fun w => Exact_any a b c d w)
    unfold Ex at HX
    rw [exV_bad h] at HX
    generalize exF [a, b, c, d] = f at *
    have hf : (f != 0) = true := by simp [h]
    clear h e
    go_enter Try.func25, Try.ntmps25
    go_wp2_with fail
    with_reducible refine (HX.out _).mono ?_
    rintro e w1 ⟨rfl, b1⟩
    have hz := b1.size
    go_wp2
    go_ret2
    exact ⟨rfl, b1.alloc hz _⟩
end Go.Proofs.Ytdnikegakcdcnaa
