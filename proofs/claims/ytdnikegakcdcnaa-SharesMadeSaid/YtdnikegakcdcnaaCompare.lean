/- Contracts of cmp.Or at ints, measure.products, measure.compare, measure.Compare. -/
import Derived.Test.YtdnikegakcdcnaaRight
import Derived.Test.YtdnikegakcdcnaaShelf
set_option linter.unusedVariables false
namespace Go.Proofs.Ytdnikegakcdcnaa
open Go.RowKit

/-- the first number that is not 0 -/
def orF : List Int → Int
  | [] => 0
  | x :: l => if x = 0 then orF l else x
theorem orF_drop (zs : List Int) (k : Nat) (hk : k < zs.length) : orF (zs.drop k) = if zs[k] = 0 then orF (zs.drop (k + 1)) else zs[k] := by
  rw [List.drop_eq_getElem_cons hk]; rfl

theorem or_any (h : Nat) (zs : List Int) (n c : Nat) (w : World) (hn : zs.length = n) (hn1 : n ≤ 1000)
    (hb : w.heap[h]? = some (.cells (zs.map (Value.int .i64)).toArray 3 (0, 0))) :
    Calls Try.prog 82 #[.slice (some ⟨h, 0, none⟩) n c] w fun e w' => e = .returned (.int .i64 (orF zs)) ∧ w = w' := by
  have HB := Lib.hid hb
  have HN := Lib.hid hn
  clear hb hn
  go_enter Try.func82, Try.ntmps82
  go_wp2
  go_loop [2, 5, 8] (fun r v i => r = .int .i64 0 ∧ ∃ k : Nat, k ≤ n ∧ i = .int .i64 k ∧ Hid (orF (zs.drop k) = orF zs)) (fun _ _ i => n - (intOf i).toNat)
  case atStart => exact ⟨rfl, 0, Nat.zero_le _, rfl, rfl⟩
  case round =>
    obtain ⟨rfl, k, hk, rfl, HO⟩ := hrel
    by_cases hlt : k < n
    · have hkz : k < zs.length := by have := HN.out; omega
      have hcell : w.cell? ⟨h, k, none⟩ = some (.int .i64 zs[k]) := by simp [World.cell?, HB.out, hkz]
      have HD := Lib.hid (orF_drop zs k hkz)
      generalize hz : zs[k] = z at *
      clear hz
      by_cases h0 : z = 0
      · subst h0
        go_wp2
        go_round
        case rel => exact ⟨rfl, k + 1, by omega, by go_num, by show orF (zs.drop (k + 1)) = _; rw [← HO.out, HD.out, if_pos rfl]⟩
        case measure => simp [intOf]; omega
      · have e1 : (z != 0) = true := by simp [h0]
        go_wp2
        go_ret
        exact ⟨ret_int (by rw [← HO.out, HD.out, if_neg h0]), rfl⟩
    · go_wp2
      go_ret
      refine ⟨ret_int ?_, rfl⟩
      rw [← HO.out, List.drop_of_length_le (by have := HN.out; omega)]
      rfl

theorem cmp_split (X Y : Nat) : orF [Frac.cmpI ((X / 18446744073709551616 : Nat) : Int) ((Y / 18446744073709551616 : Nat) : Int), Frac.cmpI ((X % 18446744073709551616 : Nat) : Int) ((Y % 18446744073709551616 : Nat) : Int)] = Frac.cmpI X Y := by
  simp only [orF]
  rcases Frac.cmpI_cases ((X / 18446744073709551616 : Nat) : Int) ((Y / 18446744073709551616 : Nat) : Int) with ⟨h1, k1⟩ | ⟨h1, k1⟩ | ⟨h1, k1⟩ <;>
  rcases Frac.cmpI_cases ((X % 18446744073709551616 : Nat) : Int) ((Y % 18446744073709551616 : Nat) : Int) with ⟨h2, k2⟩ | ⟨h2, k2⟩ | ⟨h2, k2⟩ <;>
  rw [k1, k2] <;> simp <;> first | (rw [Frac.cmpI_lt (by omega)]) | (rw [Frac.cmpI_gt (by omega)]) | (rw [Frac.cmpI_eq (by omega)])

theorem products_any (a b c d : Nat) (w : World) (ha : a < 18446744073709551616) (hb : b < 18446744073709551616) (hc : c < 18446744073709551616) (hd : d < 18446744073709551616) :
    Calls Try.prog 62 #[.int .u64 a, .int .u64 b, .int .u64 c, .int .u64 d] w fun e w' => e = .returned (.int .i64 (Frac.cmpI (a * b : Nat) (c * d : Nat))) ∧ Below w.heap.size w w' := by
  have HS := Lib.hid (cmp_split (a * b) (c * d))
  go_enter Try.func62, Try.ntmps62
  go_wp2_with fail
  with_reducible refine (Try.bits_Mul64 _ _ ha hb _).mono ?_
  rintro e w' ⟨rfl, rfl⟩
  generalize a * b / 18446744073709551616 = h1 at *
  generalize a * b % 18446744073709551616 = l1 at *
  go_wp2_with fail
  with_reducible refine (Try.bits_Mul64 _ _ hc hd _).mono ?_
  rintro e w' ⟨rfl, rfl⟩
  generalize c * d / 18446744073709551616 = h2 at *
  generalize c * d % 18446744073709551616 = l2 at *
  go_wp2_with fail
  with_reducible refine (compare_u64 _ _ _).mono ?_
  rintro e w' ⟨rfl, rfl⟩
  go_wp2_with fail
  with_reducible refine (compare_u64 _ _ _).mono ?_
  rintro e w' ⟨rfl, rfl⟩
  go_wp2_with fail
  with_reducible refine (or_any _ [Frac.cmpI h1 h2, Frac.cmpI l1 l2] 2 _ _ rfl (by omega) ?hb).mono ?_
  case hb => exact heap_alloc_new _ _
  rintro e w' ⟨rfl, rfl⟩
  go_wp2
  go_ret
  exact ⟨ret_int HS.out, by go_grown⟩

set_option maxHeartbeats 1000000 in
theorem compare_any (a b c d : Int) (w : World) (ha1 : -4611686018427387904 ≤ a) (ha2 : a ≤ 4611686018427387904) (hb1 : 1 ≤ b) (hb2 : b ≤ 4611686018427387904)
    (hc1 : -4611686018427387904 ≤ c) (hc2 : c ≤ 4611686018427387904) (hd1 : 1 ≤ d) (hd2 : d ≤ 4611686018427387904) :
    Calls Try.prog 52 #[.agg #[.int .i64 a, .int .i64 b], .agg #[.int .i64 c, .int .i64 d]] w fun e w' => e = .returned (.int .i64 (Frac.cmpF a b c d)) ∧ Below w.heap.size w w' := by
  have HS := Lib.hid (Frac.cmpS_eq a b c d hb1 hd1)
  have HU := Lib.hid (show Frac.cmpS a b c d = if Frac.cmpI (Frac.cmpI a 0) (Frac.cmpI c 0) ≠ 0 then Frac.cmpI (Frac.cmpI a 0) (Frac.cmpI c 0) else
    if a < 0 then -Frac.cmpI (a.natAbs * d.natAbs : Nat) (c.natAbs * b.natAbs : Nat) else Frac.cmpI (a.natAbs * d.natAbs : Nat) (c.natAbs * b.natAbs : Nat) from rfl)
  have bd := Frac.cmpI_bd (a.natAbs * d.natAbs : Nat) (c.natAbs * b.natAbs : Nat)
  generalize hq : Frac.cmpI (Frac.cmpI a 0) (Frac.cmpI c 0) = q at *
  have HQ := Lib.hid hq
  clear hq
  by_cases h0 : q = 0
  · subst h0
    generalize hm : Frac.cmpI (a.natAbs * d.natAbs : Nat) (c.natAbs * b.natAbs : Nat) = m at *
    have HM := Lib.hid hm
    clear hm
    go_enter Try.func52, Try.ntmps52
    go_wp2_with fail
    go_quiet ((go_at_call 54; exact quiet_left (compare_int _ _ _)))
    simp only [HQ.out]
    go_wp2_with fail
    go_region_held3 (fun w' => w'.cell? ⟨w.heap.size, 0, none⟩ = some (.int .i64 a) ∧ w'.cell? ⟨w.heap.size, 1, none⟩ = some (.int .i64 b) ∧ w'.cell? ⟨w.heap.size + 1, 0, none⟩ = some (.int .i64 c) ∧ w'.cell? ⟨w.heap.size + 1, 1, none⟩ = some (.int .i64 d))
      (first | go_keep | (refine ⟨?_, ?_, ?_, ?_⟩ <;> (refine (hb.cell (by first | (simp; done) | (simp; omega))).trans ?_; go_simp)))
      (first | (go_at_call 78; refine (size_any _ _ (by omega) (by omega)).mono ?_; rintro e w' ⟨rfl, rfl⟩) | (go_at_call 62; refine (products_any _ _ _ _ _ (by omega) (by omega) (by omega) (by omega)).mono ?_; rintro e w' ⟨rfl, hb⟩))
    have HC := Lib.hid (HS.out.symm.trans (HU.out.trans (if_neg (by simp))))
    clear HS HU HQ
    have HM2 := HM.out
    rw [Int.natCast_mul, Int.natCast_mul] at HM2
    simp only [HM2]
    clear HM HM2
    go_wp2
    · go_ret
      refine ⟨ret_int (by rw [HC.out, if_pos (by assumption)]), ?_⟩
      exact Below.trans (below_drewN (((Below.refl _ _).alloc (Nat.le_refl _) _).alloc (by simp) _) _) (hb.mono (by simp; omega))
    · go_ret
      refine ⟨ret_int (by rw [HC.out, if_neg (by omega)]), ?_⟩
      exact Below.trans (below_drewN (((Below.refl _ _).alloc (Nat.le_refl _) _).alloc (by simp) _) _) (hb.mono (by simp; omega))
  · have e1 : (q != 0) = true := by simp [h0]
    have HC := Lib.hid (HS.out.symm.trans (HU.out.trans (if_pos h0)))
    clear h0
    go_enter Try.func52, Try.ntmps52
    go_wp2_with fail
    go_quiet ((go_at_call 54; exact quiet_left (compare_int _ _ _)))
    simp only [HQ.out]
    go_wp2
    go_ret
    exact ⟨ret_int HC.out.symm, below_drewN (by go_grown) _⟩

theorem right_parts {n d : Int} (h : Frac.rightB n d = true) : -4611686018427387904 ≤ n ∧ n ≤ 4611686018427387904 ∧ 1 ≤ d ∧ d ≤ 4611686018427387904 := by
  unfold Frac.rightB at h
  have := of_decide_eq_true h
  omega
/-- what Compare answers -/
def cmpV (a b c d : Int) : Int × Int := if Frac.rightB a b = true ∧ Frac.rightB c d = true then (Frac.cmpF a b c d, 0) else (0, 3)
set_option maxHeartbeats 1000000 in
theorem Compare_any (a b c d : Int) (w : World) (ha1 : -9223372036854775808 ≤ a) (ha2 : a ≤ 9223372036854775807) (hb1 : -9223372036854775808 ≤ b) (hb2 : b ≤ 9223372036854775807)
    (hc1 : -9223372036854775808 ≤ c) (hc2 : c ≤ 9223372036854775807) (hd1 : -9223372036854775808 ≤ d) (hd2 : d ≤ 9223372036854775807) :
    Calls Try.prog 12 #[.agg #[.int .i64 a, .int .i64 b], .agg #[.int .i64 c, .int .i64 d]] w fun e w' => e = .returned (.tuple #[.int .i64 (cmpV a b c d).1, .int .i64 (cmpV a b c d).2]) ∧ Below w.heap.size w w' := by
  have HI1 := Lib.hid (fun w => isRight_any a b w ha1 ha2 hb1 hb2)
  have HI2 := Lib.hid (fun w => isRight_any c d w hc1 hc2 hd1 hd2)
  cases h1 : Frac.rightB a b with
  | false =>
    have H := Lib.hid (show cmpV a b c d = (0, 3) by unfold cmpV; rw [if_neg (by simp [h1])])
    rw [H.out]
    rw [h1] at HI1
    clear H h1 HI2
    go_enter Try.func12, Try.ntmps12
    go_wp2_with fail
    with_reducible refine (HI1.out _).mono ?_
    rintro e w' ⟨rfl, hb⟩
    go_wp2
    go_ret2
    exact ⟨rfl, (((Below.refl _ _).alloc (Nat.le_refl _) _).alloc (by simp) _).trans (hb.mono (by simp; omega))⟩
  | true =>
    cases h2 : Frac.rightB c d with
    | false =>
      have H := Lib.hid (show cmpV a b c d = (0, 3) by unfold cmpV; rw [if_neg (by simp [h2])])
      rw [H.out]
      rw [h1] at HI1
      rw [h2] at HI2
      clear H h1 h2
      go_enter Try.func12, Try.ntmps12
      go_wp2_with fail
      with_reducible refine (HI1.out _).mono ?_
      rintro e w1 ⟨rfl, hb⟩
      have hc0 := hb.cell (p := ⟨w.heap.size + 1, 0, none⟩) (by simp)
      have hc1 := hb.cell (p := ⟨w.heap.size + 1, 1, none⟩) (by simp)
      simp at hc0 hc1
      go_wp2_with fail
      with_reducible refine (HI2.out _).mono ?_
      rintro e w2 ⟨rfl, hb'⟩
      have hz := hb.size
      go_wp2
      go_ret2
      exact ⟨rfl, ((((Below.refl _ _).alloc (Nat.le_refl _) _).alloc (by simp) _).trans (hb.mono (by simp; omega))).trans (hb'.mono (by simp at hz; omega))⟩
    | true =>
      have H := Lib.hid (show cmpV a b c d = (Frac.cmpF a b c d, 0) by unfold cmpV; rw [if_pos ⟨h1, h2⟩])
      rw [H.out]
      rw [h1] at HI1
      rw [h2] at HI2
      obtain ⟨p1, p2, p3, p4⟩ := right_parts h1
      obtain ⟨q1, q2, q3, q4⟩ := right_parts h2
      clear H h1 h2
      go_enter Try.func12, Try.ntmps12
      go_wp2_with fail
      with_reducible refine (HI1.out _).mono ?_
      rintro e w1 ⟨rfl, hb⟩
      have c0 : w1.cell? ⟨w.heap.size, 0, none⟩ = some (.int .i64 a) := (hb.cell (by simp; omega)).trans (by go_simp)
      have c1 : w1.cell? ⟨w.heap.size, 1, none⟩ = some (.int .i64 b) := (hb.cell (by simp; omega)).trans (by go_simp)
      have c2 : w1.cell? ⟨w.heap.size + 1, 0, none⟩ = some (.int .i64 c) := (hb.cell (by simp)).trans (by go_simp)
      have c3 : w1.cell? ⟨w.heap.size + 1, 1, none⟩ = some (.int .i64 d) := (hb.cell (by simp)).trans (by go_simp)
      have hz : w.heap.size + 1 + 1 ≤ w1.heap.size := by have := hb.size; simpa using this
      go_wp2_with fail
      with_reducible refine (HI2.out _).mono ?_
      rintro e w2 ⟨rfl, hb'⟩
      have d0 : w2.cell? ⟨w.heap.size, 0, none⟩ = some (.int .i64 a) := (hb'.cell (by show w.heap.size < _; omega)).trans c0
      have d1 : w2.cell? ⟨w.heap.size, 1, none⟩ = some (.int .i64 b) := (hb'.cell (by show w.heap.size < _; omega)).trans c1
      have d2 : w2.cell? ⟨w.heap.size + 1, 0, none⟩ = some (.int .i64 c) := (hb'.cell (by show w.heap.size + 1 < _; omega)).trans c2
      have d3 : w2.cell? ⟨w.heap.size + 1, 1, none⟩ = some (.int .i64 d) := (hb'.cell (by show w.heap.size + 1 < _; omega)).trans c3
      have hz' := hb'.size
      clear c0 c1 c2 c3
      go_wp2_with fail
      with_reducible refine (compare_any _ _ _ _ _ p1 p2 p3 p4 q1 q2 q3 q4).mono ?_
      rintro e w3 ⟨rfl, hb''⟩
      clear d0 d1 d2 d3
      go_wp2
      go_ret2
      exact ⟨rfl, (((((Below.refl _ _).alloc (Nat.le_refl _) _).alloc (by simp) _).trans (hb.mono (by simp; omega))).trans (hb'.mono (by omega))).trans (hb''.mono (by omega))⟩
end Go.Proofs.Ytdnikegakcdcnaa
