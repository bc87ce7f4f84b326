/- The walk of the statement FractionsReduced. -/
import Derived.Test.YtdnikegakcdcnaaRow
import Derived.Test.YtdnikegakcdcnaaMeasures
import Derived.Test.YtdnikegakcdcnaaFraction
import Derived.Test.YtdnikegakcdcnaaCompare
import Derived.Test.YtdnikegakcdcnaaRef2
import Derived.Test.YtdnikegakcdcnaaCompareOf
set_option linter.unusedVariables false
namespace Go.Proofs.Ytdnikegakcdcnaa
open Go.RowKit

/-- two fractions lie in two blocks -/
def Two (w : World) (p q : Nat) (n1 d1 n2 d2 : Int) : Prop :=
  p < w.heap.size ∧ q < w.heap.size ∧ w.cell? ⟨p, 0, none⟩ = some (.int .i64 n1) ∧ w.cell? ⟨p, 1, none⟩ = some (.int .i64 d1) ∧ w.cell? ⟨q, 0, none⟩ = some (.int .i64 n2) ∧ w.cell? ⟨q, 1, none⟩ = some (.int .i64 d2)
theorem Two.below {w w' : World} {p q : Nat} {n1 d1 n2 d2 : Int} (h : Two w p q n1 d1 n2 d2) (hb : Below w.heap.size w w') : Two w' p q n1 d1 n2 d2 := by
  obtain ⟨hp, hq, h1, h2, h3, h4⟩ := h
  have hz := hb.size
  exact ⟨by omega, by omega, (hb.cell hp).trans h1, (hb.cell hp).trans h2, (hb.cell hq).trans h3, (hb.cell hq).trans h4⟩

set_option maxRecDepth 100000 in
set_option maxHeartbeats 4000000 in
theorem fractionsReduced_walk (a0 : Option Addr) (len0 cap0 : Nat) (z0 : List Int) (w : World) (w0 : IsRow .i64 w a0 len0 cap0 z0) :
    Calls Try.prog 3 #[.slice a0 len0 cap0] w fun e w' => e = .returned (.bool true) ∧ Below w.heap.size w w' := by
  obtain ⟨S, hBS, hp, s0, g0⟩ := strm_begin w0
  clear w0
  go_enter Try.func3, Try.ntmps3
  go_wp2_with fail

  clear hp
  with_reducible refine (part_any S 0 _ s0 (by omega)).mono ?_
  rintro e w1 ⟨a, ⟨ha1, ha2⟩, rfl, k1, s1⟩
  have g1 := grown_trans g0 k1
  clear s0 g0 k1
  go_wp2_with fail
  with_reducible refine (part_any S _ _ s1 (by omega)).mono ?_
  rintro e w2 ⟨b, ⟨hb1, hb2⟩, rfl, k1, s2⟩
  have g2 := grown_trans g1 k1
  clear s1 g1 k1
  go_wp2_with fail
  with_reducible refine (Reduce_any _ _ _).mono ?_
  rintro e w3 ⟨rfl, k1⟩
  have g3 := grown_trans g2 (grown_of_below k1 _)
  have s3 := strm_below s2 k1
  clear s2 g2 k1
  go_wp2_with fail
  with_reducible refine (ReduceOf_any _ _ _).mono ?_
  rintro e w4 ⟨rfl, k1⟩
  generalize (redV a b).1 = rn at *
  generalize (redV a b).2.1 = rd at *
  generalize (redV a b).2.2 = re at *
  have g4 := grown_trans (grown_alloc g3 _) (grown_of_below k1 _)
  have s4 := strm_below (strm_alloc s3 _) k1
  have c0 : w4.cell? ⟨w3.heap.size, 0, none⟩ = some (.int .i64 rn) := (k1.cell (by simp)).trans (by go_simp)
  have c1 : w4.cell? ⟨w3.heap.size, 1, none⟩ = some (.int .i64 rd) := (k1.cell (by simp)).trans (by go_simp)
  have hz : w3.heap.size < w4.heap.size := by have := k1.size; simp at this; omega
  clear s3 g3 k1
  have hq := fun (w : World) => fr_neq rn rd rn rd w
  have hg := fr_guard .neq
  go_wp2_with fail
  clear hq hg c0 c1
  with_reducible refine (fraction_any S _ _ (strm_alloc s4 _) (by omega)).mono ?_
  rintro e w5 ⟨n1, d1, ⟨n1a, n1b⟩, ⟨d1a, d1b⟩, rfl, k1, s5⟩
  have g5 := grown_trans (grown_alloc g4 _) k1
  clear s4 g4 k1 hz
  go_wp2_with fail
  with_reducible refine (fraction_any S _ _ s5 (by omega)).mono ?_
  rintro e w6 ⟨n2, d2, ⟨n2a, n2b⟩, ⟨d2a, d2b⟩, rfl, k1, s6⟩
  have g6 := grown_trans g5 k1
  clear s5 g5 k1
  go_wp2_with fail
  have t6 : Two ((w6.alloc (.cells #[.int .i64 n1, .int .i64 d1] 28)).alloc (.cells #[.int .i64 n2, .int .i64 d2] 28)) w6.heap.size (w6.heap.size + 1) n1 d1 n2 d2 :=
    ⟨by simp; omega, by simp, by go_simp, by go_simp, by go_simp, by go_simp⟩
  have b6 : Below w.heap.size w ((w6.alloc (.cells #[.int .i64 n1, .int .i64 d1] 28)).alloc (.cells #[.int .i64 n2, .int .i64 d2] 28)) :=
    ((below_of_grown g6 hBS).alloc g6.size _).alloc (by have := g6.size; simp; omega) _
  have z6 := b6.size
  clear s6 g6
  with_reducible refine (Compare_any _ _ _ _ _ n1a n1b d1a d1b n2a n2b d2a d2b).mono ?_
  rintro e w7 ⟨rfl, k1⟩
  have t7 := t6.below k1
  have b7 := b6.trans (k1.mono z6)
  have z7 := b7.size
  clear t6 b6 z6 k1
  obtain ⟨_, _, c0, c1, c2, c3⟩ := id t7
  have HV := Lib.hid (show cmpV n1 d1 n2 d2 = if Frac.rightB n1 d1 = true ∧ Frac.rightB n2 d2 = true then (Frac.cmpF n1 d1 n2 d2, 0) else (0, 3) from rfl)
  have HF1 := Lib.hid (fun w => FractionOf_any n1 d1 w)
  have HF2 := Lib.hid (fun w => FractionOf_any n2 d2 w)
  go_wp2_with fail
  with_reducible refine (HF1.out _).mono ?_
  rintro e w8 ⟨rfl, k1⟩
  have t8 := t7.below k1
  have b8 := b7.trans (k1.mono z7)
  have z8 := b8.size
  clear t7 b7 z7 k1 c0 c1 c2 c3 HF1
  obtain ⟨_, _, c0, c1, c2, c3⟩ := id t8
  cases h1 : Frac.rightB n1 d1 with
  | false =>
    rw [h1] at HV
    have HC := Lib.hid (HV.out.trans (if_neg (by simp)))
    rw [HC.out]
    clear HC HV HF2 h1
    go_wp2_with fail
    with_reducible refine (measures_any _).mono ?_
    rintro e w9 ⟨rfl, k1⟩
    have b9 := b8.trans (k1.mono z8)
    go_wp2
    go_ret
    exact ⟨rfl, b9⟩
  | true =>
    go_wp2_with fail
    with_reducible refine (HF2.out _).mono ?_
    rintro e w9 ⟨rfl, k1⟩
    have t9 := t8.below k1
    have b9 := b8.trans (k1.mono z8)
    have z9 := b9.size
    clear t8 b8 z8 k1 c0 c1 c2 c3 HF2
    cases h2 : Frac.rightB n2 d2 with
    | false =>
      rw [h1, h2] at HV
      have HC := Lib.hid (HV.out.trans (if_neg (by simp)))
      rw [HC.out]
      clear HC HV h1 h2
      go_wp2_with fail
      with_reducible refine (measures_any _).mono ?_
      rintro e w10 ⟨rfl, k1⟩
      have b10 := b9.trans (k1.mono z9)
      go_wp2
      go_ret
      exact ⟨rfl, b10⟩
    | true =>
      rw [h1, h2] at HV
      have HC := Lib.hid (HV.out.trans (if_pos (by simp)))
      rw [HC.out]
      obtain ⟨p1, p2, p3, p4⟩ := right_parts h1
      obtain ⟨q1, q2, q3, q4⟩ := right_parts h2
      clear HC HV h1 h2
      go_wp2_with fail
      with_reducible refine (measures_any _).mono ?_
      rintro e w10 ⟨rfl, k1⟩
      have t10 := t9.below k1
      have b10 := b9.trans (k1.mono z9)
      have z10 := b10.size
      clear t9 b9 z9 k1
      obtain ⟨_, _, c0, c1, c2, c3⟩ := id t10
      go_wp2_with fail
      with_reducible refine (CompareOf_any (d1.toNat + d2.toNat + 1) _ _ _ _ _ (by omega) p1 p2 p3 p4 q1 q2 q3 q4).mono ?_
      rintro e w11 ⟨rfl, k1⟩
      have b11 := b10.trans (k1.mono z10)
      clear t10 b10 z10 k1 c0 c1 c2 c3
      go_wp2
      go_ret
      exact ⟨rfl, b11⟩
end Go.Proofs.Ytdnikegakcdcnaa
