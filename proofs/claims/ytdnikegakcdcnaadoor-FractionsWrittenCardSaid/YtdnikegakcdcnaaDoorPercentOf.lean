/- handref1.PercentOf. -/
import Derived.Test.YtdnikegakcdcnaaDoorPct
import Derived.Test.YtdnikegakcdcnaaDoorRef2
import Derived.WalkSpells
import Derived.Deep.DeepCutAuto
set_option linter.unusedVariables false
namespace Go.Proofs.YtdnikegakcdcnaaDoor
open Go.RowKit

set_option maxRecDepth 100000 in
set_option maxHeartbeats 4000000 in
theorem PercentOf_any (n d pl : Int) (w : World) (hn1 : -9223372036854775808 ≤ n) (hn2 : n ≤ 9223372036854775807) (hd1 : -9223372036854775808 ≤ d) (hd2 : d ≤ 9223372036854775807) (htab : P10 w) :
    Calls Tryd.prog 89 #[.agg #[.int .i64 n, .int .i64 d], .int .i64 pl] w (PctOut w n d pl) := by
  have HI1 := Lib.hid (fun w => FractionOf_any n d w)
  cases h1 : Frac.rightB n d with
  | false =>
    have HE := Lib.hid (show pcE n d pl = 3 by unfold pcE; rw [if_pos h1])
    rw [h1] at HI1
    clear h1
    go_enter Tryd.func89, Tryd.ntmps89
    go_wp2_with fail
    with_reducible refine (HI1.out _).mono ?_
    rintro e w' ⟨rfl, hb⟩
    go_wp2
    go_ret2
    exact pctOut_bad HE.out (by decide) (((Below.refl _ _).alloc (Nat.le_refl _) _).trans (hb.mono (by simp)))
  | true =>
    obtain ⟨hn3, hn4, hd3, hd4⟩ := right_parts h1
    have HR := Lib.hid h1
    rw [h1] at HI1
    clear h1
    obtain ⟨D, rfl⟩ := Int.eq_ofNat_of_zero_le (show 0 ≤ d by omega)
    have hmax : max n (-n) = (n.natAbs : Int) := by omega
    go_enter Tryd.func89, Tryd.ntmps89
    go_wp2_with fail
    with_reducible refine (HI1.out _).mono ?_
    rintro e w1 ⟨rfl, hb1⟩
    have hk0 := hb1.cell (p := ⟨w.heap.size, 0, none⟩) (by simp)
    have hk1 := hb1.cell (p := ⟨w.heap.size, 1, none⟩) (by simp)
    simp at hk0 hk1
    have HB1 := Lib.hid (((Below.refl w.heap.size w).alloc (Nat.le_refl _) (.cells #[.int .i64 n, .int .i64 D] 117)).trans (hb1.mono (by simp)))
    have hz1 := hb1.size
    simp at hz1
    have HT1 := Lib.hid (p10_below htab HB1.out)
    clear hb1 HI1
    clear hmax
    have hD0 : ¬ (D : Int) = 0 := by omega
    have hDp : 0 < D := by omega
    have eq1 : ((n.natAbs : Nat) : Int).tdiv (D : Int) = ((n.natAbs / D : Nat) : Int) := by rw [Int.tdiv_eq_ediv_of_nonneg (by omega)]; exact Int.natCast_ediv _ _ |>.symm
    have eq2 : ((n.natAbs : Nat) : Int).tmod (D : Int) = ((n.natAbs % D : Nat) : Int) := by rw [Int.tmod_eq_emod_of_nonneg (by omega)]; exact Int.natCast_emod _ _ |>.symm
    have hbi := big_iff n.natAbs D 1000000 hDp
    have HE0 := Lib.hid (show pcE n D pl = if D * 1000000 < n.natAbs then 2 else if pl < 0 ∨ 6 < pl then 1 else 0 by unfold pcE; rw [if_neg (by rw [HR.out]; decide), Int.natAbs_natCast])
    have HQ0 := Lib.hid (fun p => pcQ_dv n.natAbs D p)
    have HO := Lib.hid (fun (p Q : Nat) (s : ByteArray) (w' : World) => pctOut_ok (w := w) (w' := w') (n := n) (D := D) (p := p) (Q := Q) (s := s))
    have hNb : n.natAbs ≤ 4611686018427387904 := by omega
    generalize n.natAbs = N at *
    have hqN := Nat.le_trans (Nat.div_le_self N D) hNb
    have hrN := Nat.le_trans (Nat.mod_le N D) hNb
    by_cases hbig : D * 1000000 < N
    · have HE := Lib.hid (HE0.out.trans (if_pos hbig))
      have hbi2 := hbi.1 hbig
      clear hbi HE0 HQ0 HO hbig
      generalize N / D = q0 at *
      generalize N % D = r0 at *
      rcases hbi2 with hq | ⟨hq, hr⟩
      · go_wp2
        go_ret2
        exact pctOut_bad HE.out (by decide) HB1.out
      · subst hq
        go_wp2
        go_ret2
        exact pctOut_bad HE.out (by decide) HB1.out
    · have HE1 := Lib.hid (HE0.out.trans (if_neg hbig))
      have hbi2 : ¬ (1000000 < N / D ∨ (N / D = 1000000 ∧ 0 < N % D)) := fun h => hbig (hbi.2 h)
      have hrD := Nat.mod_lt N hDp
      clear hbi HE0
      generalize hq0 : N / D = q0 at *
      generalize hr0 : N % D = r0 at *
      have hq1 : q0 ≤ 1000000 := by omega
      have hq2 : q0 = 1000000 → r0 = 0 := by omega
      clear hbi2
      by_cases hpl : pl < 0 ∨ 6 < pl
      · have HE := Lib.hid (HE1.out.trans (if_pos hpl))
        clear HE1 HO HQ0
        by_cases hqe : q0 = 1000000
        · obtain rfl := hq2 hqe
          subst hqe
          by_cases hpl2 : pl < 0
          · go_wp2
            go_ret2
            exact pctOut_bad HE.out (by decide) HB1.out
          · have hpl3 : 6 < pl := by omega
            go_wp2
            go_ret2
            exact pctOut_bad HE.out (by decide) HB1.out
        · by_cases hpl2 : pl < 0
          · go_wp2
            go_ret2
            exact pctOut_bad HE.out (by decide) HB1.out
          · have hpl3 : 6 < pl := by omega
            go_wp2
            go_ret2
            exact pctOut_bad HE.out (by decide) HB1.out
      · obtain ⟨p, rfl⟩ := Int.eq_ofNat_of_zero_le (show 0 ≤ pl by omega)
        have hp6 : p ≤ 6 := by omega
        have HE := Lib.hid (HE1.out.trans (if_neg hpl))
        clear HE1 hpl
        rcases Decidable.em (q0 = 1000000) with hqe | hqe
        all_goals go_wp2_with fail
        all_goals clear hqe hq2
        all_goals go_quiet (fail)
        all_goals clear eq1 eq2
        all_goals
          have hS : Below w.heap.size w w1 ∧ w.heap.size < w1.heap.size ∧ P10 w1 := ⟨HB1.out, by omega, HT1.out⟩
          clear HB1 HT1
          go_wp2_with fail
          go_loopw [7, 8, 61] (fun wh rs i wr => ∃ j : Nat, j ≤ p + 2 ∧ wh = .int .i64 (dvW N D j : Int) ∧ rs = .int .i64 (dvR N D j : Int) ∧ i = .int .i64 j ∧ wr.cell? ⟨w.heap.size, 0, none⟩ = some (.int .i64 n) ∧ wr.cell? ⟨w.heap.size, 1, none⟩ = some (.int .i64 D) ∧ Below w.heap.size w wr ∧ w.heap.size < wr.heap.size ∧ P10 wr) (fun _ _ i _ => p + 2 - (intOf i).toNat)
          case atStart => exact ⟨0, Nat.zero_le _, by rw [dvW_zero, hq0], by rw [dvR_zero, hr0], rfl, hk0, hk1, below_dN hS.1 _, hS.2.1, p10_block hS.2.2 rfl⟩
          case round =>
            obtain ⟨j, hj, rfl, rfl, rfl, hc0, hc1, hB, hz, hT⟩ := hrel
            have HB := Lib.hid hB
            have HT := Lib.hid hT
            clear hB hT hS hk0 hk1 hq0 hr0
            have hRl := dvR_lt N D j hDp
            have hWl := dvW_le N D j (by omega) (by omega)
            by_cases hlt : j < p + 2
            · have e1 := dvW_succ N D j hDp
              have e2 := dvR_succ N D j
              generalize dvW N D j = W0 at *
              generalize dvR N D j = R0 at *
              have hl : R0 * 10 < 18446744073709551616 * D := by omega
              go_wp2_with fail
              refine (mul64 R0 10 _ (by omega) (by omega)).mono ?_
              rintro e w3 ⟨⟨m1, m2, hm, rfl⟩, rfl⟩
              go_wp2_with fail
              with_reducible refine (div_of_mul R0 10 D m1 m2 _ hm (by omega) hl).mono ?_
              rintro e w3 ⟨⟨q, r, hq, rfl⟩, kk, rfl⟩
              have hq10 : q < 10 := by rw [hq.1]; exact dig_lt _ _ hRl
              have hrD2 : r < D := by rw [hq.2]; exact Nat.mod_lt _ hDp
              rw [← hq.1] at e1
              rw [← hq.2] at e2
              clear hq hm hl
              go_wp2
              go_roundw
              case rel => exact ⟨j + 1, by omega, by rw [e1]; go_num, by rw [e2], by go_num, hc0, hc1, below_dN HB.out _, hz, p10_block HT.out rfl⟩
              case measure => simp [intOf]; omega
            · obtain rfl : j = p + 2 := by omega
              have HQ1 := HQ0.out p
              clear HQ0
              generalize dvW N D (p + 2) = W0 at *
              generalize dvR N D (p + 2) = R0 at *
              rcases Decidable.em (D ≤ 2 * R0) with hr | hr
              all_goals go_wp2_with fail
              all_goals first
                | (rw [if_pos hr] at HQ1
                   have hQb : W0 + 1 ≤ 100000000000001 := by omega
                   generalize hzz : (W0 : Int) + 1 = z
                   obtain rfl : z = ((W0 + 1 : Nat) : Int) := by omega
                   clear hzz hWl
                   generalize W0 + 1 = Q at *)
                | (rw [if_neg hr, Nat.add_zero] at HQ1
                   have hQb : W0 ≤ 100000000000001 := by omega
                   clear hWl
                   generalize W0 = Q at *)
              all_goals
                have HP := Lib.hid HQ1
                have hl1 := decDigits_len Q (by omega)
                clear HQ1 hr hRl
                with_reducible refine (itoa_any Q (by omega) _ HT.out).mono ?_
                rintro e w4 ⟨rfl, b4⟩
                have hk4 : w4.cell? ⟨w.heap.size, 0, none⟩ = some (.int .i64 n) := (b4.cell (p := ⟨w.heap.size, 0, none⟩) hz).trans hc0
                have HB4 := Lib.hid (HB.out.trans (b4.mono HB.out.size))
                clear b4 HB HT hc0 hc1
                have hZ := pcZ_size p Q
                have HZJ := Lib.hid (show zj (p + 1 - (Lib.decDigits Q).length) (Lib.decDigits Q) = pcZ p Q from rfl)
                have HS := Lib.hid (show pcS n p Q = if n < 0 ∧ Q ≠ 0 then ⟨#[45]⟩ ++ pcP p (pcZ p Q) else pcP p (pcZ p Q) from rfl)
                have HPP := Lib.hid (show pcP p (pcZ p Q) = if p = 0 then pcZ p Q else (pcZ p Q).extract 0 ((pcZ p Q).size - p) ++ ⟨#[46]⟩ ++ (pcZ p Q).extract ((pcZ p Q).size - p) (pcZ p Q).size from rfl)
                rw [show (⟨(Lib.decDigits Q).toArray⟩ : ByteArray) = zj 0 (Lib.decDigits Q) from rfl]
                generalize Lib.decDigits Q = ds at *
                generalize pcZ p Q = Z at *
                go_wp2_with fail
                go_loopw [13] (fun s wr => ∃ j, s = .string (zj j ds) ∧ j ≤ p + 1 - ds.length ∧ wr = w4) (fun s _ => p + 1 - strLen s)
                case atStart => exact ⟨0, rfl, Nat.zero_le _, rfl⟩
                case round =>
                  obtain ⟨j, rfl, hj, rfl⟩ := hrel
                  have hsz := zj_size j ds
                  by_cases hlt2 : j + ds.length < p + 1
                  · go_wp2
                    go_roundw
                    case rel => exact ⟨j + 1, by rw [← zj_succ], by omega, by trivial⟩
                    case measure => rw [zj_succ]; simp [strLen, zj_size]; omega
                  · obtain rfl : j = p + 1 - ds.length := by omega
                    clear hsz
                    rw [HZJ.out]
                    have HS2 := HS.out
                    rw [HPP.out] at HS2
                    have hQn : (Q : Int) ≠ 0 ↔ Q ≠ 0 := by omega
                    clear HS HPP HZJ
                    rcases Nat.eq_zero_or_pos p with hk00 | hk00
                    · subst hk00
                      rw [if_pos rfl] at HS2
                      by_cases hneg : n < 0 ∧ Q ≠ 0
                      · rw [if_pos hneg] at HS2
                        have HS3 := Lib.hid HS2
                        obtain ⟨hn0, hQ0⟩ := hneg
                        clear HS2
                        go_wp2
                        go_ret2
                        exact HO.out _ _ _ _ HE.out HP.out HS3.out HB4.out
                      · rw [if_neg hneg] at HS2
                        have HS3 := Lib.hid HS2
                        clear HS2
                        by_cases hn0 : n < 0
                        · have hQ0 : Q = 0 := by omega
                          subst hQ0
                          go_wp2
                          go_ret2
                          exact HO.out _ _ _ _ HE.out HP.out HS3.out HB4.out
                        · go_wp2
                          go_ret2
                          exact HO.out _ _ _ _ HE.out HP.out HS3.out HB4.out
                    · rw [if_neg (show ¬ p = 0 by omega)] at HS2
                      go_wp2_with fail
                      go_quiet (fail)
                      have hss : (Z.extract 0 (Z.size - p) ++ ⟨#[46]⟩ ++ Z.extract (Z.size - p) Z.size).size ≤ 40 := by
                        rw [ByteArray.size_append, ByteArray.size_append, ByteArray.size_extract, ByteArray.size_extract, show (⟨#[46]⟩ : ByteArray).size = 1 from rfl]
                        omega
                      generalize (Z.extract 0 (Z.size - p) ++ ⟨#[46]⟩ ++ Z.extract (Z.size - p) Z.size) = s at *
                      by_cases hneg : n < 0 ∧ Q ≠ 0
                      · rw [if_pos hneg] at HS2
                        have HS3 := Lib.hid HS2
                        obtain ⟨hn0, hQ0⟩ := hneg
                        clear HS2
                        go_wp2
                        go_ret2
                        exact HO.out _ _ _ _ HE.out HP.out HS3.out (below_dN HB4.out nq)
                      · rw [if_neg hneg] at HS2
                        have HS3 := Lib.hid HS2
                        clear HS2
                        by_cases hn0 : n < 0
                        · have hQ0 : Q = 0 := by omega
                          subst hQ0
                          go_wp2
                          go_ret2
                          exact HO.out _ _ _ _ HE.out HP.out HS3.out (below_dN HB4.out nq)
                        · go_wp2
                          go_ret2
                          exact HO.out _ _ _ _ HE.out HP.out HS3.out (below_dN HB4.out nq)
end Go.Proofs.YtdnikegakcdcnaaDoor
