/- measure.Percent. -/
import Derived.Test.YtdnikegakcdcnaaDoorPct
import Derived.Test.YtdnikegakcdcnaaDoorCompare
import Derived.WalkSpells
import Derived.Deep.DeepCutAuto
set_option linter.unusedVariables false
namespace Go.Proofs.YtdnikegakcdcnaaDoor
open Go.RowKit

set_option maxRecDepth 100000 in
set_option maxHeartbeats 4000000 in
theorem Percent_any (n d pl : Int) (w : World) (hn1 : -9223372036854775808 ≤ n) (hn2 : n ≤ 9223372036854775807) (hd1 : -9223372036854775808 ≤ d) (hd2 : d ≤ 9223372036854775807) (htab : P10 w) :
    Calls Tryd.prog 88 #[.agg #[.int .i64 n, .int .i64 d], .int .i64 pl] w (PctOut w n d pl) := by
  have HI1 := Lib.hid (fun w => isRight_any n d w hn1 hn2 hd1 hd2)
  cases h1 : Frac.rightB n d with
  | false =>
    have HE := Lib.hid (show pcE n d pl = 3 by unfold pcE; rw [if_pos h1])
    rw [h1] at HI1
    clear h1
    go_enter Tryd.func88, Tryd.ntmps88
    go_wp2_with fail
    with_reducible refine (HI1.out _).mono ?_
    rintro e w' ⟨rfl, hb⟩
    go_wp2
    go_ret2
    exact pctOut_bad HE.out (by decide) (((Below.refl _ _).alloc (Nat.le_refl _) _).trans (hb.mono (by simp)))
  | true =>
    obtain ⟨hn3, hn4, hd3, hd4⟩ := right_parts h1
    have HR := Lib.hid h1
    rw [h1] at HI1
    clear h1
    obtain ⟨D, rfl⟩ := Int.eq_ofNat_of_zero_le (show 0 ≤ d by omega)
    go_enter Tryd.func88, Tryd.ntmps88
    go_wp2_with fail
    with_reducible refine (HI1.out _).mono ?_
    rintro e w1 ⟨rfl, hb1⟩
    have hc0 := hb1.cell (p := ⟨w.heap.size, 0, none⟩) (by simp)
    have hc1 := hb1.cell (p := ⟨w.heap.size, 1, none⟩) (by simp)
    simp at hc0 hc1
    have HB1 := Lib.hid (((Below.refl w.heap.size w).alloc (Nat.le_refl _) (.cells #[.int .i64 n, .int .i64 D] 117)).trans (hb1.mono (by simp)))
    have hz1 := hb1.size
    simp at hz1
    clear hb1 HI1
    go_wp2_with fail
    go_region_held3 (fun w' => w'.cell? ⟨w.heap.size, 0, none⟩ = some (.int .i64 n) ∧ w'.cell? ⟨w.heap.size, 1, none⟩ = some (.int .i64 D))
      (first | go_keep | (refine ⟨?_, ?_⟩ <;> (refine (hb.cell (by first | (simp; done) | (simp; omega))).trans ?_; go_simp)))
      (first | (go_at_call 171; refine (size_any _ _ (by omega) (by omega)).mono ?_; rintro e w' ⟨rfl, rfl⟩) | (go_at_call 170; refine (products_any n.natAbs 1 D 1000000 _ (by omega) (by omega) (by omega) (by omega)).mono ?_; rintro e w' ⟨rfl, hb⟩))
    rename_i hH
    obtain ⟨hk0, hk1⟩ := hH
    have HB2 := Lib.hid (HB1.out.drew.trans (hb.mono (show w.heap.size ≤ w1.drew.heap.size by simp; omega)))
    have hz2 := hb.size
    simp at hz2
    clear hb HB1 hc0 hc1
    have HT2 := Lib.hid (p10_below htab HB2.out)
    by_cases hbig : D * 1000000 < n.natAbs
    · have HE := Lib.hid (show pcE n D pl = 2 by unfold pcE; rw [if_neg (by rw [HR.out]; decide), if_pos (by simpa using hbig)])
      have hcmp : Frac.cmpI (n.natAbs : Int) ((D : Int) * 1000000) = 1 := Frac.cmpI_gt (by omega)
      simp only [hcmp]
      go_wp2
      go_ret2
      exact pctOut_bad HE.out (by decide) HB2.out
    · have hcmp : ¬ 0 < Frac.cmpI (n.natAbs : Int) ((D : Int) * 1000000) := by
        rcases Frac.cmpI_cases (n.natAbs : Int) ((D : Int) * 1000000) with ⟨h, k⟩ | ⟨h, k⟩ | ⟨h, k⟩ <;> omega
      generalize Frac.cmpI (n.natAbs : Int) ((D : Int) * 1000000) = cc at *
      by_cases hpl : pl < 0 ∨ 6 < pl
      · have HE := Lib.hid (show pcE n D pl = 1 by unfold pcE; rw [if_neg (by rw [HR.out]; decide), if_neg (by simpa using hbig), if_pos hpl])
        go_wp2_with fail
        with_reducible refine (within_no _ _ _ _ hpl).mono ?_
        rintro e w3 ⟨rfl, rfl⟩
        go_wp2
        go_ret2
        exact pctOut_bad HE.out (by decide) HB2.out
      · obtain ⟨p, rfl⟩ := Int.eq_ofNat_of_zero_le (show 0 ≤ pl by omega)
        have hp6 : p ≤ 6 := by omega
        have HE := Lib.hid (show pcE n D p = 0 by unfold pcE; rw [if_neg (by rw [HR.out]; decide), if_neg (by simpa using hbig), if_neg hpl])
        go_wp2_with fail
        with_reducible refine (within_yes _ _ _ _ (by omega) (by omega)).mono ?_
        rintro e w3 ⟨rfl, rfl⟩
        go_wp2_with fail
        go_loopw [6, 30] (fun sc i wr => ∃ k : Nat, k ≤ p ∧ sc = .int .u64 ((100 * 10 ^ k : Nat) : Int) ∧ i = .int .i64 k ∧ wr = w') (fun _ i _ => p - (intOf i).toNat)
        case atStart => exact ⟨0, Nat.zero_le _, rfl, rfl, rfl⟩
        case round =>
          obtain ⟨k, hk, rfl, rfl, rfl⟩ := hrel
          by_cases hlt : k < p
          · have hsc := scale_le k (by omega)
            have e1 : 100 * 10 ^ (k + 1) = 100 * 10 ^ k * 10 := by rw [Nat.pow_succ, Nat.mul_assoc]
            generalize 100 * 10 ^ k = sc at *
            go_wp2
            go_roundw
            case rel => exact ⟨k + 1, by omega, by rw [e1]; go_num, by go_num, by trivial⟩
            case measure => simp [intOf]; omega
          · obtain rfl : k = p := by omega
            have hsc := scale_le k (by omega)
            have HQ := Lib.hid (show pcQ n.natAbs D k = n.natAbs * (100 * 10 ^ k) / D + (if D ≤ 2 * (n.natAbs * (100 * 10 ^ k) % D) then 1 else 0) from rfl)
            generalize 100 * 10 ^ k = sc at *
            have hlim : n.natAbs * sc < 18446744073709551616 * D := by
              have h1 : n.natAbs * sc ≤ (D * 1000000) * 100000000 := Nat.mul_le_mul (by omega) hsc
              omega
            go_wp2_with fail
            with_reducible refine (size_any _ _ (by omega) (by omega)).mono ?_
            rintro e w3 ⟨rfl, rfl⟩
            go_wp2_with fail
            with_reducible refine (mul64 _ _ _ (by omega) (by omega)).mono ?_
            rintro e w3 ⟨⟨m1, m2, hm, rfl⟩, rfl⟩
            go_wp2_with fail
            with_reducible refine (size_any _ _ (by omega) (by omega)).mono ?_
            rintro e w3 ⟨rfl, rfl⟩
            go_wp2_with fail
            with_reducible refine (div_of_mul n.natAbs sc D m1 m2 _ hm (by omega) hlim).mono ?_
            rintro e w3 ⟨⟨q, r, hq, rfl⟩, kk, rfl⟩
            have hrD : r < D := by rw [hq.2]; exact Nat.mod_lt _ (by omega)
            have hqb : q ≤ 100000000000000 := by
              rw [hq.1]
              exact quo_le _ _ _ (by omega) hsc
            have HQ2 := HQ.out
            rw [← hq.1, ← hq.2] at HQ2
            have HT3 := Lib.hid (p10_block (w' := wr.drewN kk) HT2.out rfl)
            have HB3 := Lib.hid (below_dN HB2.out kk)
            clear HQ hq hlim hsc hm HT2 HB2 hcmp
            rcases Decidable.em (D ≤ 2 * r) with hr | hr
            all_goals go_wp2_with fail
            all_goals with_reducible refine (size_any _ _ (by omega) (by omega)).mono ?_
            all_goals rintro e w3 ⟨rfl, rfl⟩
            all_goals go_wp2_with fail
            all_goals first
              | (rw [if_pos hr] at HQ2
                 have hQb : q + 1 ≤ 100000000000001 := by omega
                 generalize hz : (q : Int) + 1 = z
                 obtain rfl : z = ((q + 1 : Nat) : Int) := by omega
                 clear hz hqb
                 generalize q + 1 = Q at *)
              | (rw [if_neg hr, Nat.add_zero] at HQ2
                 have hQb : q ≤ 100000000000001 := by omega
                 clear hqb
                 generalize q = Q at *)
            all_goals
              have HP := Lib.hid HQ2
              have hl1 := decDigits_len Q (by omega)
              clear HQ2 hr hrD
              with_reducible refine (fmtU_any Q (by omega) _ HT3.out).mono ?_
              rintro e w4 ⟨rfl, b4⟩
              have hk4 : w4.cell? ⟨w.heap.size, 0, none⟩ = some (.int .i64 n) := (b4.cell (p := ⟨w.heap.size, 0, none⟩) (by simp; omega)).trans hk0
              have HB4 := Lib.hid (HB3.out.trans (b4.mono HB3.out.size))
              have hz4 : w.heap.size < w4.heap.size := by have := b4.size; simp at this; omega
              clear b4 HB3 HT3 hk0 hk1
              have hZ := pcZ_size k Q
              have HA := Lib.hid (pcZ_app k Q)
              have HS := Lib.hid (show pcS n k Q = if n < 0 ∧ Q ≠ 0 then ⟨#[45]⟩ ++ pcP k (pcZ k Q) else pcP k (pcZ k Q) from rfl)
              have HPP := Lib.hid (show pcP k (pcZ k Q) = if k = 0 then pcZ k Q else (pcZ k Q).extract 0 ((pcZ k Q).size - k) ++ ⟨#[46]⟩ ++ (pcZ k Q).extract ((pcZ k Q).size - k) (pcZ k Q).size from rfl)
              generalize Lib.decDigits Q = ds at *
              generalize pcZ k Q = Z at *
              generalize hc : k + 1 - ds.length = c at *
              go_wp2_with fail
              rw [show max ((k : Int) + 1 - ds.length) 0 = (c : Int) by omega]
              with_reducible refine (repeat_any c _ (by omega)).mono ?_
              rintro e w5 ⟨rfl, b5⟩
              have hk5 : w5.cell? ⟨w.heap.size, 0, none⟩ = some (.int .i64 n) := (b5.cell (p := ⟨w.heap.size, 0, none⟩) hz4).trans hk4
              have HB5 := Lib.hid (HB4.out.trans (b5.mono HB4.out.size))
              clear b5 HB4 hk4
              have ha := HA.out
              clear HA
              generalize (⟨(List.replicate c 48).toArray⟩ : ByteArray) = rz at *
              generalize (⟨ds.toArray⟩ : ByteArray) = dz at *
              have hsz : rz.size + dz.size = Z.size := by rw [← ha]; simp
              have HS2 := HS.out
              rw [HPP.out] at HS2
              have hQn : (Q : Int) ≠ 0 ↔ Q ≠ 0 := by omega
              clear HS HPP
              rcases Nat.eq_zero_or_pos k with hk00 | hk00
              · subst hk00
                rw [if_pos rfl] at HS2
                by_cases hneg : n < 0 ∧ Q ≠ 0
                · rw [if_pos hneg] at HS2
                  have HS3 := Lib.hid HS2
                  obtain ⟨hn0, hQ0⟩ := hneg
                  clear HS2
                  go_wp2
                  go_ret2
                  exact pctOut_ok HE.out HP.out HS3.out HB5.out
                · rw [if_neg hneg] at HS2
                  have HS3 := Lib.hid HS2
                  clear HS2
                  by_cases hn0 : n < 0
                  · have hQ0 : Q = 0 := by omega
                    subst hQ0
                    go_wp2
                    go_ret2
                    exact pctOut_ok HE.out HP.out HS3.out HB5.out
                  · go_wp2
                    go_ret2
                    exact pctOut_ok HE.out HP.out HS3.out HB5.out
              · rw [if_neg (show ¬ k = 0 by omega)] at HS2
                go_wp2_with fail
                go_quiet (fail)
                have hss : (Z.extract 0 (Z.size - k) ++ ⟨#[46]⟩ ++ Z.extract (Z.size - k) Z.size).size ≤ 40 := by
                  rw [ByteArray.size_append, ByteArray.size_append, ByteArray.size_extract, ByteArray.size_extract, show (⟨#[46]⟩ : ByteArray).size = 1 from rfl]
                  omega
                generalize (Z.extract 0 (Z.size - k) ++ ⟨#[46]⟩ ++ Z.extract (Z.size - k) Z.size) = s at *
                by_cases hneg : n < 0 ∧ Q ≠ 0
                · rw [if_pos hneg] at HS2
                  have HS3 := Lib.hid HS2
                  obtain ⟨hn0, hQ0⟩ := hneg
                  clear HS2
                  go_wp2
                  go_ret2
                  exact pctOut_ok HE.out HP.out HS3.out (below_dN HB5.out nq)
                · rw [if_neg hneg] at HS2
                  have HS3 := Lib.hid HS2
                  clear HS2
                  by_cases hn0 : n < 0
                  · have hQ0 : Q = 0 := by omega
                    subst hQ0
                    go_wp2
                    go_ret2
                    exact pctOut_ok HE.out HP.out HS3.out (below_dN HB5.out nq)
                  · go_wp2
                    go_ret2
                    exact pctOut_ok HE.out HP.out HS3.out (below_dN HB5.out nq)
end Go.Proofs.YtdnikegakcdcnaaDoor
