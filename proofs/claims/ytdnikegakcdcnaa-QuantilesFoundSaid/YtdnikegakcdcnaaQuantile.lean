/- The contract of measure.Quantile. -/
import Derived.Test.YtdnikegakcdcnaaSorted
import Derived.Test.YtdnikegakcdcnaaQuantileOf
import Derived.Test.YtdnikegakcdcnaaMeasure
set_option linter.unusedVariables false
namespace Go.Proofs.Ytdnikegakcdcnaa
open Go.RowKit Quant

theorem IntsAt.flat {w : World} {a : Option Addr} {zs : List Int} (h : IntsAt w a zs) (h0 : 0 < zs.length) : ∃ p off, a = some ⟨p, off, none⟩ ∧ p < w.heap.size ∧ ∀ j, j < zs.length → w.cell? ⟨p, off + j, none⟩ = some (.int .i64 (zs[j]?.getD 0)) := by
  obtain ⟨p, off, rfl, hp, -⟩ := h 0 h0
  refine ⟨p, off, rfl, hp, fun j hj => ?_⟩
  obtain ⟨p2, off2, e, _, hc⟩ := h j hj
  injection e with e
  injection e with e1 e2 e3
  subst e1 e2
  rw [hc]
  simp [hj]

set_option maxRecDepth 100000 in
set_option maxHeartbeats 4000000 in
theorem Quantile_any (a : Option Addr) (zs : List Int) (n c : Nat) (num den : Int) (w : World) (hn : zs.length = n) (hn1 : n ≤ 1000) (hr : IntsAt w a zs) (h1 : -10000 ≤ num ∧ num ≤ 10000) (h2 : -10000 ≤ den ∧ den ≤ 10000) :
    Calls Try.prog 35 #[.slice a n c, .int .i64 num, .int .i64 den] w fun e w' => e = .returned (.tuple #[.int .i64 (qV zs num den).1, .int .i64 (qV zs num den).2]) ∧ Below w.heap.size w w' := by
  have HN := Lib.hid hn
  have HR := Lib.hid hr
  have HQ := Lib.hid (show qV zs num den = if zs.length = 0 then (0, 8) else if den < 1 ∨ 1000 < den ∨ num < 0 ∨ den < num then (0, 1) else ((srt zs).getD (place zs.length num den) 0, 0) from rfl)
  rw [hn] at HQ
  clear hn hr
  by_cases h0 : n = 0
  · have HQ' := Lib.hid (HQ.out.trans (if_pos h0))
    clear HQ
    generalize qV zs num den = r at *
    subst h0
    go_enter Try.func35, Try.ntmps35
    go_wp2
    go_ret2
    rw [HQ'.out]
    exact ⟨rfl, Below.refl _ _⟩
  have HQ1 := Lib.hid (HQ.out.trans (if_neg h0))
  clear HQ
  by_cases hb : den < 1 ∨ 1000 < den ∨ num < 0 ∨ den < num
  · have HQ' := Lib.hid (HQ1.out.trans (if_pos hb))
    clear HQ1
    generalize qV zs num den = r at *
    go_enter Try.func35, Try.ntmps35
    go_wp2_with fail
    by_cases hd : den < 1 ∨ 1000 < den
    · with_reducible refine (within_no _ _ _ _ hd).mono ?_
      rintro e w' ⟨rfl, rfl⟩
      go_wp2
      go_ret2
      rw [HQ'.out]
      exact ⟨rfl, Below.refl _ _⟩
    · with_reducible refine (within_yes _ _ _ _ (by omega) (by omega)).mono ?_
      rintro e w' ⟨rfl, rfl⟩
      go_wp2_with fail
      with_reducible refine (within_no _ _ _ _ (by omega)).mono ?_
      rintro e w' ⟨rfl, rfl⟩
      go_wp2
      go_ret2
      rw [HQ'.out]
      exact ⟨rfl, Below.refl _ _⟩
  have HQ' := Lib.hid (HQ1.out.trans (if_neg hb))
  clear HQ1
  generalize qV zs num den = r at *
  obtain ⟨pl1, pl2, pl3⟩ := place_lt n num den (by omega) (by omega) (by omega) (by omega)
  have m1 : 0 ≤ num * (n : Int) ∧ num * (n : Int) ≤ 10000000 := by
    have := Int.mul_nonneg (show 0 ≤ num by omega) (show (0 : Int) ≤ n by omega)
    have := Int.mul_le_mul (show num ≤ 1000 by omega) (show (n : Int) ≤ 1000 by omega) (by omega) (by omega)
    omega
  obtain ⟨p, off, rfl, hp, hc⟩ := HR.out.flat (by rw [HN.out]; omega)
  have HC := Lib.hid hc
  clear hc HR
  go_enter Try.func35, Try.ntmps35
  go_wp2_with fail
  with_reducible refine (within_yes _ _ _ _ (by omega) (by omega)).mono ?_
  rintro e w' ⟨rfl, rfl⟩
  go_wp2_with fail
  with_reducible refine (within_yes _ _ _ _ (by omega) (by omega)).mono ?_
  rintro e w' ⟨rfl, rfl⟩
  go_wp2_with fail
  with_reducible refine (values_any _ _ _ _).mono ?_
  rintro e w' ⟨rfl, rfl⟩
  go_wp2_with fail
  have HS := Lib.hid (fun (w1 : World) => sorted_any w.heap.size p off c zs (by rw [HN.out]; omega) (by rw [HN.out]; unfold maxLen; omega) (by rw [HN.out]; omega) w1)
  rw [HN.out] at HS
  with_reducible refine (HS.out _ ?h1 ?h2 ?h3 ?h4).mono ?_
  case h1 => simp
  case h2 => simp; omega
  case h3 => go_simp
  case h4 =>
    intro j hj
    exact (Below.cell (w := w) ((Below.refl _ w).alloc (Nat.le_refl _) _) (p := ⟨p, off + j, none⟩) hp).trans (HC.out j (by rw [HN.out]; exact hj))
  rintro e w1 ⟨v, rfl, hown, hB⟩
  obtain ⟨g, cap, rfl, _, hlt⟩ := hown.form (by omega)
  have hB' : Below w.heap.size w w1 := ((Below.refl _ w).alloc (Nat.le_refl _) _).trans (hB.mono (by simp))
  have hcell : w1.cell? ⟨g, place n num den, none⟩ = some (.int .i64 ((srt zs).getD (place n num den) 0)) := by
    refine (hown.cellAt _ (by omega)).trans ?_
    have hl : place n num den < (srt zs).length := by rw [srt_len, HN.out]; exact pl1
    show (List.map _ (srt zs))[_]? = _
    simp [hl]
  have HQ2 := Lib.hid (show r = ((srt zs).getD (place n num den) 0, 0) by rw [HQ'.out])
  have hpl : (place n num den : Int) = max ((num * n + den - 1).tdiv den) 1 - 1 := by unfold place; omega
  clear hown hB HQ' HS HC
  generalize (srt zs).getD (place n num den) 0 = ans at *
  generalize place n num den = m at *
  have hmx : max ((num * (n : Int) + den - 1) / den) 1 = (m : Int) + 1 := by
    rw [← Int.tdiv_eq_ediv_of_nonneg (by omega)]
    omega
  clear hpl pl2 pl3
  go_upto_region 9 with (fail)
  clear hmx
  go_wp2
  go_ret2
  rw [HQ2.out]
  exact ⟨rfl, hB'⟩
end Go.Proofs.Ytdnikegakcdcnaa
