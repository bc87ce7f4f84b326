/- The contract of the reference WeightsOf. -/
import Derived.Test.YtgdagknjnidmiaaGreatDoorM3
set_option linter.unusedVariables false
namespace Go.Proofs.YtgdagknjnidmiaaGreatDoor
open Go.RowKit

set_option maxRecDepth 100000 in
set_option maxHeartbeats 4000000 in
theorem WeightsOf_any (how span : Int) (a : Option Addr) (zs : List Int) (n cp : Nat) (w : World) (hn : zs.length = n) (hn1 : n ≤ 1000) (hI : IntsAt w a zs) :
    Calls Tryz.prog 55 #[.int .i64 how, .int .i64 span, .slice a n cp] w (WeightsOut w how span zs) := by
  obtain ⟨i0, hi, hz0, hz1, hz2⟩ := info_parts infoW
  have HN := Lib.hid hn
  have HI := Lib.hid hI
  clear hn hI
  by_cases b1 : how < 1 ∨ 6 < how
  · have HE := Lib.hid (show wwE how span zs = 4 by unfold wwE; rw [if_pos b1])
    go_enter Tryz.func55, Tryz.ntmps55
    go_wp2
    all_goals first
      | (exfalso; omega)
      | (go_ret2
         exact weightsOut_nil HE.out (by decide) (Below.refl _ _))
  have c1 : 1 ≤ how ∧ how ≤ 6 := by omega
  by_cases b2 : span < 1 ∨ 4321440 < span
  · have HE := Lib.hid (show wwE how span zs = 1 by unfold wwE; rw [if_neg b1, if_pos b2])
    clear b1
    go_enter Tryz.func55, Tryz.ntmps55
    go_wp2
    all_goals first
      | (exfalso; omega)
      | (go_ret2
         exact weightsOut_nil HE.out (by decide) (Below.refl _ _))
  have c2 : 1 ≤ span ∧ span ≤ 4321440 := by omega
  by_cases b3 : 12 < n
  · have HE := Lib.hid (show wwE how span zs = 2 by unfold wwE; rw [if_neg b1, if_neg b2, if_pos (by rw [HN.out]; exact b3)])
    clear b1 b2
    go_enter Tryz.func55, Tryz.ntmps55
    go_wp2
    go_ret2
    exact weightsOut_nil HE.out (by decide) (Below.refl _ _)
  have HE0 := Lib.hid (show wwE how span zs = scanE span zs by unfold wwE; rw [if_neg b1, if_neg b2, if_neg (by rw [HN.out]; exact b3)])
  clear b1 b2
  obtain ⟨sp, rfl⟩ := Int.eq_ofNat_of_zero_le (show 0 ≤ span by omega)
  go_enter Tryz.func55, Tryz.ntmps55
  go_wp2_with fail
  go_loopw [8, 9, 10, 31] (fun v _ _ i wr => ∃ k : Nat, k ≤ n ∧ i = .int .i64 k ∧ (∀ i, i < k → badA sp zs i = 0) ∧ wr.ownsRow w.heap.size 3 1 v k ((wgtL how sp zs k).map (Value.int .i64)) ∧ Below w.heap.size w wr) (fun _ _ _ i _ => n - (intOf i).toNat)
  case atStart => exact ⟨0, Nat.zero_le _, rfl, fun i hi => by omega, World.ownsRow_nil _ _ _ _, Below.refl _ _⟩
  case round =>
    obtain ⟨k, hk, rfl, hgood, hrow, hB⟩ := hrel
    have HG := Lib.hid hgood
    have hsz := hB.size
    clear hgood
    by_cases hlt : k < n
    · have hkz : k < zs.length := by have := HN.out; omega
      obtain ⟨p, off, rfl, hp, hcell⟩ := HI.out.at_ hkz
      have hcell' := (hB.cell (p := ⟨p, off + k, none⟩) hp).trans hcell
      have HBAD := Lib.hid (fun h => HE0.out.trans (scan_bad sp zs k hkz HG.out h))
      by_cases hz : zs[k] < 1 ∨ (sp : Int) < zs[k]
      · have HB1 := Lib.hid (show badA sp zs k = 1 by unfold badA; rw [getD_get zs k hkz, if_pos hz])
        have HE := Lib.hid ((HBAD.out (by rw [HB1.out]; decide)).trans HB1.out)
        have HB := Lib.hid hB
        clear hrow hB hcell
        generalize zs[k] = z at *
        go_wp2
        all_goals first
          | (exfalso; omega)
          | (go_ret2
             exact weightsOut_nil HE.out (by decide) HB.out)
      · have hz' : 1 ≤ zs[k] ∧ zs[k] ≤ (sp : Int) := by omega
        have HF := Lib.hid (wgtL_succ how sp zs k)
        rw [getD_get zs k hkz, HN.out] at HF
        have HB := Lib.hid hB
        by_cases hbad : 0 < k ∧ zs.getD (k - 1) 0 < zs[k]
        · obtain ⟨hk0, ho⟩ := hbad
          have hk1 : k - 1 < zs.length := by omega
          rw [getD_get zs (k - 1) hk1] at ho
          obtain ⟨p2, off2, hpe, hp2, hcell2⟩ := HI.out.at_ hk1
          injection hpe with hpe
          injection hpe with e1 e2 e3
          subst e1 e2
          have hcell2' := (hB.cell (p := ⟨p, off + (k - 1), none⟩) hp).trans hcell2
          have HB1 := Lib.hid (show badA sp zs k = 7 by unfold badA; rw [getD_get zs k hkz, getD_get zs (k - 1) hk1, if_neg hz, if_pos ⟨hk0, ho⟩])
          have HE := Lib.hid ((HBAD.out (by rw [HB1.out]; decide)).trans HB1.out)
          clear hrow hB hcell hcell2 hz
          generalize zs[k] = z at *
          generalize zs[k - 1] = y at *
          go_wp2
          go_ret2
          exact weightsOut_nil HE.out (by decide) HB.out
        · have HB1 := Lib.hid (show badA sp zs k = 0 by unfold badA; rw [getD_get zs k hkz, if_neg hz, if_neg hbad])
          have HG2 := Lib.hid (show ∀ i, i < k + 1 → badA sp zs i = 0 from fun i hi => if h : i = k then by rw [h]; exact HB1.out else HG.out i (by omega))
          have own1 := hrow
          by_cases hk0 : 0 < k
          · have hk1 : k - 1 < zs.length := by omega
            have ho : ¬ zs[k - 1] < zs[k] := fun h => hbad ⟨hk0, by rw [getD_get zs (k - 1) hk1]; exact h⟩
            obtain ⟨p2, off2, hpe, hp2, hcell2⟩ := HI.out.at_ hk1
            injection hpe with hpe
            injection hpe with e1 e2 e3
            subst e1 e2
            have hcell2' := (hB.cell (p := ⟨p, off + (k - 1), none⟩) hp).trans hcell2
            clear hrow hB hcell hcell2 hz hbad
            generalize zs[k] = z at *
            generalize zs[k - 1] = y at *
            obtain ⟨ag, rfl⟩ := Int.eq_ofNat_of_zero_le (show 0 ≤ z by omega)
            simp only [Int.toNat_natCast] at HF
            go_wp2_with fail
            with_reducible refine (weightOf_any how sp ag k n _ c1.1 c1.2 (by omega) (by omega) (by omega) hlt hn1).mono ?_
            rintro e w' ⟨rfl, rfl⟩
            generalize wgt how (18 * ag / sp) k n = x at *
            go_wp2_with (at_builtin; refine wpList_append_own _ rfl _ _ 22 rfl w.heap.size 3 i0 (.int .i64 0) 1 8 Tryz.underlying22 hi hz0 hz1 hz2 rfl (by decide) _ _ _ rfl (own1.alloc _) ⟨wr.heap.size, 0, none⟩ 1 1 [.int .i64 x] rfl rfl ?c1 ?c2 ?c3 ?c4 ?c5 ?_)
            case c1 => exact cell_one_new _ _ _
            case c2 => simp [Value.oneCell']
            case c3 => unfold maxLen; omega
            case c4 => omega
            case c5 => simp; omega
            intro v2 w2 own2 hgrow2 hne2
            have HO2 := Lib.hid (show w2.ownsRow w.heap.size 3 1 v2 (k + 1) ((wgtL how sp zs (k + 1)).map (Value.int .i64)) by rw [HF.out]; simpa using own2)
            have HB2 := Lib.hid ((HB.out.alloc (by omega) _).grown hgrow2 (by simp; omega) (fun q hq => (own1.lt q hq).1))
            clear own2 hgrow2 hne2 own1 HB
            go_wp2
            go_roundw
            case rel => exact ⟨k + 1, by omega, by go_num, HG2.out, HO2.out, HB2.out⟩
            case measure => simp [intOf]; omega
          · obtain rfl : k = 0 := by omega
            have hcell0 : wr.cell? ⟨p, off, none⟩ = some (.int .i64 zs[0]) := hcell'
            clear hrow hB hcell hz hbad
            generalize zs[0] = z at *
            obtain ⟨ag, rfl⟩ := Int.eq_ofNat_of_zero_le (show 0 ≤ z by omega)
            simp only [Int.toNat_natCast] at HF
            have HC := Lib.hid (weightOf_any how sp ag 0 n wr c1.1 c1.2 (by omega) (by omega) (by omega) hlt hn1)
            rw [show ((0 : Nat) : Int) = 0 from rfl] at HC
            go_wp2_with fail
            with_reducible refine HC.out.mono ?_
            rintro e w' ⟨rfl, rfl⟩
            generalize wgt how (18 * ag / sp) 0 n = x at *
            go_wp2_with (at_builtin; refine wpList_append_own _ rfl _ _ 22 rfl w.heap.size 3 i0 (.int .i64 0) 1 8 Tryz.underlying22 hi hz0 hz1 hz2 rfl (by decide) _ _ _ rfl (own1.alloc _) ⟨wr.heap.size, 0, none⟩ 1 1 [.int .i64 x] rfl rfl ?c1 ?c2 ?c3 ?c4 ?c5 ?_)
            case c1 => exact cell_one_new _ _ _
            case c2 => simp [Value.oneCell']
            case c3 => unfold maxLen; omega
            case c4 => omega
            case c5 => simp; omega
            intro v2 w2 own2 hgrow2 hne2
            have HO2 := Lib.hid (show w2.ownsRow w.heap.size 3 1 v2 1 ((wgtL how sp zs (0 + 1)).map (Value.int .i64)) by rw [HF.out]; simpa using own2)
            have HB2 := Lib.hid ((HB.out.alloc (by omega) _).grown hgrow2 (by simp; omega) (fun q hq => (own1.lt q hq).1))
            clear own2 hgrow2 hne2 own1 HB
            go_wp2
            go_roundw
            case rel => exact ⟨1, by omega, rfl, HG2.out, HO2.out, HB2.out⟩
            case measure => simp [intOf]; omega
    · obtain rfl : k = n := by omega
      have HE := Lib.hid (HE0.out.trans (scan_good sp zs (fun i hi => HG.out i (by have := HN.out; omega))))
      have HF := Lib.hid (slice_of_row hrow (wgtL_len _ _ _ _))
      have HB := Lib.hid hB
      clear hrow hB
      go_wp2
      go_ret2
      exact weightsOut_ok HE.out (by rw [HN.out]; exact HF.out) HB.out
end Go.Proofs.YtgdagknjnidmiaaGreatDoor
