/- What is wrong with a split: handref1.SplitFault. -/
import Derived.Test.YtdnikegakcdcnaaDoorCheckSplit
import Derived.Test.YtdnikegakcdcnaaDoorKeyOf
import Derived.Test.YtdnikegakcdcnaaDoorMask
import Derived.Test.YtdnikegakcdcnaaDoorShelf
import Derived.Deep.AppendLies
import Derived.Deep.Onto
set_option linter.unusedVariables false
namespace Go.Proofs.YtdnikegakcdcnaaDoor
open Go.RowKit

theorem infoInt : (Tryd.prog.info? 3).map (fun i => (i.zero, i.size, i.bytes)) = some (some (.int .i64 0), 1, 8) := by kernel_rfl

theorem clone_ints (a : Option Addr) (ws : List Int) (n c : Nat) (w : World) (hn : ws.length = n) (hn0 : 0 < n) (hn1 : n ≤ 1000) (hI : IntsAt w a ws) :
    Calls Tryd.prog 104 #[.slice a n c] w fun e w' => ∃ v', e = .returned v' ∧ w'.ownsRow w.heap.size 3 1 v' n (ws.map (Value.int .i64)) ∧ Below w.heap.size w w' := by
  subst hn
  obtain ⟨p, off, rfl, -, -⟩ := hI 0 hn0
  refine (Tryd.slices_Clone_int p off ws.length c ws w (Nat.le_refl _) (by omega) (fun j hj => ?_)).mono ?_
  · obtain ⟨p', off', h1, h2, h3⟩ := hI j hj
    injection h1 with h1
    injection h1 with e1 e2
    subst e1 e2
    rw [h3, List.getD_eq_getElem?_getD, List.getElem?_eq_getElem hj]
    rfl
  · rintro e w' ⟨v', rfl, h1, -, h2⟩
    rw [List.take_length] at h1
    exact ⟨v', rfl, h1, h2⟩

/-- what region 7 of SplitFault keeps -/
structure JF (w0 : World) (a : Option Addr) (ws : List Int) (n c : Nat) (hold : Int) (b : Msk) (v : Nat → Value) (wr : World) : Prop where
  below : Below w0.heap.size w0 wr
  p1 : b 1 = true → v 21 = .slice a n c
  p2 : b 2 = true → wr.ownsRow w0.heap.size 3 1 (v 22) n (ws.map (Value.int .i64))
  p4 : b 4 = true → v 24 = .int .i64 hold
  p5 : b 5 = true → ∃ h, v 25 = .slice (some ⟨h, 0, none⟩) 1 1 ∧ wr.cell? ⟨h, 0, none⟩ = some (.int .i64 hold)
theorem JF.step {w0 : World} {a : Option Addr} {ws : List Int} {n c : Nat} {hold : Int} {b b' : Msk} {v v' : Nat → Value} {wr wr' : World} (h : JF w0 a ws n c hold b v wr) (bl : Below wr.heap.size wr wr')
    (q1 : b' 1 = true → v' 21 = .slice a n c) (q2 : b' 2 = true → (b 2 = true ∧ v' 22 = v 22) ∨ wr'.ownsRow w0.heap.size 3 1 (v' 22) n (ws.map (Value.int .i64))) (q4 : b' 4 = true → v' 24 = .int .i64 hold)
    (q5 : b' 5 = true → (b 5 = true ∧ v' 25 = v 25) ∨ ∃ h, v' 25 = .slice (some ⟨h, 0, none⟩) 1 1 ∧ wr'.cell? ⟨h, 0, none⟩ = some (.int .i64 hold)) : JF w0 a ws n c hold b' v' wr' := by
  refine ⟨h.below.trans (bl.mono h.below.size), q1, fun e => ?_, q4, fun e => ?_⟩
  · rcases q2 e with ⟨e', ev⟩ | h'
    · rw [ev]; exact (h.p2 e').kept (grown_of_below bl none) (by cases (v 22).ownBlock <;> simp)
    · exact h'
  · rcases q5 e with ⟨e', ev⟩ | h'
    · obtain ⟨k, h1, h2⟩ := h.p5 e'
      exact ⟨k, ev.trans h1, (bl.cell (p := ⟨k, 0, none⟩) (World.block_lt_of_cell? _ _ h2)).trans h2⟩
    · exact h'

set_option maxRecDepth 100000 in
set_option maxHeartbeats 4000000 in
theorem SplitFault_any (name : ByteArray) (a : Option Addr) (ws : List Int) (n c : Nat) (hold : Int) (w : World) (hn : ws.length = n) (hn1 : n ≤ 1000) (hI : IntsAt w a ws) (hn2 : name.size ≤ 100) :
    Calls Tryd.prog 25 #[.agg #[.string name, .slice a n c, .int .i64 hold]] w fun e w' => e = .returned (.int .i64 (splitE (keyB name) ws hold)) ∧ Below w.heap.size w w' := by
  obtain ⟨i0, hi, hz0, hz1, hz2⟩ := info_parts infoInt
  obtain ⟨V, hV⟩ : ∃ V, splitE (keyB name) ws hold = V := ⟨_, rfl⟩
  rw [hV]
  have HV := Lib.hid hV.symm
  clear hV
  unfold splitE at HV
  rw [hn] at HV
  have CK := Lib.hid (fun w => keyOf_any name w (by unfold maxLen; omega))
  generalize keyB name = kb at *
  have HN := Lib.hid hn
  have HI := Lib.hid (hI.alloc (.cells #[.string name, .slice a n c, .int .i64 hold] 45))
  have HB := Lib.hid ((Below.refl w.heap.size w).alloc (Nat.le_refl _) (.cells #[.string name, .slice a n c, .int .i64 hold] 45))
  have HX := Lib.hid (XB.new w [.string name, .slice a n c, .int .i64 hold] 45)
  simp only [List.toArray] at HX
  clear hn hI
  go_enter Tryd.func25, Tryd.ntmps25
  go_wp2_with fail
  with_reducible refine (CK.out _).mono ?_
  rintro e w1 ⟨rfl, b1⟩
  have HI1 := Lib.hid (HI.out.below b1)
  have HX1 := Lib.hid (HX.out.below b1)
  have HB1 := Lib.hid (HB.out.trans (b1.mono HB.out.size))
  generalize hq : w.heap.size = q at *
  have HQ := Lib.hid hq
  clear hq HI HX HB b1 CK
  have x1 := HX1.out.2 1 _ rfl
  have x2 := HX1.out.2 2 _ rfl
  cases kb with
  | false =>
    go_wp2_with fail
    go_ret
    exact ⟨ret_int HV.out.symm, by rw [HQ.out]; exact HB1.out⟩
  | true =>
    have HV1 := Lib.hid (HV.out.trans (if_neg (by simp)))
    by_cases h10 : 10 < n
    · go_wp2_with fail
      go_ret
      exact ⟨ret_int (by rw [HV1.out, if_pos h10]), by rw [HQ.out]; exact HB1.out⟩
    · have HV2 := Lib.hid (HV1.out.trans (if_neg h10))
      by_cases h0 : n = 0
      · subst h0
        go_wp2_with fail
        go_ret
        exact ⟨ret_int (by rw [HV2.out]; simp), by rw [HQ.out]; exact HB1.out⟩
      · have HV3 := Lib.hid (HV2.out.trans (if_neg h0))
        clear HV HV1 HV2
        go_wp2_with fail
        have e0 : ((n : Int) == 0) = false := by simp; omega
        simp only [e0]
        clear e0
        refine wp_region_any (by kernel_rfl) ?_
        change wpAny _ _ _ _ _ _ _ w1.drew
        have HI2 := Lib.hid (show IntsAt w1.drew a ws from HI1.out)
        have HX2 := Lib.hid (show XB w1.drew q _ from HX1.out)
        have HB2 := Lib.hid HB1.out.drew
        clear HI1 HX1 HB1 x1 x2
        generalize w1.drew = w2 at *
        refine wpAny_take (i := 0) (oi := ⟨some 20, _, _, _, _, _⟩) (v := .pointer (some ⟨q, 1, none⟩)) rfl (by kernel_rfl) (by kernel_rfl) (by kernel_rfl) (fun _ _ _ h => h) (Or.inl ⟨by rfl, fun w => by go_simp⟩) ?_
        refine wpAny_take (i := 3) (oi := ⟨some 23, _, _, _, _, _⟩) (v := .pointer (some ⟨q, 2, none⟩)) rfl (by kernel_rfl) (by kernel_rfl) (by kernel_rfl) (fun _ _ _ h => h) (Or.inl ⟨by rfl, fun w => by go_simp⟩) ?_
        refine wpAny_take (i := 8) (oi := ⟨some 28, _, _, _, _, _⟩) (v := .int .i64 0) rfl (by kernel_rfl) (by kernel_rfl) (by kernel_rfl) (fun _ _ _ h => h) (Or.inl ⟨by rfl, fun w => by go_simp⟩) ?_
        refine wpAny_mask (n := 2) (m := 6) #[true, false, false, true, false, false, false, false, true] [1, 2, 4, 5] (fun i => if i = 2 then [1] else if i = 5 then [4] else []) [21, 22, 24, 25] (fun _ => undef) (JF w2 a ws n c hold) rfl (by decide) (by kernel_rfl) (by kernel_rfl) ?st ?hs ?hend
        case st => exact ⟨Below.refl _ _, fun e => (by cases e), fun e => (by cases e), fun e => (by cases e), fun e => (by cases e)⟩
        case hs =>
          intro i hi b u wx hbi hD hJ
          simp only [List.mem_cons, List.mem_nil_iff, or_false] at hi
          have HIx := Lib.hid (HI2.out.below hJ.below)
          have HXx := Lib.hid (HX2.out.below hJ.below)
          have HJ := Lib.hid hJ
          rcases hi with rfl | rfl | rfl | rfl
          · refine wpOp_calm (o := ⟨some 21, ?r11, ?r12, ?r13, ?r14, ?r15⟩) ?r1i ?r1g ?_
            case r1i => exact rfl
            case r1g => exact rfl
            intro K' Q' hK'
            have HK := Lib.hid hK'
            clear hK' hJ
            have y1 := HXx.out.2 1 _ rfl
            simp only [setAll, List.foldl]
            go_simp
            exact HK.out _ _ ⟨upd u 21 (.slice a n c), by kernel_rfl, HJ.out.step (Below.refl _ _) (fun _ => rfl) (fun e => .inl ⟨e, rfl⟩) (fun e => HJ.out.p4 e) (fun e => .inl ⟨e, rfl⟩)⟩
          · refine wpOp_calm (o := ⟨some 22, ?r21, ?r22, ?r23, ?r24, ?r25⟩) ?r2i ?r2g ?_
            case r2i => exact rfl
            case r2g => exact rfl
            intro K' Q' hK'
            have HK := Lib.hid hK'
            have h21 := HJ.out.p1 (hD 1 (by simp))
            clear hK' hJ
            simp only [setAll, List.foldl, h21]
            go_simp
            with_reducible refine (clone_ints a ws n c wx HN.out (by omega) (by omega) HIx.out).mono ?_
            rintro e wy ⟨v', rfl, hown, hby⟩
            exact HK.out _ _ ⟨upd (upd u 21 (.slice a n c)) 22 v', by kernel_rfl, by
              rw [upd_same h21]
              exact HJ.out.step hby (fun e => HJ.out.p1 e) (fun _ => .inr (hown.mono HJ.out.below.size)) (fun e => HJ.out.p4 e) (fun e => .inl ⟨e, rfl⟩)⟩
          · refine wpOp_calm (o := ⟨some 24, ?r31, ?r32, ?r33, ?r34, ?r35⟩) ?r3i ?r3g ?_
            case r3i => exact rfl
            case r3g => exact rfl
            intro K' Q' hK'
            have HK := Lib.hid hK'
            clear hK' hJ
            have y2 := HXx.out.2 2 _ rfl
            simp only [setAll, List.foldl]
            go_simp
            exact HK.out _ _ ⟨upd u 24 (.int .i64 hold), by kernel_rfl, HJ.out.step (Below.refl _ _) (fun e => HJ.out.p1 e) (fun e => .inl ⟨e, rfl⟩) (fun _ => rfl) (fun e => .inl ⟨e, rfl⟩)⟩
          · refine wpOp_calm (o := ⟨some 25, ?r41, ?r42, ?r43, ?r44, ?r45⟩) ?r4i ?r4g ?_
            case r4i => exact rfl
            case r4g => exact rfl
            intro K' Q' hK'
            have HK := Lib.hid hK'
            have h24 := HJ.out.p4 (hD 4 (by simp))
            clear hK' hJ
            simp only [setAll, List.foldl, h24]
            go_simp
            exact HK.out _ _ ⟨upd (upd u 24 (.int .i64 hold)) 25 (.slice (some ⟨wx.heap.size, 0, none⟩) 1 1), by kernel_rfl, by
              rw [upd_same h24]
              exact HJ.out.step ((Below.refl _ _).alloc (Nat.le_refl _) _) (fun e => HJ.out.p1 e) (fun e => .inl ⟨e, rfl⟩) (fun e => HJ.out.p4 e) (fun _ => .inr ⟨_, rfl, (XB.new wx [.int .i64 hold] 3).2 0 _ rfl⟩)⟩
        case hend =>
          intro b u wx hb hJ
          have hown := hJ.p2 (hb 2 (by simp))
          obtain ⟨h, h25, hc25⟩ := hJ.p5 (hb 5 (by simp))
          have h21 := hJ.p1 (hb 1 (by simp))
          have h24 := hJ.p4 (hb 4 (by simp))
          have HBx := Lib.hid hJ.below
          obtain ⟨v22, h22⟩ : ∃ v, u 22 = v := ⟨_, rfl⟩
          rw [h22] at hown
          simp only [setAll, List.foldl, h21, h22, h24, h25]
          clear h21 h22 h24 h25 hb hJ
          have hsz := HBx.out.size
          refine wpAny_ready (rs := [6]) (by kernel_rfl) (by simp) ?_
          refine AllReady.cons rfl (fun K6 hK6 => ?_) AllReady.nil
          refine step_append_lies (o := ⟨some 26, _, _, _, _, _⟩) _ (by rfl) (.tmp 22) (.tmp 25) 22 (by rfl) w2.heap.size 3 i0 (.int .i64 0) 1 8 Tryd.underlying22 hi hz0 hz1 hz2 rfl (by omega) v22 n _ (by kernel_rfl) hown ⟨h, 0, none⟩ 1 1 [.int .i64 hold] (by kernel_rfl) (by rfl) ?cn (by simp [Value.oneCell']) (by omega) (by unfold maxLen; omega) (by omega) hsz _ rfl ?_
          case cn =>
            intro j x hx
            rcases j with _ | j
            · simp at hx; subst hx; simpa [Addr.add] using hc25
            · simp at hx
          intro g cap wy own hgrow hat hlt
          refine hK6 _ _ ?_
          clear hK6 K6
          refine wpAny_ready (rs := [7]) (by kernel_rfl) (by simp) ?_
          refine AllReady.cons rfl (fun K7 hK7 => ?_) AllReady.nil
          go_simp
          refine hK7 _ _ ?_
          clear hK7 K7
          refine wpAny_done (by kernel_rfl) ?_ _
          have hint : ws.map (Value.int .i64) ++ [.int .i64 hold] = (ws ++ [hold]).map (Value.int .i64) := by simp
          rw [hint] at own
          have HIy := Lib.hid (IntsAt.of_own own)
          have B2y := HBx.out.grown hgrow hsz (fun k hk => (hown.lt k hk).1)
          have HBy := Lib.hid (HB2.out.trans (B2y.mono (by have := HB2.out.size; have := HQ.out; omega)))
          have HXy := Lib.hid (HX2.out.below B2y)
          have HWy := Lib.hid (HI2.out.below B2y)
          clear own hgrow hat hown hc25 HBx HB2 HI2 HX2 hint B2y
          have HN1 := Lib.hid (show (ws ++ [hold]).length = n + 1 by simp [HN.out])
          have HT := Lib.hid (fun k h => all_take (ws ++ [hold]) k h)
          have HV4 := Lib.hid (fun h : (ws ++ [hold]).all okW = false => show V = 1 by
            rw [HV3.out]
            rw [List.all_append] at h
            cases h1 : ws.all okW with
            | false => simp
            | true =>
              cases h2 : okW hold with
              | false => simp
              | true => simp [h1, h2] at h)
          have HV5 := Lib.hid (fun h : (ws ++ [hold]).all okW = true => show ((∀ z ∈ ws, 0 ≤ z ∧ z ≤ 1000) ∧ (0 ≤ hold ∧ hold ≤ 1000)) ∧ V = if ws.sum + hold = 0 then 8 else 0 by
            have h' := h
            rw [List.all_append, Bool.and_eq_true] at h'
            have h2 : okW hold = true := by simpa using h'.2
            exact ⟨⟨okW_all h'.1, by simpa [okW] using h2⟩, by rw [HV3.out, if_neg (by simp [h'.1]), if_neg (by simp [h2])]⟩)
          clear HV3
          generalize ws ++ [hold] = us at *
          go_wp2_with fail
          go_loopw [4, 28] (fun _ i wr => ∃ k : Nat, k ≤ n + 1 ∧ i = .int .i64 k ∧ Hid ((us.take k).all okW = true) ∧ wy = wr) (fun _ i _ => n + 1 - (intOf i).toNat)
          case atStart => exact ⟨0, Nat.zero_le _, rfl, Lib.hid rfl, rfl⟩
          case round =>
            obtain ⟨k, hk, rfl, hH, rfl⟩ := hrel
            by_cases hlt : k < n + 1
            · have hkl : k < us.length := by have := HN1.out; omega
              obtain ⟨p, off, hpq, hp, c0⟩ := HIy.out k hkl
              simp only [Option.some.injEq, Addr.mk.injEq, and_true] at hpq
              obtain ⟨rfl, rfl⟩ := hpq
              simp only [Nat.zero_add] at c0
              have HTk := Lib.hid (HT.out k hkl)
              have HM := Lib.hid (fun h : okW us[k] = false => HV4.out (by
                rw [Bool.eq_false_iff]
                intro h'
                have := List.all_eq_true.1 h' us[k] (List.getElem_mem hkl)
                rw [h] at this; cases this))
              generalize us[k] = z at *
              by_cases hz : 0 ≤ z ∧ z ≤ 1000
              · have HR := Lib.hid (HTk.out.trans (by rw [hH.out, show okW z = true by simpa [okW] using hz]))
                obtain ⟨hz1', hz2'⟩ := hz
                go_wp2_with fail
                go_roundw
                case rel => exact ⟨k + 1, by omega, by go_num, HR, trivial⟩
                case measure => simp [intOf]; omega
              · have HR := Lib.hid (HM.out (by simpa [okW] using hz))
                rcases (show z < 0 ∨ 1000 < z by omega) with hz' | hz'
                · go_wp2_with fail
                  go_ret
                  exact ⟨ret_int HR.out.symm, by rw [HQ.out]; exact HBy.out⟩
                · go_wp2_with fail
                  go_ret
                  exact ⟨ret_int HR.out.symm, by rw [HQ.out]; exact HBy.out⟩
            · obtain rfl : k = n + 1 := by omega
              have hall := hH.out
              rw [List.take_of_length_le (by have := HN1.out; omega)] at hall
              obtain ⟨⟨hok, hhb⟩, hV5⟩ := HV5.out hall
              have HV6 := Lib.hid hV5
              have HOK := Lib.hid hok
              have hsb := sumw_bd ws hok
              rw [HN.out] at hsb
              clear hV5 hok HV5 HV4 hall hH HT HIy
              have y1 := HXy.out.2 1 _ rfl
              have y2 := HXy.out.2 2 _ rfl
              go_wp2_with fail
              refine wp_region_still_tail 6 (by kernel_rfl) (by kernel_rfl) ?_
              change wpStill _ _ (World.drew _) (fun a' => wpList _ _ _ _ a' (World.drew _)) _ _
              simp only [List.take_succ_cons, List.take_zero, List.drop_succ_cons, List.drop_zero]
              have z1 : wy.drew.cell? ⟨q, 1, none⟩ = some (.slice a n c) := y1
              have z2 : wy.drew.cell? ⟨q, 2, none⟩ = some (.int .i64 hold) := y2
              have HB7 := Lib.hid HBy.out.drew
              have HI7 := Lib.hid (show IntsAt wy.drew a ws from HWy.out)
              clear y1 y2 HXy HWy HBy
              generalize wy.drew = w7 at *
              have CT := Lib.hid (total_any a ws n c w7 HN.out (by omega) HI7.out (fun z hz => by have := HOK.out z hz; omega))
              obtain ⟨U, hU⟩ : ∃ U, ws.sum = U := ⟨_, rfl⟩
              rw [hU] at CT hsb HV6
              have e1 : IntKind.i64.wrap (U + hold) = U + hold := by rw [IntKind.wrap_i64]; omega
              repeat (first | still_step | still_call (CT.out.mono (fun _ _ h => ⟨h.1, h.2.symm⟩)))
              refine wpStill_nil ?_
              clear CT
              by_cases hz : U + hold = 0
              · go_wp2_with fail
                go_ret
                exact ⟨ret_int (by rw [HV6.out, if_pos hz]), by rw [HQ.out]; exact HB7.out⟩
              · go_wp2_with fail
                go_ret
                exact ⟨ret_int (by rw [HV6.out, if_neg hz]), by rw [HQ.out]; exact HB7.out⟩
end Go.Proofs.YtdnikegakcdcnaaDoor
